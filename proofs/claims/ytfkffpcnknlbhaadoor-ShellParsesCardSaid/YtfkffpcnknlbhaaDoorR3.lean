/-
  DERIVED. lockstepref30.Next, number, trimmed: what they come to.
  Conditions: texts shorter than the rounds that are let.
-/
import Derived.Test.YtfkffpcnknlbhaaDoorR2
set_option linter.all false
set_option maxHeartbeats 4000000
namespace Go.Proofs.YtfkffpcnknlbhaaDoor
namespace Ab
set_option maxRecDepth 100000
set_option maxHeartbeats 4000000

theorem at_get {l : Bs} {i : Nat} (h : i < l.length) : ∃ x, l[i]? = some x ∧ l.drop i = x :: l.drop (i + 1) :=
  ⟨l[i], List.getElem?_eq_getElem h, List.drop_eq_getElem_cons h⟩
theorem byte_eq {x c : UInt8} {n : Int} (hn : (c.toNat : Int) = n) (h : x = c) : ((x.toNat : Int) == n) = true := by simp [h, hn]
theorem byte_ne {x c : UInt8} {n : Int} (hn : (c.toNat : Int) = n) (h : x ≠ c) : ((x.toNat : Int) == n) = false := by
  rw [beq_eq_false_iff_ne, ← hn]
  intro h2
  exact h (UInt8.toNat_inj.1 (by omega))
theorem byte_ne' {x c : UInt8} {n : Int} (hn : (c.toNat : Int) = n) (h : x ≠ c) : ((x.toNat : Int) != n) = true := by
  simp [bne, byte_ne hn h]
theorem byte_eq' {x c : UInt8} {n : Int} (hn : (c.toNat : Int) = n) (h : x = c) : ((x.toNat : Int) != n) = false := by
  simp [bne, byte_eq hn h]

theorem drop_split (l : Bs) (i k : Nat) (h1 : i ≤ k) : (l.drop i).take (k - i) ++ l.drop k = l.drop i := by
  have : l.drop k = (l.drop i).drop (k - i) := by rw [List.drop_drop]; congr 1; omega
  rw [this, List.take_append_drop]

theorem tail_take (l : Bs) (j : Nat) : (l.drop j).take (l.length - j) = l.drop j := List.take_of_length_le (by simp)

theorem loop8b (call : CallT) (k : Nat) (l : Bs) (i nx0 : Nat) (hi : i ≤ l.length) (hl : l.length < 2 ^ 40) (hk : l.length < k) {Q : Ex × St → Prop}
    (hQ : ∀ j nx, i ≤ j → j ≤ l.length → (l.drop i).take (j - i) = (l.drop i).takeWhile (· != 32) → l.drop j = (l.drop i).dropWhile (· != 32) →
      Q (.exit 2, { env := [(0, .s (ba l)), (4, .i .i64 (i : Nat)), (5, .i .i64 (j : Nat)), (28, .b false)], loc := [], hp := [], nx := nx })) :
    wp (loopK cfg call k 8 (loopOf Tryd.f8 1) { env := [(0, .s (ba l)), (4, .i .i64 (i : Nat)), (5, .i .i64 (i : Nat))], loc := [], hp := [], nx := nx0 }) Q := by
  refine loop_wp (ι := Nat × Nat) (fun j => { env := [(0, .s (ba l)), (4, .i .i64 (i : Nat)), (5, .i .i64 (j.1 : Nat))], loc := [], hp := [], nx := j.2 }) (fun j => l.length - j.1)
    (fun j => i ≤ j.1 ∧ j.1 ≤ l.length ∧ (l.drop i).take (j.1 - i) ++ (l.drop j.1).takeWhile (· != 32) = (l.drop i).takeWhile (· != 32) ∧ (l.drop j.1).dropWhile (· != 32) = (l.drop i).dropWhile (· != 32)) (i, _) rfl ⟨Nat.le_refl _, hi, by simp, rfl⟩ (by simp only; omega) ?_
  rintro Next ⟨j, nx⟩ ⟨h1, h2, h3, h4⟩ hnext
  simp only at h1 h2 h3 h4 hnext ⊢
  by_cases hj : j < l.length
  · obtain ⟨x, hx, hd⟩ := at_get hj
    have c1 : (j : Int) < l.length := by omega
    have c2 : (0 : Int) ≤ j := by omega
    have c3 : IntKind.i64.wrap ((j : Int) + 1) = j + 1 := wrap_i64 (by omega) (by omega)
    rw [hd] at h3 h4
    by_cases h32 : x = 32
    · have g := byte_eq' (c := 32) (n := 32) rfl h32
      subst h32
      simp at h3 h4
      simp [loopOf, loopsIn, Tryd.f8, c1, c2, hx, g]
      exact hQ j _ h1 h2 h3 (by rw [hd]; exact h4)
    · have g := byte_ne' (c := 32) (n := 32) rfl h32
      have g2 : (x != 32) = true := by simp [h32]
      simp [loopOf, loopsIn, Tryd.f8, c1, c2, c3, hx, g]
      refine hnext (j + 1, _) (by simp only; omega) ⟨by simp only; omega, hj, ?_, ?_⟩
      · simp only
        rw [← h3, List.takeWhile_cons, if_pos g2]
        have e : (l.drop i).take (j + 1 - i) = (l.drop i).take (j - i) ++ [x] := by
          have e1 : j + 1 - i = (j - i) + 1 := by omega
          rw [e1, List.take_add_one, List.getElem?_drop, show i + (j - i) = j by omega, hx]
          rfl
        rw [e, List.append_assoc]
        rfl
      · simp only
        rw [← h4, List.dropWhile_cons, if_pos g2]
  · obtain rfl : j = l.length := by omega
    rw [List.drop_of_length_le (Nat.le_refl _)] at h3 h4
    simp at h3 h4
    simp [loopOf, loopsIn, Tryd.f8]
    exact hQ l.length _ h1 h2 (by rw [← h3]) (by rw [List.drop_of_length_le (Nat.le_refl _)]; exact h4.symm)

theorem run8 (call : CallT) (k : Nat) (l : Bs) (hl : l.length < 2 ^ 40) (hk : l.length < k) : Ends cfg call k 8 [.s (ba l)] [] 0 fun r _ _ => r = .tup [.s (ba (nxW l)), .s (ba (nxR l))] := by
  refine run_wp Tryd.func8 rfl (by simp [Tryd.f8]) ?_
  simp
  refine loop_wp (ι := Nat × Nat) (fun i => { env := [(0, .s (ba l)), (4, .i .i64 (i.1 : Nat))], loc := [], hp := [], nx := i.2 }) (fun i => l.length - i.1)
    (fun i => i.1 ≤ l.length ∧ blanks (l.drop i.1) = blanks l) (0, _) rfl ⟨Nat.zero_le _, rfl⟩ (by simpa using hk) ?_
  rintro Next ⟨i, nx⟩ ⟨hi0, hb⟩ hnext
  simp only at hi0 hb hnext ⊢
  have hfin : l.drop i = blanks l → ∀ nx', wp (loopK cfg call k 8 (loopOf Tryd.f8 1) { env := [(0, .s (ba l)), (4, .i .i64 (i : Nat)), (5, .i .i64 (i : Nat))], loc := [], hp := [], nx := nx' }) (fun x => ∃ j nx2, i ≤ j ∧ j ≤ l.length ∧ (l.drop i).take (j - i) = nxW l ∧ l.drop j = nxR l ∧ x = (.exit 2, { env := [(0, .s (ba l)), (4, .i .i64 (i : Nat)), (5, .i .i64 (j : Nat)), (28, .b false)], loc := [], hp := [], nx := nx2 })) := by
    intro he nx'
    refine loop8b call k l i nx' hi0 hl hk fun j nx2 a b c d => ⟨j, nx2, a, b, ?_, ?_, rfl⟩
    · rw [c, he]; rfl
    · rw [d, he]; rfl
  by_cases hi : i < l.length
  · obtain ⟨x, hx, hd⟩ := at_get hi
    have c1 : (i : Int) < l.length := by omega
    have c2 : (0 : Int) ≤ i := by omega
    have c3 : IntKind.i64.wrap ((i : Int) + 1) = i + 1 := wrap_i64 (by omega) (by omega)
    rw [hd] at hb
    by_cases h32 : x = 32
    · have g := byte_eq (c := 32) (n := 32) rfl h32
      subst h32
      rw [blanks_cons] at hb
      simp [c1, c2, c3, hx, g]
      exact hnext (i + 1, _) (by simp only; omega) ⟨hi, hb⟩
    · have g := byte_ne (c := 32) (n := 32) rfl h32
      have he : l.drop i = blanks l := by
        rw [hd, ← hb]
        simp [blanks, h32]
      simp [c1, c2, hx, g]
      refine wp_mono (hfin he _) ?_
      rintro _ ⟨j, nx2, h1, h2, h3, h4, rfl⟩
      have c4 : (0 : Int) ≤ j := by omega
      simp [c2, c4, h1, h2, hi0, ba_cut, tail_take, h3, h4]
      exact ⟨⟨by kernel_rfl, by kernel_rfl⟩, by rw [← h4, tail_take]⟩
  · obtain rfl : i = l.length := by omega
    have he : l.drop l.length = blanks l := by
      rw [← hb, List.drop_of_length_le (Nat.le_refl _)]; rfl
    simp
    refine wp_mono (hfin he _) ?_
    rintro _ ⟨j, nx2, h1, h2, h3, h4, rfl⟩
    have c4 : (0 : Int) ≤ j := by omega
    have c2 : (0 : Int) ≤ l.length := by omega
    simp [c2, c4, h1, h2, hi0, ba_cut, tail_take, h3, h4]
    exact ⟨⟨by kernel_rfl, by kernel_rfl⟩, by rw [← h3]; simp, by rw [← h4, List.drop_of_length_le h1]⟩

/-- Without blanks behind. -/
def trimR (l : Bs) : Bs := Lib.trimRightB l 32
theorem trimR_cons (b : UInt8) (l : Bs) : trimR (b :: l) = if trimR l = [] then (if b = 32 then [] else [b]) else b :: trimR l := by
  unfold trimR Lib.trimRightB
  rw [List.reverse_cons, List.dropWhile_append]
  by_cases h : l.reverse.dropWhile (· == 32) = []
  · rw [h]
    by_cases hb : b = 32
    · subst hb; simp
    · simp [hb]
  · have h2 : (l.reverse.dropWhile (· == 32)).isEmpty = false := by
      cases hd : l.reverse.dropWhile (· == 32) with
      | nil => exact absurd hd h
      | cons _ _ => rfl
    rw [h2]
    simp [h]
theorem trimR_snoc (l : Bs) : trimR (l ++ [32]) = trimR l := by
  unfold trimR Lib.trimRightB
  simp
theorem trimR_keep (l : Bs) (b : UInt8) (h : b ≠ 32) : trimR (l ++ [b]) = l ++ [b] := by
  unfold trimR Lib.trimRightB
  simp [h]
theorem trim_eq : ∀ l : Bs, trim l = trimR (blanks l)
  | [] => rfl
  | b :: l => by
    by_cases h : b = 32
    · subst h
      rw [trim_cons, blanks_cons, trim_eq l]
    · have e1 : blanks (b :: l) = b :: l := by simp [blanks, h]
      rw [e1]
      unfold trim
      rw [Lib.trimS_one]
      show Lib.trimLeftB (trimR (b :: l)) 32 = _
      rw [trimR_cons]
      unfold Lib.trimLeftB
      by_cases h2 : trimR l = []
      · simp [h2, h]
      · simp [h2, h]

theorem run13 (call : CallT) (k : Nat) (l : Bs) (hl : l.length < 2 ^ 40) (hk : l.length < k) : Ends cfg call k 13 [.s (ba l)] [] 0 fun r _ _ => r = .s (ba (trim l)) := by
  rw [trim_eq]
  refine run_wp Tryd.func13 rfl (by simp [Tryd.f13]) ?_
  simp
  refine loop_wp (ι := Nat × Nat) (fun i => { env := [(0, .s (ba l)), (3, .i .i64 (i.1 : Nat)), (4, .i .i64 (l.length : Nat))], loc := [], hp := [], nx := i.2 }) (fun i => l.length - i.1)
    (fun i => i.1 ≤ l.length ∧ blanks (l.drop i.1) = blanks l) (0, _) rfl ⟨Nat.zero_le _, rfl⟩ (by simpa using hk) ?_
  rintro Next ⟨i, nx⟩ ⟨hi0, hb⟩ hnext
  simp only at hi0 hb hnext ⊢
  have hfin : l.drop i = blanks l → ∀ nx', wp (loopK cfg call k 13 (loopOf Tryd.f13 1) { env := [(0, .s (ba l)), (3, .i .i64 (i : Nat)), (4, .i .i64 (l.length : Nat)), (15, .b false)], loc := [], hp := [], nx := nx' }) (fun x => ∃ j nx2 b, i ≤ j ∧ j ≤ l.length ∧ (l.drop i).take (j - i) = trimR (blanks l) ∧ x = (.exit 2, { env := [(0, .s (ba l)), (3, .i .i64 (i : Nat)), (4, .i .i64 (j : Nat)), (27, .b b)], loc := [], hp := [], nx := nx2 })) := by
    intro he nx'
    obtain ⟨Q2, hQ2⟩ : ∃ Q2 : Ex × St → Prop, Q2 = (fun x => ∃ j nx2 b, i ≤ j ∧ j ≤ l.length ∧ (l.drop i).take (j - i) = trimR (blanks l) ∧ x = (.exit 2, { env := [(0, .s (ba l)), (3, .i .i64 (i : Nat)), (4, .i .i64 (j : Nat)), (27, .b b)], loc := [], hp := [], nx := nx2 })) := ⟨_, rfl⟩
    rw [← hQ2]
    refine loop_wp (ι := Nat × Nat × List (Nat × AV)) (fun j => { env := [(0, .s (ba l)), (3, .i .i64 (i : Nat)), (4, .i .i64 (j.1 : Nat))] ++ j.2.2, loc := [], hp := [], nx := j.2.1 }) (fun j => j.1)
      (fun j => (j.2.2 = [] ∨ j.2.2 = [(15, .b false)]) ∧ i ≤ j.1 ∧ j.1 ≤ l.length ∧ trimR ((l.drop i).take (j.1 - i)) = trimR (blanks l)) (l.length, _, [(15, .b false)]) rfl ⟨.inr rfl, hi0, Nat.le_refl _, by rw [tail_take, he]⟩ (by simpa using hk) ?_
    rintro Next2 ⟨j, nx2, ee⟩ ⟨hee, h1, h2, h3⟩ hnext2
    simp only at hee h1 h2 h3 hnext2 ⊢
    by_cases hj : i < j
    · have hj1 : j - 1 < l.length := by omega
      obtain ⟨x, hx, hd⟩ := at_get hj1
      have c1 : (i : Int) < j := by omega
      have c2 : (0 : Int) ≤ (j : Int) - 1 := by omega
      have c3 : IntKind.i64.wrap ((j : Int) - 1) = j - 1 := wrap_i64 (by omega) (by omega)
      have c4 : ((j : Int) - 1).toNat = j - 1 := by omega
      have c5 : (1 : Int) ≤ j := by omega
      have hs : (l.drop i).take (j - i) = (l.drop i).take (j - 1 - i) ++ [x] := by
        have e1 : j - i = (j - 1 - i) + 1 := by omega
        rw [e1, List.take_add_one, List.getElem?_drop, show i + (j - 1 - i) = j - 1 by omega, hx]
        rfl
      rw [hs] at h3
      by_cases h32 : x = 32
      · have g := byte_eq (c := 32) (n := 32) rfl h32
        subst h32
        rw [trimR_snoc] at h3
        have := fun nx' => hnext2 (j - 1, nx', []) (by simp only; omega) ⟨.inl rfl, by simp only; omega, by simp only; omega, h3⟩
        have e5 : ((j - 1 : Nat) : Int) = (j : Int) - 1 := by omega
        simp only [e5] at this
        rcases hee with rfl | rfl <;> simp [loopOf, loopsIn, Tryd.f13, c1, c2, c3, c4, c5, hx, g] <;> exact this _
      · have g := byte_ne (c := 32) (n := 32) rfl h32
        rw [trimR_keep _ _ h32] at h3
        rcases hee with rfl | rfl <;> simp [loopOf, loopsIn, Tryd.f13, c1, c2, c3, c4, c5, hx, g] <;> rw [hQ2] <;>
          exact ⟨j, _, _, h1, h2, by rw [hs]; exact h3, rfl⟩
    · obtain rfl : j = i := by omega
      have h5 : (l.drop j).take (j - j) = trimR (blanks l) := by
        rw [← h3]; simp [trimR, Lib.trimRightB]
      rcases hee with rfl | rfl <;> simp [loopOf, loopsIn, Tryd.f13] <;> rw [hQ2] <;>
        exact ⟨j, _, _, Nat.le_refl _, h2, h5, rfl⟩
  by_cases hi : i < l.length
  · obtain ⟨x, hx, hd⟩ := at_get hi
    have c1 : (i : Int) < l.length := by omega
    have c2 : (0 : Int) ≤ i := by omega
    have c3 : IntKind.i64.wrap ((i : Int) + 1) = i + 1 := wrap_i64 (by omega) (by omega)
    rw [hd] at hb
    by_cases h32 : x = 32
    · have g := byte_eq (c := 32) (n := 32) rfl h32
      subst h32
      rw [blanks_cons] at hb
      simp [c1, c2, c3, hx, g]
      exact hnext (i + 1, _) (by simp only; omega) ⟨hi, hb⟩
    · have g := byte_ne (c := 32) (n := 32) rfl h32
      have he : l.drop i = blanks l := by
        rw [hd, ← hb]
        simp [blanks, h32]
      simp [c1, c2, hx, g]
      refine wp_mono (hfin he _) ?_
      rintro _ ⟨j, nx2, b, h1, h2, h3, rfl⟩
      have c4 : (0 : Int) ≤ j := by omega
      simp [c2, c4, h1, h2, hi0, ba_cut, h3]
  · obtain rfl : i = l.length := by omega
    have he : l.drop l.length = blanks l := by
      rw [← hb, List.drop_of_length_le (Nat.le_refl _)]; rfl
    simp
    refine wp_mono (hfin he _) ?_
    rintro _ ⟨j, nx2, b, h1, h2, h3, rfl⟩
    obtain rfl : j = l.length := by omega
    have h5 : trimR (blanks l) = [] := by rw [← h3]; simp
    have c2 : (0 : Int) ≤ l.length := by omega
    simp [c2, ba_cut, h5]
    rfl

/-- What digits spell. -/
def valF : Bs → Int → Int
  | [], a => a
  | b :: r, a => valF r (10 * a + ((b.toNat : Int) - 48))
def numR (l : Bs) : Int := if fitsW 68 l = true then valF l 0 else -1
theorem valF_pos : ∀ (l : Bs) (a : Int), digits l = true → 0 ≤ a → 0 ≤ valF l a
  | [], a, _, h => h
  | b :: r, a, hd, h => by
    unfold digits at hd
    rw [List.all_cons, Bool.and_eq_true] at hd
    have h1 := hd.1
    simp only [Bool.and_eq_true, decide_eq_true_eq] at h1
    exact valF_pos r _ hd.2 (by omega)
theorem numR_neg (l : Bs) : decide (numR l < 0) = !fitsW 68 l := by
  unfold numR
  cases h : fitsW 68 l
  · rfl
  · have : digits l = true := by
      have hf : fitsW 68 l = (!l.isEmpty && (decide (l.length ≤ 4) && digits l)) := rfl
      rw [hf] at h
      simp only [Bool.and_eq_true] at h
      exact h.2.2
    have := valF_pos l 0 this (Int.le_refl _)
    simp; omega

theorem u8_wrap {x : Int} (h1 : 0 ≤ x) (h2 : x < 256) : IntKind.u8.wrap x = x := by
  unfold IntKind.wrap
  have hb : IntKind.u8.bits = 8 := rfl
  rw [hb]
  have hm : x % 2 ^ 8 = x := Int.emod_eq_of_lt h1 (by omega)
  rw [hm, if_neg]
  simp only [Bool.and_eq_true, decide_eq_true_eq, not_and]
  intro h
  exact absurd h (by decide)

theorem run14 (call : CallT) (k : Nat) (l : Bs) (hk : 4 < k) : Ends cfg call k 14 [.s (ba l)] [] 0 fun r _ _ => r = .i .i64 (numR l) := by
  have hf : fitsW 68 l = (!l.isEmpty && (decide (l.length ≤ 4) && digits l)) := rfl
  obtain ⟨e, he⟩ : ∃ e, numR l = e := ⟨_, rfl⟩
  rw [he]
  refine run_wp Tryd.func14 rfl (by simp [Tryd.f14]) ?_
  by_cases h1 : (l.length : Int) < 1
  · have h0 : l = [] := List.length_eq_zero_iff.1 (by omega)
    subst h0
    subst he
    simp [numR, hf]
  by_cases h2 : (4 : Int) < l.length
  · have : fitsW 68 l = false := by rw [hf]; simp; omega
    simp only [numR, this] at he
    simp at he
    subst he
    simp [h1, h2]
  have h0'' : l.isEmpty = false := by cases l; simp at h1; rfl
  simp [h1, h2]
  refine loop_wp (ι := Nat × Nat × Int) (fun i => { env := [(0, .s (ba l)), (3, .i .i64 i.2.2), (4, .i .i64 (i.1 : Nat))], loc := [], hp := [], nx := i.2.1 }) (fun i => l.length - i.1)
    (fun i => i.1 ≤ l.length ∧ 0 ≤ i.2.2 ∧ i.2.2 < 10 ^ i.1 ∧ (if digits (l.drop i.1) = true then valF (l.drop i.1) i.2.2 else -1) = e) (0, _, 0) rfl ⟨Nat.zero_le _, Int.le_refl _, by simp, ?_⟩ (by simp only; omega) ?_
  · rw [← he]
    unfold numR
    rw [hf, h0'']
    have : decide (l.length ≤ 4) = true := decide_eq_true (by omega)
    simp [this]
  rintro Next ⟨i, nx, n⟩ ⟨hi0, hn0, hn1, hv⟩ hnext
  simp only at hi0 hn0 hn1 hv hnext ⊢
  by_cases hi : i < l.length
  · obtain ⟨x, hx, hd⟩ := at_get hi
    have c1 : (i : Int) < l.length := by omega
    have c2 : (0 : Int) ≤ i := by omega
    have c3 : IntKind.i64.wrap ((i : Int) + 1) = i + 1 := wrap_i64 (by omega) (by omega)
    rw [hd] at hv
    have hdx : digits (x :: l.drop (i + 1)) = (decide (48 ≤ x.toNat) && decide (x.toNat ≤ 57) && digits (l.drop (i + 1))) := by simp [digits]
    rw [hdx] at hv
    by_cases q1 : (x.toNat : Int) < 48
    · have : decide (48 ≤ x.toNat) = false := decide_eq_false (by omega)
      rw [this] at hv
      simp at hv
      subst hv
      simp [c1, c2, hx, q1]
    by_cases q2 : (57 : Int) < x.toNat
    · have : decide (x.toNat ≤ 57) = false := decide_eq_false (by omega)
      rw [this] at hv
      simp at hv
      subst hv
      simp [c1, c2, hx, q1, q2]
    have t1 : decide (48 ≤ x.toNat) = true := decide_eq_true (by omega)
    have t2 : decide (x.toNat ≤ 57) = true := decide_eq_true (by omega)
    rw [t1, t2, Bool.true_and, Bool.true_and] at hv
    have hpow : (10 : Int) ^ i ≤ 10 ^ 3 := by
      have : i ≤ 3 := by omega
      rcases (by omega : i = 0 ∨ i = 1 ∨ i = 2 ∨ i = 3) with rfl | rfl | rfl | rfl <;> decide
    have hp3 : (10 : Int) ^ 3 = 1000 := by decide
    have w1 : IntKind.i64.wrap (10 * n) = 10 * n := wrap_i64 (by omega) (by omega)
    have w2 : IntKind.u8.wrap ((x.toNat : Int) - 48) = x.toNat - 48 := u8_wrap (by omega) (by omega)
    have w3 : IntKind.i64.wrap ((x.toNat : Int) - 48) = x.toNat - 48 := wrap_i64 (by omega) (by omega)
    have w4 : IntKind.i64.wrap (10 * n + ((x.toNat : Int) - 48)) = 10 * n + (x.toNat - 48) := wrap_i64 (by omega) (by omega)
    simp [c1, c2, c3, hx, q1, q2, convA, w1, w2, w3, w4]
    refine hnext (i + 1, _, 10 * n + ((x.toNat : Int) - 48)) (by simp only; omega) ⟨hi, by simp only; omega, ?_, hv⟩
    simp only
    rw [Int.pow_succ]
    omega
  · obtain rfl : i = l.length := by omega
    rw [List.drop_of_length_le (Nat.le_refl _)] at hv
    have : digits [] = true := rfl
    simp [this, valF] at hv
    subst hv
    simp

end Ab
end Go.Proofs.YtfkffpcnknlbhaaDoor

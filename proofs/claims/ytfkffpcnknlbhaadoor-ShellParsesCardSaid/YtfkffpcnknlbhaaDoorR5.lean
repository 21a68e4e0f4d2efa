/-
  DERIVED. strings.FieldsFunc with shell.words' closure: what it comes to.
  Conditions: texts shorter than the rounds that are let.
-/
import Derived.Test.YtfkffpcnknlbhaaDoorR4
import Derived.Lib.MapLaws
import Derived.Lib.ValidU
set_option linter.all false
set_option maxHeartbeats 4000000
namespace Go.Proofs.YtfkffpcnknlbhaaDoor
namespace Ab
open Go.Lib
set_option maxRecDepth 100000
set_option maxHeartbeats 4000000
attribute [local simp] appendA appRow newsA rowsSz rowsOf isIntD makeSliceA elemOf rowsBuilt

theorem decodeL_dropB (l : Bs) (pos : Nat) : decodeL (l.drop pos) = Utf8.decode (ba l) pos := by
  have := decodeL_drop (ba l) pos
  simpa using this

def nb (l : Bs) : Bool := l.all (· != 32)
theorem nb_one {x : UInt8} (h : x ≠ 32) : (x != 32) = true := by simp [h]
theorem nbv {x : UInt8} (h : 128 ≤ x.toNat) : (x != 32) = true := by
  rw [bne_iff_ne]
  rintro rfl
  simp at h
/-- One step of the decoder: a blank, or a rune in whose bytes there is none. -/
theorem dec_blank (l : Bs) (hne : l ≠ []) :
    ((decodeL l).1 = 32 ∧ (decodeL l).2 = 1 ∧ ∃ t, l = 32 :: t) ∨
    ((decodeL l).1 ≠ 32 ∧ 1 ≤ (decodeL l).2 ∧ (decodeL l).2 ≤ l.length ∧ nb (l.take (decodeL l).2) = true) := by
  have hl : 0 < l.length := List.length_pos_iff.2 hne
  obtain ⟨x, t, rfl⟩ : ∃ x t, l = x :: t := by cases l with
    | nil => exact absurd rfl hne
    | cons x t => exact ⟨x, t, rfl⟩
  rw [decodeL_N]
  have k0 := ((x :: t).getD 0 0).toNat_lt
  have e0 : (x :: t).getD 0 0 = x := rfl
  by_cases hx : x.toNat < 128
  · have hd : decodeN (x :: t).length ((x :: t).getD 0 0).toNat ((x :: t).getD 1 0).toNat ((x :: t).getD 2 0).toNat ((x :: t).getD 3 0).toNat = (x.toNat, 1) := by
      rw [e0]; unfold decodeN; rw [if_pos hx]
    rw [hd]
    by_cases h : x = 32
    · subst h
      exact .inl ⟨rfl, rfl, t, rfl⟩
    · refine .inr ⟨?_, by simp, by simp, by simp [nb, h]⟩
      intro h2
      exact h (UInt8.toNat_inj.1 h2)
  · right
    rcases decodeN_shape (x :: t).length ((x :: t).getD 0 0).toNat ((x :: t).getD 1 0).toNat ((x :: t).getD 2 0).toNat ((x :: t).getD 3 0).toNat with ⟨c, e⟩ | ⟨c1, c2, c3, cv, e⟩ | ⟨c1, c2, c3, c4, cv, cs, e⟩ | ⟨c1, c2, c3, c4, c5, cv, cw, e⟩ | e
    · rw [e0] at c; omega
    · rw [e]
      refine ⟨by dsimp only; omega, by dsimp only; omega, by dsimp only; omega, ?_⟩
      simp only [takeB _ c2, nb, List.all_cons, List.all_nil, Bool.and_true]
      rw [nbv (by omega), nbv (by omega)]; rfl
    · rw [e]
      refine ⟨by dsimp only; omega, by dsimp only; omega, by dsimp only; omega, ?_⟩
      simp only [takeC _ c2, nb, List.all_cons, List.all_nil, Bool.and_true]
      rw [nbv (by omega), nbv (by omega), nbv (by omega)]; rfl
    · rw [e]
      refine ⟨by dsimp only; omega, by dsimp only; omega, by dsimp only; omega, ?_⟩
      simp only [takeD _ c2, nb, List.all_cons, List.all_nil, Bool.and_true]
      rw [nbv (by omega), nbv (by omega), nbv (by omega), nbv (by omega)]; rfl
    · rw [e]
      refine ⟨by simp, by simp, by simp, ?_⟩
      have : (x != 32) = true := nbv (by omega)
      simp [nb, this]

/-- Words and runs. -/
theorem nxW_run (a b : Bs) (hne : a ≠ []) (h : nb a = true) (hb : b = [] ∨ ∃ t, b = 32 :: t) : nxW (a ++ b) = a ∧ nxR (a ++ b) = b := by
  obtain ⟨x, t, rfl⟩ : ∃ x t, a = x :: t := by cases a with
    | nil => exact absurd rfl hne
    | cons x t => exact ⟨x, t, rfl⟩
  have hx : (x != 32) = true := by unfold nb at h; rw [List.all_cons, Bool.and_eq_true] at h; exact h.1
  have hx' : (x == 32) = false := by simpa [bne] using hx
  have e : blanks (x :: t ++ b) = x :: t ++ b := by
    unfold blanks
    rw [List.cons_append, List.dropWhile_cons, hx']
    rfl
  have hb1 : b.takeWhile (· != 32) = [] := by
    rcases hb with rfl | ⟨t, rfl⟩
    · rfl
    · rfl
  have hb2 : b.dropWhile (· != 32) = b := by
    rcases hb with rfl | ⟨t, rfl⟩
    · rfl
    · rfl
  have key : ∀ a : Bs, nb a = true → (a ++ b).takeWhile (· != 32) = a ∧ (a ++ b).dropWhile (· != 32) = b := by
    intro a
    induction a with
    | nil => intro _; exact ⟨hb1, hb2⟩
    | cons y a ih =>
      intro h
      unfold nb at h
      rw [List.all_cons, Bool.and_eq_true] at h
      have := ih h.2
      simp only [List.cons_append, List.takeWhile_cons, List.dropWhile_cons, h.1, if_true]
      exact ⟨by rw [this.1], this.2⟩
  unfold nxW nxR
  rw [e]
  exact key _ h
theorem wordsOf_run (a b : Bs) (hne : a ≠ []) (h : nb a = true) (hb : b = [] ∨ ∃ t, b = 32 :: t) : wordsOf (a ++ b) = a :: wordsOf b := by
  have := nxW_run a b hne h hb
  rw [wordsOf_step, this.1, this.2, if_neg hne]
theorem wordsOf_nil : wordsOf [] = [] := rfl

/-- Spans that were found. -/
def spr (sp : List (Nat × Nat)) : List (List AV) := sp.map fun x => [.i .i64 (x.1 : Nat), .i .i64 (x.2 : Nat)]
def cutsOf (l : Bs) (sp : List (Nat × Nat)) : List Bs := sp.map fun x => (l.drop x.1).take (x.2 - x.1)
theorem spr_len (sp : List (Nat × Nat)) : (spr sp).length = sp.length := by simp [spr]
theorem cuts_len (l : Bs) (sp : List (Nat × Nat)) : (cutsOf l sp).length = sp.length := by simp [cutsOf]

theorem run31 (call : CallT) (k : Nat) (r : Int) : Ends cfg call k 31 [.i .i32 r] [] 0 fun x _ _ => x = .b (r == 32) := by
  refine run_wp Tryd.func31 rfl (by simp [Tryd.f31]) ?_
  simp

/-- What is there of a text when the runs are told up to p: none open (what is left at p), or one that began at a. -/
structure Spans (l : Bs) (p : Nat) (sp : List (Nat × Nat)) (z : Int) : Prop where
  le : p ≤ l.length
  ok : ∀ x ∈ sp, x.1 ≤ x.2 ∧ x.2 ≤ l.length
  len : sp.length ≤ p
  st : (-9223372036854775808 ≤ z ∧ z < 0 ∧ cutsOf l sp ++ wordsOf (l.drop p) = wordsOf l) ∨
    ∃ a : Nat, z = a ∧ a < p ∧ nb ((l.drop a).take (p - a)) = true ∧ cutsOf l sp ++ wordsOf (l.drop a) = wordsOf l ∧ sp.length < p

theorem cutsOf_snoc (l : Bs) (sp : List (Nat × Nat)) (a b : Nat) : cutsOf l (sp ++ [(a, b)]) = cutsOf l sp ++ [(l.drop a).take (b - a)] := by simp [cutsOf]
theorem run_ne {l : Bs} {a p : Nat} (h : a < p) (hp : p ≤ l.length) : (l.drop a).take (p - a) ≠ [] := by
  intro h2
  have := congrArg List.length h2
  simp at this
  omega
theorem Spans.zero (l : Bs) (hl : 0 ≤ l.length) : Spans l 0 [] (-1) := ⟨Nat.zero_le _, by simp, by simp, .inl ⟨by decide, by decide, rfl⟩⟩
theorem Spans.blank_none {l : Bs} {p : Nat} {sp : List (Nat × Nat)} {z : Int} {t : Bs} (h : Spans l p sp z) (hz : z < 0) (hd : l.drop p = 32 :: t) : Spans l (p + 1) sp z := by
  have hlt : p < l.length := by
    have := congrArg List.length hd
    simp at this; omega
  have ht : l.drop (p + 1) = t := by rw [← List.drop_drop, hd]; rfl
  refine ⟨hlt, h.ok, by have := h.len; omega, ?_⟩
  rcases h.st with ⟨h1, h2, h3⟩ | ⟨a, rfl, _⟩
  · refine .inl ⟨h1, h2, ?_⟩
    rw [ht, ← h3, hd, wordsOf_cons]
  · omega
theorem Spans.blank_open {l : Bs} {p : Nat} {sp : List (Nat × Nat)} {a : Nat} {t : Bs} {v : Int} (h : Spans l p sp a) (hd : l.drop p = 32 :: t) (hv : -9223372036854775808 ≤ v) (hv0 : v < 0) :
    Spans l (p + 1) (sp ++ [(a, p)]) v := by
  have hlt : p < l.length := by
    have := congrArg List.length hd
    simp at this; omega
  have ht : l.drop (p + 1) = t := by rw [← List.drop_drop, hd]; rfl
  rcases h.st with ⟨h1, h2, h3⟩ | ⟨a', h0, h1, h2, h3, h4⟩
  · omega
  obtain rfl : a = a' := by omega
  refine ⟨hlt, ?_, by simp; omega, .inl ⟨hv, hv0, ?_⟩⟩
  · intro x hx
    rcases List.mem_append.1 hx with hx | hx
    · exact h.ok x hx
    · simp at hx; subst hx; exact ⟨by simp only; omega, by simp only; omega⟩
  · rw [cutsOf_snoc, ← h3, List.append_assoc, ht]
    congr 1
    have := wordsOf_run _ _ (run_ne h1 h.le) h2 (.inr ⟨t, hd⟩)
    rw [drop_split l a p (by omega), hd, wordsOf_cons] at this
    rw [this]
    rfl
theorem Spans.rune_none {l : Bs} {p n : Nat} {sp : List (Nat × Nat)} {z : Int} (h : Spans l p sp z) (hz : z < 0) (hn : 1 ≤ n) (hle : p + n ≤ l.length) (hb : nb ((l.drop p).take n) = true) : Spans l (p + n) sp p := by
  rcases h.st with ⟨h1, h2, h3⟩ | ⟨a, rfl, _⟩
  · exact ⟨hle, h.ok, by have := h.len; omega, .inr ⟨p, rfl, by omega, by rw [show p + n - p = n by omega]; exact hb, h3, by have := h.len; omega⟩⟩
  · omega
theorem Spans.rune_open {l : Bs} {p n : Nat} {sp : List (Nat × Nat)} {a : Nat} (h : Spans l p sp a) (hn : 1 ≤ n) (hle : p + n ≤ l.length) (hb : nb ((l.drop p).take n) = true) : Spans l (p + n) sp a := by
  rcases h.st with ⟨h1, h2, h3⟩ | ⟨a', h0, h1, h2, h3, h4⟩
  · omega
  obtain rfl : a = a' := by omega
  refine ⟨hle, h.ok, by have := h.len; omega, .inr ⟨a, rfl, by omega, ?_, h3, by omega⟩⟩
  have e : (l.drop a).take (p + n - a) = (l.drop a).take (p - a) ++ (l.drop p).take n := by
    rw [show p + n - a = (p - a) + n by omega, List.take_add, List.drop_drop, show a + (p - a) = p by omega]
  rw [e]
  unfold nb at *
  rw [List.all_append, h2, hb]
  rfl
theorem Spans.end_none {l : Bs} {sp : List (Nat × Nat)} {z : Int} (h : Spans l l.length sp z) (hz : z < 0) : cutsOf l sp = wordsOf l := by
  rcases h.st with ⟨h1, h2, h3⟩ | ⟨a, rfl, _⟩
  · rw [List.drop_of_length_le (Nat.le_refl _), wordsOf_nil, List.append_nil] at h3
    exact h3
  · omega
theorem Spans.end_open {l : Bs} {sp : List (Nat × Nat)} {a : Nat} (h : Spans l l.length sp a) : cutsOf l (sp ++ [(a, l.length)]) = wordsOf l ∧ a ≤ l.length ∧ sp.length < l.length := by
  rcases h.st with ⟨h1, h2, h3⟩ | ⟨a', h0, h1, h2, h3, h4⟩
  · omega
  obtain rfl : a = a' := by omega
  refine ⟨?_, by omega, h4⟩
  rw [cutsOf_snoc, ← h3]
  congr 1
  have := wordsOf_run ((l.drop a).take (l.length - a)) [] (run_ne h1 (Nat.le_refl _)) h2 (.inl rfl)
  rw [List.append_nil] at this
  rw [tail_take] at this
  rw [tail_take, this]
  rfl

theorem not_neg {a : Nat} (h : a < 2 ^ 40) : IntKind.i64.wrap ((BitVec.ofInt IntKind.i64.bits (if IntKind.i64.signed = true then -1 else IntKind.i64.max) ^^^ BitVec.ofInt IntKind.i64.bits (a : Int)).toNat : Int) = -1 - (a : Int) := by
  have e1 : BitVec.ofInt 64 (-1) = BitVec.allOnes 64 := by decide
  show IntKind.i64.wrap ((BitVec.ofInt 64 (-1) ^^^ BitVec.ofInt 64 (a : Int)).toNat : Int) = _
  rw [e1]
  show IntKind.i64.wrap ((BitVec.allOnes 64 ^^^ BitVec.ofInt 64 (a : Int)).toNat : Int) = _
  rw [BitVec.allOnes_xor, BitVec.toNat_not]
  have e2 : (BitVec.ofInt 64 (a : Int)).toNat = a := by
    rw [BitVec.toNat_ofInt]
    have : ((a : Int) % ((2 ^ 64 : Nat) : Int)) = a := Int.emod_eq_of_lt (by omega) (by omega)
    rw [this]; rfl
  rw [e2]
  unfold IntKind.wrap
  have hb : IntKind.i64.bits = 64 := rfl
  rw [hb]
  have h2 : ((2 ^ 64 - 1 - a : Nat) : Int) = 18446744073709551615 - (a : Int) := by omega
  rw [h2]
  have hm : (18446744073709551615 - (a : Int)) % 2 ^ 64 = 18446744073709551615 - (a : Int) := Int.emod_eq_of_lt (by omega) (by omega)
  rw [hm, if_pos]
  · omega
  · simp only [Bool.and_eq_true, decide_eq_true_eq]
    exact ⟨rfl, by omega⟩

theorem set_rep {α : Type} (A : List α) (z w : α) (m : Nat) : (A ++ List.replicate (m + 1) z).set A.length w = (A ++ [w]) ++ List.replicate m z := by
  rw [List.set_append_right _ _ (Nat.le_refl _), Nat.sub_self, List.replicate_succ, List.set_cons_zero, List.append_assoc]
  rfl
theorem take_snoc {α : Type} {l : List α} {i : Nat} {x : α} (h : l[i]? = some x) : l.take (i + 1) = l.take i ++ [x] := by
  rw [List.take_add_one, h]; rfl
theorem loop30b (call : CallT) (k : Nat) (l : Bs) (sp : List (Nat × Nat)) (g nx0 kk : Nat) (hh0 : Hp) (hl : l.length < 2 ^ 20) (hsl : sp.length ≤ l.length) (hk : sp.length < k) (hok : ∀ x ∈ sp, x.1 ≤ x.2 ∧ x.2 ≤ l.length)
    (h1 : lk hh0 1 = some (g, .arr 2 (spr sp))) (h9 : lk hh0 kk = some (0, .arr 1 (List.replicate sp.length [.s (ba [])]))) (hk1 : 1 < kk) (hkx : kk < nx0) {Q : Ex × St → Prop}
    (hQ : ∀ nx hh, lk hh kk = some (0, .arr 1 (txts (cutsOf l sp))) →
      Q (.exit 2, { env := [(0, .s (ba l)), (9, .rs kk 0 0 sp.length 1), (47, .rs 1 g 0 sp.length 2), (48, .i .i64 (sp.length : Nat)), (49, .i .i64 (sp.length : Nat)), (50, .b false)], loc := [], hp := hh, nx := nx })) :
    wp (loopK cfg call k 30 (loopOf Tryd.f30 1) { env := [(0, .s (ba l)), (9, .rs kk 0 0 sp.length 1), (47, .rs 1 g 0 sp.length 2), (48, .i .i64 (sp.length : Nat)), (49, .i .i64 0)], loc := [], hp := hh0, nx := nx0 }) Q := by
  refine loop_wp (ι := Nat × Nat × Hp)
    (fun i => { env := [(0, .s (ba l)), (9, .rs kk 0 0 sp.length 1), (47, .rs 1 g 0 sp.length 2), (48, .i .i64 (sp.length : Nat)), (49, .i .i64 (i.1 : Nat))], loc := [], hp := i.2.2, nx := i.2.1 })
    (fun i => sp.length - i.1)
    (fun i => i.1 ≤ sp.length ∧ kk < i.2.1 ∧ lk i.2.2 1 = some (g, .arr 2 (spr sp)) ∧ lk i.2.2 kk = some (0, .arr 1 (txts (cutsOf l (sp.take i.1)) ++ List.replicate (sp.length - i.1) [.s (ba [])]))) (0, _, _) rfl ⟨Nat.zero_le _, hkx, h1, by simpa [cutsOf, txts] using h9⟩ (by simpa using hk) ?_
  rintro Next ⟨i, nx, hh⟩ ⟨hi0, hnx, hs1, hs2⟩ hnext
  simp only at hi0 hnx hs1 hs2 hnext ⊢
  have f1 : ∀ c, ¬ nx + c = 1 := fun c => by omega
  have f2 : ∀ c, ¬ 1 = nx + c := fun c => by omega
  have f3 : ∀ c, ¬ nx + c = kk := fun c => by omega
  have f4 : ∀ c, ¬ kk = nx + c := fun c => by omega
  have f5 : ¬ kk = 1 := by omega
  have f6 : ¬ 1 = kk := by omega
  by_cases hi : i < sp.length
  · obtain ⟨⟨a, b⟩, hx⟩ : ∃ x, sp[i]? = some x := ⟨_, List.getElem?_eq_getElem hi⟩
    have hab := hok (a, b) (List.mem_of_getElem? hx)
    simp only at hab
    have c1 : (i : Int) < sp.length := by omega
    have c2 : (0 : Int) ≤ i := by omega
    have c3 : IntKind.i64.wrap ((i : Int) + 1) = i + 1 := wrap_i64 (by omega) (by omega)
    have c4 : (0 : Int) ≤ a := by omega
    have c5 : (0 : Int) ≤ b := by omega
    have c6 : (a : Int) ≤ b := by omega
    have hspr : (spr sp)[i]? = some [.i .i64 (a : Nat), .i .i64 (b : Nat)] := by simp [spr, hx]
    obtain ⟨m, hm⟩ : ∃ m, sp.length - i = m + 1 := ⟨sp.length - i - 1, by omega⟩
    have hm2 : sp.length - (i + 1) = m := by omega
    have hAl : (txts (cutsOf l (sp.take i))).length = i := by rw [txts_len, cuts_len, List.length_take]; omega
    obtain ⟨A, hA⟩ : ∃ A, txts (cutsOf l (sp.take i)) = A := ⟨_, rfl⟩
    rw [hA] at hAl hs2
    rw [hm] at hs2
    have hget : (A ++ List.replicate (m + 1) [AV.s (ba [])])[i]? = some [.s (ba [])] := by
      rw [List.getElem?_append_right (by omega), hAl, Nat.sub_self]; rfl
    have hset : (A ++ List.replicate (m + 1) [AV.s (ba [])]).set i [.s (ba ((l.drop a).take (b - a)))] = txts (cutsOf l (sp.take (i + 1))) ++ List.replicate m [AV.s (ba [])] := by
      conv => lhs; rw [← hAl]
      rw [set_rep, take_snoc hx, cutsOf_snoc, ← txts_snoc, hA]
    simp [loopOf, loopsIn, Tryd.f30, Nat.add_assoc, c1, c2, c3, c4, c5, c6, hab, hs1, hs2, hspr, hget, lk_set, f1, f2, f3, f4, f5, f6, ba_cut, hset]
    refine hnext (i + 1, _, _) (by simp only; omega) ⟨hi, ?_, ?_, ?_⟩
    · simp only; omega
    · simp [lk_set, hs1, f5, f6]
    · simp [lk_set, hm2]
  · obtain rfl : i = sp.length := by omega
    simp [loopOf, loopsIn, Tryd.f30]
    refine hQ _ _ ?_
    rw [hs2]
    simp

theorem run30 (call : CallT) (k : Nat) (l : Bs) (hl : l.length < 2 ^ 20) (hk : l.length + 1 < k) (h31 : ∀ r : Int, pR call 31 [.i .i32 r] = some (.b (r == 32))) :
    Ends cfg call k 30 [.s (ba l), .fn 31 []] [] 0 fun r hp nx => ∃ kk g, r = .rs kk g 0 (wordsOf l).length 1 ∧ lk hp kk = some (g, .arr 1 (txts (wordsOf l))) := by
  refine run_wp Tryd.func30 rfl (by simp [Tryd.f30]) ?_
  simp [mostB]
  refine loop_wp (ι := Nat × Nat × List (Nat × Nat) × Int × (List (Nat × AV) × List (Nat × AV)) × Hp × Nat)
    (fun i => { env := [(0, .s (ba l)), (1, .fn 31 []), (5, .rs 1 i.2.2.2.2.2.2 0 i.2.2.1.length 2), (6, .i .i64 i.2.2.2.1)] ++ i.2.2.2.2.1.1 ++ [(14, .ptr 5 0 0)] ++ i.2.2.2.2.1.2, loc := [], hp := i.2.2.2.2.2.1, nx := i.2.1 })
    (fun i => l.length - i.1)
    (fun i => Spans l i.1 i.2.2.1 i.2.2.2.1 ∧ lk i.2.2.2.2.2.1 1 = some (i.2.2.2.2.2.2, .arr 2 (spr i.2.2.1)) ∧ lk i.2.2.2.2.2.1 5 = some (0, .sit (ba l) i.1) ∧ 5 < i.2.1 ∧
      (i.2.2.2.2.1 = ([], []) ∨ (∃ q, i.2.2.2.2.1 = ([(7, .i .i64 q)], [(23, .b false)])) ∨ (∃ q, i.2.2.2.2.1 = ([(7, .i .i64 q)], [(33, .b false)])))) (0, 6, [], -1, ([], []), _, 0) rfl ⟨.zero l (Nat.zero_le _), rfl, rfl, by simp only; omega, .inl rfl⟩ (by simp only; omega) ?_
  rintro Next ⟨p, nx, sp, z, e, hh, g⟩ ⟨hT, hs1, hs2, hnx, he⟩ hnext
  simp only at hT hs1 hs2 hnx he hnext ⊢
  have f1 : ∀ c, ¬ nx + c = 1 := fun c => by omega
  have f2 : ∀ c, ¬ 1 = nx + c := fun c => by omega
  have f3 : ∀ c, ¬ nx + c = 5 := fun c => by omega
  have f4 : ∀ c, ¬ 5 = nx + c := fun c => by omega
  have hTle := hT.le
  have hTlen := hT.len
  by_cases hp : p < l.length
  · obtain ⟨r, wd, hd⟩ : ∃ r wd, Utf8.decode (ba l) p = (r, wd) := ⟨_, _, rfl⟩
    have hne : l.drop p ≠ [] := by
      intro h
      have := congrArg List.length h
      simp at this; omega
    have hb := dec_blank _ hne
    rw [decodeL_dropB, hd] at hb
    simp only at hb
    have hlen : (l.drop p).length = l.length - p := by simp
    rw [hlen] at hb
    rcases hb with ⟨rfl, rfl, t, ht⟩ | ⟨hr, hw1, hw2, hnb⟩
    · by_cases hz : z < 0
      · have c1 : ¬ (0 : Int) ≤ z := by omega
        rcases he with rfl | ⟨q, rfl⟩ | ⟨q, rfl⟩ <;> simp [hs1, hs2, lk_set, hp, hd, h31, c1] <;>
          (refine hnext (p + 1, _, sp, z, ([(7, .i .i64 p)], [(23, .b false)]), _, g) (by simp only; omega) ⟨hT.blank_none hz ht, ?_, ?_, ?_, .inr (.inl ⟨p, rfl⟩)⟩
           · simp [lk_set, hs1]
           · simp [lk_set]
           · simp only; omega)
      · have c1 : (0 : Int) ≤ z := by omega
        obtain ⟨a, rfl⟩ : ∃ a : Nat, z = a := ⟨z.toNat, by omega⟩
        have ha : a < p := by
          rcases hT.st with ⟨_, h, _⟩ | ⟨a', h, h2, _⟩ <;> omega
        have w1 := not_neg (a := a) (by omega)
        simp at w1
        have hbo : Spans l (p + 1) (sp ++ [(a, p)]) (-1 - (a : Int)) := hT.blank_open ht (by omega) (by omega)
        have d2 : (sp.length + 1) * 17 ≤ 68719476736 := by omega
        have hl2 : (sp ++ [(a, p)]).length = sp.length + 1 := by simp
        have hn := fun nx' hh' => hnext (p + 1, nx', sp ++ [(a, p)], -1 - (a : Int), ([], []), hh', g + 1)
        simp only [hl2] at hn
        rcases he with rfl | ⟨q, rfl⟩ | ⟨q, rfl⟩ <;> simp [mostB, spr_len, Nat.add_assoc, hs1, hs2, lk_set, hp, hd, h31, c1, w1, f1, f2, f3, f4, d2] <;>
          (refine hn _ _ (by omega) ⟨hbo, ?_, ?_, ?_, .inl trivial⟩
           · simp [lk_set, spr]
           · simp [lk_set]
           · omega)
    · have hr2 : ((r : Int) == 32) = false := by rw [beq_eq_false_iff_ne]; omega
      by_cases hz : z < 0
      · rcases he with rfl | ⟨q, rfl⟩ | ⟨q, rfl⟩ <;> simp [hs1, hs2, lk_set, hp, hd, h31, hr2, hz] <;>
          (refine hnext (p + wd, _, sp, p, ([], []), _, g) (by simp only; omega) ⟨hT.rune_none hz hw1 (by omega) hnb, ?_, ?_, ?_, .inl rfl⟩
           · simp [lk_set, hs1]
           · simp [lk_set]
           · simp only; omega)
      · obtain ⟨a, rfl⟩ : ∃ a : Nat, z = a := ⟨z.toNat, by omega⟩
        rcases he with rfl | ⟨q, rfl⟩ | ⟨q, rfl⟩ <;> simp [hs1, hs2, lk_set, hp, hd, h31, hr2, hz] <;>
          (refine hnext (p + wd, _, sp, a, ([(7, .i .i64 p)], [(33, .b false)]), _, g) (by simp only; omega) ⟨hT.rune_open hw1 (by omega) hnb, ?_, ?_, ?_, .inr (.inr ⟨p, rfl⟩)⟩
           · simp [lk_set, hs1]
           · simp [lk_set]
           · simp only; omega)
  · obtain rfl : p = l.length := by omega
    by_cases hz : z < 0
    · have c1 : ¬ (0 : Int) ≤ z := by omega
      have d1 : sp.length * 17 ≤ 68719476736 := by omega
      have hw := hT.end_none hz
      have hwl : (wordsOf l).length = sp.length := by rw [← hw, cuts_len]
      rcases he with rfl | ⟨q, rfl⟩ | ⟨q, rfl⟩ <;> simp [mostB, spr_len, hs1, hs2, lk_set, c1, d1] <;>
        (refine loop30b call k l sp g _ _ _ hl hTlen (by omega) hT.ok ?_ ?_ ?_ ?_ ?_
         · simp [lk_set, hs1]
         · simp [lk_set]; exact .inr rfl
         · omega
         · omega
         · intro nx' hh' h'
           rw [hw] at h'
           simp [hwl]
           exact ⟨_, _, ⟨rfl, rfl⟩, h'⟩)
    · obtain ⟨a, rfl⟩ : ∃ a : Nat, z = a := ⟨z.toNat, by omega⟩
      have c1 : (0 : Int) ≤ a := by omega
      obtain ⟨hw, hal, hsl⟩ := hT.end_open
      have d2 : (sp.length + 1) * 17 ≤ 68719476736 := by omega
      have d1 : (sp ++ [(a, l.length)]).length * 17 ≤ 68719476736 := by simp; omega
      have hwl : (wordsOf l).length = sp.length + 1 := by rw [← hw, cuts_len]; simp
      have hl2 : (sp ++ [(a, l.length)]).length = sp.length + 1 := by simp
      have hok : ∀ x ∈ sp ++ [(a, l.length)], x.1 ≤ x.2 ∧ x.2 ≤ l.length := by
        intro x hx
        rcases List.mem_append.1 hx with hx | hx
        · exact hT.ok x hx
        · simp at hx; subst hx; exact ⟨by simp only; omega, by simp only; omega⟩
      have hLL := fun g nx kk hh => loop30b call k l (sp ++ [(a, l.length)]) g nx kk hh hl (by rw [hl2]; omega) (by rw [hl2]; omega) hok
      rw [hl2] at hLL
      push_cast at hLL
      have c7 : (0 : Int) ≤ (sp.length : Int) + 1 := by omega
      rcases he with rfl | ⟨q, rfl⟩ | ⟨q, rfl⟩ <;> simp [mostB, spr_len, Nat.add_assoc, hs1, hs2, lk_set, f1, f2, f3, f4, c1, c7, d1, d2] <;>
        (refine hLL (g + 1) _ _ _ ?_ ?_ ?_ ?_ ?_
         · simp [lk_set, hs1, spr]
         · simp [lk_set]; rfl
         · omega
         · omega
         · intro nx' hh' h'
           rw [hw] at h'
           simp [hwl]
           exact ⟨_, _, ⟨rfl, rfl⟩, h'⟩)

end Ab
end Go.Proofs.YtfkffpcnknlbhaaDoor

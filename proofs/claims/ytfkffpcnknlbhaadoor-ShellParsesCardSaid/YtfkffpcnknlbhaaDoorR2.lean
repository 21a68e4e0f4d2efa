/-
  DERIVED. shell.word, shell.number, shell.fits, lockstepref30.Next, number, trimmed: what they come to.
  Conditions: texts shorter than the rounds that are let.
-/
import Derived.Test.YtfkffpcnknlbhaaDoorR1
set_option linter.all false
set_option maxHeartbeats 4000000
namespace Go.Proofs.YtfkffpcnknlbhaaDoor
namespace Ab
set_option maxRecDepth 100000
set_option maxHeartbeats 4000000

theorem wrap_i64 {x : Int} (h1 : -9223372036854775808 ≤ x) (h2 : x ≤ 9223372036854775807) : IntKind.i64.wrap x = x := by
  unfold IntKind.wrap
  have hb : IntKind.i64.bits = 64 := rfl
  rw [hb]
  by_cases hx : 0 ≤ x
  · have hm : x % 2 ^ 64 = x := Int.emod_eq_of_lt hx (by omega)
    rw [hm, if_neg]
    simp only [Bool.and_eq_true, decide_eq_true_eq, not_and]
    intro _
    omega
  · have hm : x % 2 ^ 64 = x + 2 ^ 64 := by
      rw [← Int.add_emod_right]
      exact Int.emod_eq_of_lt (by omega) (by omega)
    rw [hm, if_pos]
    · omega
    · simp only [Bool.and_eq_true, decide_eq_true_eq]
      exact ⟨rfl, by omega⟩

theorem c11 (call : CallT) (st : St) (nx : Nat) (dst : Option Nat) (l : Bs) (c : UInt8) (h : l.length < 4294967281) : goCall cfg call st nx dst 11 [.s (ba l), .s ⟨#[c]⟩] = some (⟨dst, .tup [.s (ba (hd c l)), .s (ba (tl c l)), .b (l.contains c)], [], none, some []⟩, nx) := by
  have : cfg.intr 11 = intr30 11 := rfl
  simp [goCall, this, intr30, h]
theorem c18 (call : CallT) (st : St) (nx : Nat) (dst : Option Nat) (l p : Bs) (h : l.length < 4294967281) (hp : p.length < 4294967281) (ha : (p.all fun b => decide (b.toNat < 128)) = true) : goCall cfg call st nx dst 18 [.s (ba l), .s (ba p)] = some (⟨dst, .s (ba (Lib.trimS l p)), [], none, some []⟩, nx) := by
  have : cfg.intr 18 = intr30 18 := rfl
  simp only [goCall, this, intr30, ba_size, ba_data]
  rw [if_pos ⟨h, hp, ha⟩]
  rfl
theorem c22 (call : CallT) (st : St) (nx : Nat) (dst : Option Nat) (l p : Bs) (hp : p.length < 4294967281) (ha : (p.all fun b => decide (b.toNat < 128)) = true) : goCall cfg call st nx dst 22 [.s (ba l), .s (ba p)] = some (⟨dst, .s (ba (Lib.trimLeftS l p)), [], none, some []⟩, nx) := by
  have : cfg.intr 22 = intr30 22 := rfl
  simp only [goCall, this, intr30, ba_size, ba_data]
  rw [if_pos ⟨hp, ha⟩]
  rfl
theorem c41 (call : CallT) (st : St) (nx : Nat) (dst : Option Nat) (l : Bs) (n : Int) (h : l.length ≤ 18) (hn : Lib.atoi l = some n) : goCall cfg call st nx dst 41 [.s (ba l)] = some (⟨dst, .tup [.i .i64 n, .undef], [], none, some []⟩, nx) := by
  have : cfg.intr 41 = intr30 41 := rfl
  simp [goCall, this, intr30, h, hn]

theorem run16 (call : CallT) (k : Nat) (l : Bs) (hl : l.length < 4294967281) : Ends cfg call k 16 [.s (ba l)] [] 0 fun r _ _ => r = .tup [.s (ba (nxW l)), .s (ba (nxR l).tail)] := by
  have h1 := fun st nx dst => c22 call st nx dst l [32] (by decide) (by decide)
  have e : Lib.trimLeftS l [32] = blanks l := Lib.trimLeftS_one l 32
  rw [e] at h1
  have h2 := fun st nx dst => c11 call st nx dst (blanks l) 32 (by have := blanks_le l; omega)
  refine run_wp Tryd.func16 rfl (by simp [Tryd.f16]) ?_
  have hb : ba [32] = ⟨#[32]⟩ := rfl
  rw [hb] at h1
  simp [h1, h2]
  exact ⟨rfl, by rw [← List.drop_one]; rfl⟩

theorem dropSet {p : UInt8 → Bool} {l : Bs} (h : l.dropWhile p = []) : ∀ x ∈ l, p x = true := by
  induction l with
  | nil => intro x hx; cases hx
  | cons b l ih =>
    intro x hx
    rw [List.dropWhile_cons] at h
    split at h
    · rename_i hb
      rcases List.mem_cons.1 hx with rfl | hx
      · exact hb
      · exact ih h x hx
    · cases h
theorem trimS_nil (l p : Bs) : (Lib.trimS l p = []) ↔ ∀ x ∈ l, p.contains x = true := by
  unfold Lib.trimS Lib.trimLeftS Lib.trimRightS
  constructor
  · intro h
    have h1 := dropSet h
    by_cases hr : l.reverse.dropWhile (p.contains ·) = []
    · intro x hx
      exact dropSet hr x (List.mem_reverse.2 hx)
    · intro x hx
      obtain ⟨y, r, hy⟩ : ∃ y r, l.reverse.dropWhile (p.contains ·) = y :: r := by
        cases hd : l.reverse.dropWhile (p.contains ·) with
        | nil => exact absurd hd hr
        | cons y r => exact ⟨y, r, rfl⟩
      have h2 := h1 y (by rw [hy]; simp)
      have h3 : p.contains y = false := by
        have := List.head?_dropWhile_not (p.contains ·) l.reverse
        rw [hy] at this
        simpa using this
      rw [h2] at h3; cases h3
  · intro h
    rw [drop_all (l := l.reverse) fun x hx => h x (List.mem_reverse.1 hx)]
    rfl

theorem dec_set (b : UInt8) : ([48, 49, 50, 51, 52, 53, 54, 55, 56, 57] : Bs).contains b = (decide (48 ≤ b.toNat) && decide (b.toNat ≤ 57)) := by
  have h : ∀ n, n < 256 → ([48, 49, 50, 51, 52, 53, 54, 55, 56, 57] : Bs).contains (UInt8.ofNat n) = (decide (48 ≤ n) && decide (n ≤ 57)) := by decide
  have := h b.toNat b.toNat_lt
  simpa using this

theorem digits_nil (l : Bs) : (Lib.trimS l [48, 49, 50, 51, 52, 53, 54, 55, 56, 57] = []) ↔ digits l = true := by
  rw [trimS_nil]
  unfold digits
  rw [List.all_eq_true]
  constructor
  · intro h x hx; rw [← dec_set]; exact h x hx
  · intro h x hx; rw [dec_set]; exact h x hx

theorem decFrom_some : ∀ (l : Bs) (a : Nat), digits l = true → ∃ n, Lib.decFrom a l = some n
  | [], a, _ => ⟨a, rfl⟩
  | b :: l, a, h => by
    unfold digits at h
    rw [List.all_cons, Bool.and_eq_true] at h
    have h1 := h.1
    simp only [Bool.and_eq_true, decide_eq_true_eq] at h1
    unfold Lib.decFrom Lib.digitVal
    rw [if_pos (by simpa using h1)]
    exact decFrom_some l _ h.2
theorem atoi_some (l : Bs) (h : l ≠ []) (hd : digits l = true) : ∃ n, Lib.atoi l = some n := by
  cases l with
  | nil => exact absurd rfl h
  | cons b r =>
    have h1 : 48 ≤ b.toNat ∧ b.toNat ≤ 57 := by
      unfold digits at hd
      rw [List.all_cons, Bool.and_eq_true] at hd
      simpa using hd.1
    have h2 : ¬ b = 45 := by rintro rfl; simp at h1
    have h3 : ¬ b = 43 := by rintro rfl; simp at h1
    obtain ⟨n, hn⟩ := decFrom_some (b :: r) 0 hd
    refine ⟨n, ?_⟩
    simp [Lib.atoi, h2, h3, Lib.decNat, hn]

def numS (l : Bs) : Int := if fitsW 68 l = true then (Lib.atoi l).getD 0 else 0
theorem run32 (call : CallT) (k : Nat) (l : Bs) (hl : l.length < 4294967281) : Ends cfg call k 32 [.s (ba l)] [] 0 fun r _ _ => r = .tup [.i .i64 (numS l), .b (fitsW 68 l)] := by
  have h1 := fun st nx dst => c18 call st nx dst l [48, 49, 50, 51, 52, 53, 54, 55, 56, 57] hl (by decide) (by decide)
  have hb : ba [48, 49, 50, 51, 52, 53, 54, 55, 56, 57] = ⟨#[48, 49, 50, 51, 52, 53, 54, 55, 56, 57]⟩ := rfl
  rw [hb] at h1
  have hf : fitsW 68 l = (!l.isEmpty && (decide (l.length ≤ 4) && digits l)) := rfl
  refine run_wp Tryd.func32 rfl (by simp [Tryd.f32]) ?_
  by_cases h0 : l = []
  · subst h0
    simp [numS, hf]
  have h0' : (l == []) = false := by rw [beq_eq_false_iff_ne]; exact h0
  have h0'' : l.isEmpty = false := by cases l; exact absurd rfl h0; rfl
  by_cases h2 : 4 < l.length
  · have h2' : (4 : Int) < l.length := by omega
    have : fitsW 68 l = false := by rw [hf]; simp; omega
    simp [h0', h2', numS, this]
  have h2' : ¬ (4 : Int) < l.length := by omega
  by_cases hd : digits l = true
  · have e1 := (digits_nil l).2 hd
    rw [e1] at h1
    obtain ⟨n, hn⟩ := atoi_some l h0 hd
    have h4 := fun st nx dst => c41 call st nx dst l n (by omega) hn
    have : fitsW 68 l = true := by rw [hf, hd, h0'']; simp; omega
    have mu : AV.undef.mv = true := rfl
    simp [h0', h2', h1, h4, numS, this, hn, mu]
  · have e1 : ¬ Lib.trimS l [48, 49, 50, 51, 52, 53, 54, 55, 56, 57] = [] := fun h => hd ((digits_nil l).1 h)
    have e2 : (Lib.trimS l [48, 49, 50, 51, 52, 53, 54, 55, 56, 57] == []) = false := by rw [beq_eq_false_iff_ne]; exact e1
    have hd' : digits l = false := by cases h : digits l; rfl; exact absurd h hd
    have : fitsW 68 l = false := by rw [hf, hd']; simp
    simp [h0', h2', h1, e2, numS, this]

theorem run20 (call : CallT) (k : Nat) (c : UInt8) (l : Bs) (h32 : pR call 32 [.s (ba l)] = some (.tup [.i .i64 (numS l), .b (fitsW 68 l)])) : Ends cfg call k 20 [.i .u8 (c.toNat : Nat), .s (ba l)] [] 0 fun r _ _ => r = .b (fitsW c l) := by
  refine run_wp Tryd.func20 rfl (by simp [Tryd.f20]) ?_
  by_cases hc : c = 68
  · subst hc
    simp [h32]
  have hc' : ((c.toNat : Int) == 68) = false := by
    rw [beq_eq_false_iff_ne]
    intro h
    exact hc (UInt8.toNat_inj.1 (by simp at h ⊢; omega))
  have hf : fitsW c l = (!l.isEmpty && decide (l.length ≤ 32)) := by simp [fitsW, hc]
  by_cases h0 : l = []
  · subst h0
    simp [hc', hf]
  have h0' : (l == []) = false := by rw [beq_eq_false_iff_ne]; exact h0
  have h0'' : l.isEmpty = false := by cases l; exact absurd rfl h0; rfl
  have hle : decide ((l.length : Int) ≤ 32) = decide (l.length ≤ 32) := decide_eq_decide.2 (by omega)
  simp [hc', h0', hf, h0'', hle]

end Ab
end Go.Proofs.YtfkffpcnknlbhaaDoor

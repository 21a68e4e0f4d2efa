/-
  DERIVED. YtidoflgcblglbaaDoorS, in plain Lean: one step of the decoder, and what it tells of the bytes.
  Conditions: none of a program's.
-/
import Derived.Lib.MapLaws
import Derived.Lib.ValidU
set_option linter.all false
set_option maxHeartbeats 4000000
namespace Go.Proofs.YtidoflgcblglbaaDoor
namespace Ab
open Go.Lib

def nz (l : List UInt8) : Bool := l.all (· != 0)

theorem nz_drop {l : List UInt8} (n : Nat) : nz l = (nz (l.take n) && nz (l.drop n)) := by
  unfold nz
  rw [← List.all_append, List.take_append_drop]

theorem bytes3 (l : List UInt8) (h : l.take 3 = [239, 191, 189]) : decodeL l = (65533, 3) := by
  match l, h with
  | a :: b :: c :: t, h =>
    simp only [List.take_succ_cons, List.take_zero, List.cons.injEq, and_true] at h
    obtain ⟨rfl, rfl, rfl⟩ := h
    rw [decodeL_N]
    unfold decodeN
    simp

/-- One step of the decoder. -/
theorem dec_step (l : List UInt8) (hne : l ≠ []) :
    (decodeL l).1 = 65533 ∧ (decodeL l).2 = 1 ∧ ¬ l.take 3 = [239, 191, 189] ∨
    ¬ ((decodeL l).1 = 65533 ∧ (decodeL l).2 = 1) ∧ ((decodeL l).1 = 65533 → l.take 3 = [239, 191, 189] ∧ 3 ≤ l.length) ∧ nz (l.take (decodeL l).2) = decide ((decodeL l).1 ≠ 0) ∧ 1 ≤ (decodeL l).2 ∧ (decodeL l).2 ≤ l.length := by
  have hl : 0 < l.length := List.length_pos_iff.2 hne
  by_cases h3 : l.take 3 = [239, 191, 189]
  · right
    rw [bytes3 l h3, h3]
    have : 3 ≤ l.length := by
      have := congrArg List.length h3
      simp at this; omega
    exact ⟨by simp, fun _ => ⟨rfl, this⟩, by decide, by simp, this⟩
  have k0 := (l.getD 0 0).toNat_lt
  have k1 := (l.getD 1 0).toNat_lt
  have k2 := (l.getD 2 0).toNat_lt
  have k3 := (l.getD 3 0).toNat_lt
  rw [decodeL_N]
  have nzv : ∀ {x : UInt8} , 1 ≤ x.toNat → (x != 0) = true := by
    intro x hx
    rw [bne_iff_ne]
    rintro rfl
    simp at hx
  rcases decodeN_shape l.length (l.getD 0 0).toNat (l.getD 1 0).toNat (l.getD 2 0).toNat (l.getD 3 0).toNat with ⟨c, e⟩ | ⟨c1, c2, c3, cv, e⟩ | ⟨c1, c2, c3, c4, cv, cs, e⟩ | ⟨c1, c2, c3, c4, c5, cv, cw, e⟩ | e
  · right
    rw [e]
    refine ⟨by dsimp only; omega, fun h => absurd h (by dsimp only; omega), ?_, by dsimp only; omega, by dsimp only; omega⟩
    simp only [takeA l hl, nz, List.all_cons, List.all_nil, Bool.and_true]
    by_cases hz : (l.getD 0 0) = 0
    · rw [hz]; rfl
    · rw [(bne_iff_ne).2 hz, eq_comm, decide_eq_true_iff]
      intro hn
      exact hz (UInt8.toNat_inj.1 (by rw [hn]; rfl))
  · right
    rw [e]
    refine ⟨by dsimp only; omega, fun h => absurd h (by dsimp only; omega), ?_, by dsimp only; omega, by dsimp only; omega⟩
    simp only [takeB l c2, nz, List.all_cons, List.all_nil, Bool.and_true]
    rw [nzv (by omega), nzv (by omega), eq_comm]; exact decide_eq_true (by omega)
  · right
    rw [e]
    refine ⟨by dsimp only; omega, fun h => ?_, ?_, by dsimp only; omega, by dsimp only; omega⟩
    · exfalso
      apply h3
      rw [takeC l c2]
      have e0 : (l.getD 0 0).toNat = 239 := by dsimp only at h; omega
      have e1 : (l.getD 1 0).toNat = 191 := by dsimp only at h; omega
      have e2 : (l.getD 2 0).toNat = 189 := by dsimp only at h; omega
      rw [show l.getD 0 0 = 239 from UInt8.toNat_inj.1 e0, show l.getD 1 0 = 191 from UInt8.toNat_inj.1 e1, show l.getD 2 0 = 189 from UInt8.toNat_inj.1 e2]
    · simp only [takeC l c2, nz, List.all_cons, List.all_nil, Bool.and_true]
      rw [nzv (by omega), nzv (by omega), nzv (by omega), eq_comm]; exact decide_eq_true (by omega)
  · right
    rw [e]
    refine ⟨by dsimp only; omega, fun h => absurd h (by dsimp only; omega), ?_, by dsimp only; omega, by dsimp only; omega⟩
    simp only [takeD l c2, nz, List.all_cons, List.all_nil, Bool.and_true]
    rw [nzv (by omega), nzv (by omega), nzv (by omega), nzv (by omega), eq_comm]; exact decide_eq_true (by omega)
  · left
    rw [e]
    exact ⟨rfl, rfl, h3⟩

theorem validGo_fuel : ∀ (n m : Nat) (l : List UInt8), l.length ≤ n → l.length ≤ m → validGoD n l = validGoD m l := by
  intro n
  induction n with
  | zero =>
    intro m l hn _
    obtain rfl : l = [] := List.length_eq_zero_iff.1 (by omega)
    cases m <;> simp [validGoD]
  | succ n ih =>
    intro m l hn hm
    cases m with
    | zero =>
      obtain rfl : l = [] := List.length_eq_zero_iff.1 (by omega)
      simp [validGoD]
    | succ m =>
      unfold validGoD
      by_cases hl : l = []
      · simp [hl]
      · rcases dec_step l hl with ⟨h1, h2, _⟩ | ⟨h1, _, _, h2, h3⟩
        · simp [h1, h2]
        · simp only [hl, h1, if_false]
          exact ih m _ (by simp; omega) (by simp; omega)

theorem valid_nil : validD [] = true := rfl
theorem valid_bad {l : List UInt8} (hne : l ≠ []) (h1 : (decodeL l).1 = 65533) (h2 : (decodeL l).2 = 1) : validD l = false := by
  have hl : 0 < l.length := List.length_pos_iff.2 hne
  unfold validD
  obtain ⟨n, hn⟩ : ∃ n, l.length = n + 1 := ⟨l.length - 1, by omega⟩
  rw [hn]
  simp [validGoD, hne, h1, h2]
theorem valid_step {l : List UInt8} (hne : l ≠ []) (h1 : ¬ ((decodeL l).1 = 65533 ∧ (decodeL l).2 = 1)) : validD l = validD (l.drop (decodeL l).2) := by
  have hl : 0 < l.length := List.length_pos_iff.2 hne
  unfold validD
  obtain ⟨n, hn⟩ : ∃ n, l.length = n + 1 := ⟨l.length - 1, by omega⟩
  rcases dec_step l hne with ⟨h2, h3, _⟩ | ⟨_, _, _, h2, h3⟩
  · exact absurd ⟨h2, h3⟩ h1
  · rw [hn]
    simp only [validGoD, hne, h1, if_false]
    exact validGo_fuel _ _ _ (by simp; omega) (by simp)

/-- Is a text UTF-8 without a zero? -/
def named (l : List UInt8) : Bool := validD l && nz l
theorem named_nil : named [] = true := rfl
theorem named_bad {l : List UInt8} (hne : l ≠ []) (h1 : (decodeL l).1 = 65533) (h2 : (decodeL l).2 = 1) : named l = false := by simp [named, valid_bad hne h1 h2]
theorem named_zero {l : List UInt8} (hne : l ≠ []) (h1 : (decodeL l).1 = 0) : named l = false := by
  rcases dec_step l hne with ⟨h2, h3, _⟩ | ⟨_, _, h4, h2, h3⟩
  · rw [h1] at h2; cases h2
  · have : nz l = false := by rw [nz_drop (decodeL l).2, h4]; simp [h1]
    simp [named, this]
theorem named_step {l : List UInt8} (hne : l ≠ []) (h0 : (decodeL l).1 ≠ 0) (h1 : ¬ ((decodeL l).1 = 65533 ∧ (decodeL l).2 = 1)) : named l = named (l.drop (decodeL l).2) := by
  unfold named
  rcases dec_step l hne with ⟨h2, h3, _⟩ | ⟨_, _, h4, h2, h3⟩
  · exact absurd ⟨h2, h3⟩ h1
  · rw [valid_step hne h1, nz_drop (l := l) (decodeL l).2, h4]; simp [h0]

end Ab
end Go.Proofs.YtidoflgcblglbaaDoor

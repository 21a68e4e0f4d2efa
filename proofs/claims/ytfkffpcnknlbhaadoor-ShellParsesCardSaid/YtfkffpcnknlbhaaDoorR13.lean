/-
  DERIVED. The plain law of ShellParses: at every text.
  Conditions: none.
-/
import Derived.Test.YtfkffpcnknlbhaaDoorR12
set_option linter.all false
set_option maxHeartbeats 4000000
namespace Go.Proofs.YtfkffpcnknlbhaaDoor
namespace Ab
set_option maxRecDepth 100000

theorem plain3 (B : Nat) : Plain cfg B 8 3 [9] := by
  intro xs hl hty _
  match xs, hl with
  | [x], _ =>
    have h0 := hty 0 9 x rfl rfl
    unfold ArgOf at h0
    simp only [cP, underlying_9, TyC] at h0
    obtain ⟨s, hs, _⟩ := h0
    injection hs with hs _
    subst hs
    obtain ⟨hp, nx, h⟩ := law3 (2 ^ 20 + 400) (Nat.le_refl _) 0 s.data.toList
    rw [← ba_of] at h
    exact ⟨_, _, hp, nx, h⟩

end Ab
end Go.Proofs.YtfkffpcnknlbhaaDoor

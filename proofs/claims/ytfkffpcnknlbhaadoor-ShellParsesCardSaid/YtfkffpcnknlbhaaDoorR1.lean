/-
  DERIVED. shell.shape and lockstepref30.Shape: what they come to.
  Conditions: none of a program's.
-/
import Derived.Test.YtfkffpcnknlbhaaDoorFacts
import Derived.Test.YtfkffpcnknlbhaaDoorCg
import Derived.Test.YtfkffpcnknlbhaaDoorP2
set_option linter.all false
set_option maxHeartbeats 4000000
namespace Go.Proofs.YtfkffpcnknlbhaaDoor
namespace Ab
set_option maxRecDepth 100000
set_option maxHeartbeats 4000000

attribute [simp] ba_list
def star (k : UInt8) : UInt8 := if k = 87 then 42 else k

theorem run17 (call : CallT) (k : Nat) (w : Bs) : Ends cfg call k 17 [.s (ba w)] [] 0 fun r _ _ => r = match shapeOf w with
    | some ks => .tup [.s (ba ks), .b true]
    | none => .tup [.s (ba []), .b false] := by
  refine run_wp Tryd.func17 rfl (by simp [Tryd.f17]) ?_
  by_cases h0 : w = [97, 108, 108]
  · subst h0
    simp
    rfl
  have g0 : (w == [97, 108, 108]) = false := by rw [beq_eq_false_iff_ne]; exact h0
  by_cases h1 : w = [116, 111, 108, 100]
  · subst h1
    simp
    rfl
  have g1 : (w == [116, 111, 108, 100]) = false := by rw [beq_eq_false_iff_ne]; exact h1
  by_cases h2 : w = [99, 114, 97, 115, 104]
  · subst h2
    simp
    rfl
  have g2 : (w == [99, 114, 97, 115, 104]) = false := by rw [beq_eq_false_iff_ne]; exact h2
  by_cases h3 : w = [108, 97, 115, 116]
  · subst h3
    simp
    rfl
  have g3 : (w == [108, 97, 115, 116]) = false := by rw [beq_eq_false_iff_ne]; exact h3
  by_cases h4 : w = [104, 97, 108, 116, 101, 100]
  · subst h4
    simp
    rfl
  have g4 : (w == [104, 97, 108, 116, 101, 100]) = false := by rw [beq_eq_false_iff_ne]; exact h4
  by_cases h5 : w = [115, 99, 104, 101, 109, 97]
  · subst h5
    simp
    rfl
  have g5 : (w == [115, 99, 104, 101, 109, 97]) = false := by rw [beq_eq_false_iff_ne]; exact h5
  by_cases h6 : w = [113, 117, 101, 114, 121]
  · subst h6
    simp
    rfl
  have g6 : (w == [113, 117, 101, 114, 121]) = false := by rw [beq_eq_false_iff_ne]; exact h6
  by_cases h7 : w = [112, 108, 97, 110]
  · subst h7
    simp
    rfl
  have g7 : (w == [112, 108, 97, 110]) = false := by rw [beq_eq_false_iff_ne]; exact h7
  by_cases h8 : w = [111, 112, 101, 110]
  · subst h8
    simp
    rfl
  have g8 : (w == [111, 112, 101, 110]) = false := by rw [beq_eq_false_iff_ne]; exact h8
  by_cases h9 : w = [102, 97, 105, 108]
  · subst h9
    simp
    rfl
  have g9 : (w == [102, 97, 105, 108]) = false := by rw [beq_eq_false_iff_ne]; exact h9
  by_cases h10 : w = [114, 101, 106, 111, 105, 110]
  · subst h10
    simp
    rfl
  have g10 : (w == [114, 101, 106, 111, 105, 110]) = false := by rw [beq_eq_false_iff_ne]; exact h10
  by_cases h11 : w = [99, 97, 108, 108]
  · subst h11
    simp
    rfl
  have g11 : (w == [99, 97, 108, 108]) = false := by rw [beq_eq_false_iff_ne]; exact h11
  by_cases h12 : w = [103, 111]
  · subst h12
    simp
    rfl
  have g12 : (w == [103, 111]) = false := by rw [beq_eq_false_iff_ne]; exact h12
  by_cases h13 : w = [115, 117, 109, 115]
  · subst h13
    simp
    rfl
  have g13 : (w == [115, 117, 109, 115]) = false := by rw [beq_eq_false_iff_ne]; exact h13
  by_cases h14 : w = [100, 97, 116, 97]
  · subst h14
    simp
    rfl
  have g14 : (w == [100, 97, 116, 97]) = false := by rw [beq_eq_false_iff_ne]; exact h14
  by_cases h15 : w = [99, 104, 101, 99, 107]
  · subst h15
    simp
    rfl
  have g15 : (w == [99, 104, 101, 99, 107]) = false := by rw [beq_eq_false_iff_ne]; exact h15
  by_cases h16 : w = [99, 111, 115, 116]
  · subst h16
    simp
    rfl
  have g16 : (w == [99, 111, 115, 116]) = false := by rw [beq_eq_false_iff_ne]; exact h16
  by_cases h17 : w = [114, 111, 117, 116, 101]
  · subst h17
    simp
    rfl
  have g17 : (w == [114, 111, 117, 116, 101]) = false := by rw [beq_eq_false_iff_ne]; exact h17
  by_cases h18 : w = [112, 97, 114, 116]
  · subst h18
    simp
    rfl
  have g18 : (w == [112, 97, 114, 116]) = false := by rw [beq_eq_false_iff_ne]; exact h18
  have hn : shapeOf w = none := by
    simp [shapeOf, shapes, Ne.symm h0, Ne.symm h1, Ne.symm h2, Ne.symm h3, Ne.symm h4, Ne.symm h5, Ne.symm h6, Ne.symm h7, Ne.symm h8, Ne.symm h9, Ne.symm h10, Ne.symm h11, Ne.symm h12, Ne.symm h13, Ne.symm h14, Ne.symm h15, Ne.symm h16, Ne.symm h17, Ne.symm h18]
  simp [g0, g1, g2, g3, g4, g5, g6, g7, g8, g9, g10, g11, g12, g13, g14, g15, g16, g17, g18, hn]
  rfl

theorem run9 (call : CallT) (k : Nat) (w : Bs) : Ends cfg call k 9 [.s (ba w)] [] 0 fun r _ _ => r = match shapeOf w with
    | some ks => .tup [.s (ba (ks.map star)), .b true]
    | none => .tup [.s (ba []), .b false] := by
  refine run_wp Tryd.func9 rfl (by simp [Tryd.f9]) ?_
  by_cases h0 : w = [97, 108, 108]
  · subst h0
    simp
    rfl
  have g0 : (w == [97, 108, 108]) = false := by rw [beq_eq_false_iff_ne]; exact h0
  by_cases h1 : w = [116, 111, 108, 100]
  · subst h1
    simp
    rfl
  have g1 : (w == [116, 111, 108, 100]) = false := by rw [beq_eq_false_iff_ne]; exact h1
  by_cases h2 : w = [99, 114, 97, 115, 104]
  · subst h2
    simp
    rfl
  have g2 : (w == [99, 114, 97, 115, 104]) = false := by rw [beq_eq_false_iff_ne]; exact h2
  by_cases h3 : w = [108, 97, 115, 116]
  · subst h3
    simp
    rfl
  have g3 : (w == [108, 97, 115, 116]) = false := by rw [beq_eq_false_iff_ne]; exact h3
  by_cases h4 : w = [104, 97, 108, 116, 101, 100]
  · subst h4
    simp
    rfl
  have g4 : (w == [104, 97, 108, 116, 101, 100]) = false := by rw [beq_eq_false_iff_ne]; exact h4
  by_cases h5 : w = [115, 99, 104, 101, 109, 97]
  · subst h5
    simp
    rfl
  have g5 : (w == [115, 99, 104, 101, 109, 97]) = false := by rw [beq_eq_false_iff_ne]; exact h5
  by_cases h6 : w = [113, 117, 101, 114, 121]
  · subst h6
    simp
    rfl
  have g6 : (w == [113, 117, 101, 114, 121]) = false := by rw [beq_eq_false_iff_ne]; exact h6
  by_cases h7 : w = [112, 108, 97, 110]
  · subst h7
    simp
    rfl
  have g7 : (w == [112, 108, 97, 110]) = false := by rw [beq_eq_false_iff_ne]; exact h7
  by_cases h8 : w = [111, 112, 101, 110]
  · subst h8
    simp
    rfl
  have g8 : (w == [111, 112, 101, 110]) = false := by rw [beq_eq_false_iff_ne]; exact h8
  by_cases h9 : w = [102, 97, 105, 108]
  · subst h9
    simp
    rfl
  have g9 : (w == [102, 97, 105, 108]) = false := by rw [beq_eq_false_iff_ne]; exact h9
  by_cases h10 : w = [114, 101, 106, 111, 105, 110]
  · subst h10
    simp
    rfl
  have g10 : (w == [114, 101, 106, 111, 105, 110]) = false := by rw [beq_eq_false_iff_ne]; exact h10
  by_cases h11 : w = [99, 97, 108, 108]
  · subst h11
    simp
    rfl
  have g11 : (w == [99, 97, 108, 108]) = false := by rw [beq_eq_false_iff_ne]; exact h11
  by_cases h12 : w = [103, 111]
  · subst h12
    simp
    rfl
  have g12 : (w == [103, 111]) = false := by rw [beq_eq_false_iff_ne]; exact h12
  by_cases h13 : w = [115, 117, 109, 115]
  · subst h13
    simp
    rfl
  have g13 : (w == [115, 117, 109, 115]) = false := by rw [beq_eq_false_iff_ne]; exact h13
  by_cases h14 : w = [100, 97, 116, 97]
  · subst h14
    simp
    rfl
  have g14 : (w == [100, 97, 116, 97]) = false := by rw [beq_eq_false_iff_ne]; exact h14
  by_cases h15 : w = [99, 104, 101, 99, 107]
  · subst h15
    simp
    rfl
  have g15 : (w == [99, 104, 101, 99, 107]) = false := by rw [beq_eq_false_iff_ne]; exact h15
  by_cases h16 : w = [99, 111, 115, 116]
  · subst h16
    simp
    rfl
  have g16 : (w == [99, 111, 115, 116]) = false := by rw [beq_eq_false_iff_ne]; exact h16
  by_cases h17 : w = [114, 111, 117, 116, 101]
  · subst h17
    simp
    rfl
  have g17 : (w == [114, 111, 117, 116, 101]) = false := by rw [beq_eq_false_iff_ne]; exact h17
  by_cases h18 : w = [112, 97, 114, 116]
  · subst h18
    simp
    rfl
  have g18 : (w == [112, 97, 114, 116]) = false := by rw [beq_eq_false_iff_ne]; exact h18
  have hn : shapeOf w = none := by
    simp [shapeOf, shapes, Ne.symm h0, Ne.symm h1, Ne.symm h2, Ne.symm h3, Ne.symm h4, Ne.symm h5, Ne.symm h6, Ne.symm h7, Ne.symm h8, Ne.symm h9, Ne.symm h10, Ne.symm h11, Ne.symm h12, Ne.symm h13, Ne.symm h14, Ne.symm h15, Ne.symm h16, Ne.symm h17, Ne.symm h18]
  simp [g0, g1, g2, g3, g4, g5, g6, g7, g8, g9, g10, g11, g12, g13, g14, g15, g16, g17, g18, hn]
  rfl

end Ab
end Go.Proofs.YtfkffpcnknlbhaaDoor

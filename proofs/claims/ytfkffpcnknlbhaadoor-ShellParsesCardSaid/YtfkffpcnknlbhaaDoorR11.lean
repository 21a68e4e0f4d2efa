/-
  DERIVED. The whole call of ShellParses, by the depth of its calls.
  Conditions: texts shorter than 2^20.
-/
import Derived.Test.YtfkffpcnknlbhaaDoorR10
set_option linter.all false
set_option maxHeartbeats 4000000
namespace Go.Proofs.YtfkffpcnknlbhaaDoor
namespace Ab
set_option maxRecDepth 100000
set_option linter.all false

section
variable (K : Nat) (hK : 2 ^ 20 + 400 ≤ K)

theorem callA_succ (n : Nat) : callA cfg K (n + 1) = runA cfg (callA cfg K n) K := rfl

include hK
theorem p31 (n : Nat) (r : Int) : pR (callA cfg K (n + 1)) 31 [.i .i32 r] = some (.b (r == 32)) := by
  rw [callA_succ]; exact pR_of (run31 _ K r) rfl
theorem p8 (n : Nat) (l : Bs) (hl : l.length < 2 ^ 20) : pR (callA cfg K (n + 1)) 8 [.s (ba l)] = some (.tup [.s (ba (nxW l)), .s (ba (nxR l))]) := by
  rw [callA_succ]; exact pR_of (run8 _ K l (by omega) (by omega)) rfl
theorem p13 (n : Nat) (l : Bs) (hl : l.length < 2 ^ 20) : pR (callA cfg K (n + 1)) 13 [.s (ba l)] = some (.s (ba (trim l))) := by
  rw [callA_succ]; exact pR_of (run13 _ K l (by omega) (by omega)) rfl
theorem p14 (n : Nat) (l : Bs) : pR (callA cfg K (n + 1)) 14 [.s (ba l)] = some (.i .i64 (numR l)) := by
  rw [callA_succ]; exact pR_of (run14 _ K l (by omega)) rfl
theorem p16 (n : Nat) (l : Bs) (hl : l.length < 2 ^ 20) : pR (callA cfg K (n + 1)) 16 [.s (ba l)] = some (.tup [.s (ba (nxW l)), .s (ba (nxR l).tail)]) := by
  rw [callA_succ]; exact pR_of (run16 _ K l (by omega)) rfl
theorem p17a (n : Nat) (w ks : Bs) (h : shapeOf w = some ks) : pR (callA cfg K (n + 1)) 17 [.s (ba w)] = some (.tup [.s (ba ks), .b true]) := by
  have := run17 (callA cfg K n) K w
  rw [h] at this
  rw [callA_succ]; exact pR_of this rfl
theorem p17b (n : Nat) (w : Bs) (h : shapeOf w = none) : pR (callA cfg K (n + 1)) 17 [.s (ba w)] = some (.tup [.s (ba []), .b false]) := by
  have := run17 (callA cfg K n) K w
  rw [h] at this
  rw [callA_succ]; exact pR_of this rfl
theorem p9a (n : Nat) (w ks : Bs) (h : shapeOf w = some ks) : pR (callA cfg K (n + 1)) 9 [.s (ba w)] = some (.tup [.s (ba (ks.map star)), .b true]) := by
  have := run9 (callA cfg K n) K w
  rw [h] at this
  rw [callA_succ]; exact pR_of this rfl
theorem p9b (n : Nat) (w : Bs) (h : shapeOf w = none) : pR (callA cfg K (n + 1)) 9 [.s (ba w)] = some (.tup [.s (ba []), .b false]) := by
  have := run9 (callA cfg K n) K w
  rw [h] at this
  rw [callA_succ]; exact pR_of this rfl
theorem p32 (n : Nat) (l : Bs) (hl : l.length < 2 ^ 20) : pR (callA cfg K (n + 1)) 32 [.s (ba l)] = some (.tup [.i .i64 (numS l), .b (fitsW 68 l)]) := by
  rw [callA_succ]; exact pR_of (run32 _ K l (by omega)) rfl
theorem p7 (n : Nat) (l : Bs) (hl : l.length < 2 ^ 20) : pR (callA cfg K (n + 1)) 7 [.s (ba l)] = some (vsOf 1 (txts (linesOf l))) := by
  rw [callA_succ]; exact pR_of' (run7 _ K l hl (by omega)) fun r hp nx h => frz_sval (n := 10) h fun _ _ => rfl
theorem p30 (n : Nat) (l : Bs) (hl : l.length < 2 ^ 20) : pR (callA cfg K (n + 2)) 30 [.s (ba l), .fn 31 []] = some (.vs false 1 (txts (wordsOf l))) := by
  rw [callA_succ]
  refine pR_of' (run30 _ K l hl (by omega) (p31 K hK n)) ?_
  rintro r hp nx ⟨kk, g, rfl, h⟩
  unfold frzDepth
  have hlen : (txts (wordsOf l)).length = (wordsOf l).length := txts_len _
  have : rowsOf (hget hp) (.rs kk g 0 (wordsOf l).length 1) = some (txts (wordsOf l)) := by
    simp [rowsOf, h, hlen]
    rw [← hlen, List.take_length]
  rw [frz_rs, this]
  have h2 := frz_txts (get := hget hp) (n := 10) (wordsOf l)
  simp only [h2]
  rfl
theorem p20 (n : Nat) (c : UInt8) (l : Bs) (hl : l.length < 2 ^ 20) : pR (callA cfg K (n + 2)) 20 [.i .u8 (c.toNat : Nat), .s (ba l)] = some (.b (fitsW c l)) := by
  rw [callA_succ]; exact pR_of (run20 _ K c l (p32 K hK n l hl)) rfl
theorem p19 (n : Nat) (l : Bs) (hl : l.length < 2 ^ 20) : pR (callA cfg K (n + 3)) 19 [.s (ba l)] = some (.vs false 1 (txts (wordsOf l))) := by
  rw [callA_succ]
  exact pR_of' (run19 _ K l (p30 K hK n l hl)) fun r hp nx h => by rw [h]; rfl
theorem p10 (n : Nat) (ks l : Bs) (hks : kindsOk ks) (h100 : ks.length < 100) (hl : l.length < 2 ^ 20) : Ends cfg (callA cfg K (n + 1)) K 10 [.s (ba (ks.map star)), .s (ba l)] [] 0 fun r hp nx => RestQ ks l r hp nx :=
  run10 _ K ks l hks hl (by omega) (by omega) h100 (fun m hm => p8 K hK n m (by omega)) (fun m hm => p13 K hK n m (by omega)) (p14 K hK n)
theorem ref5 (n : Nat) (l : Bs) (hl : l.length < 2 ^ 20) : Ref5 (callA cfg K (n + 2)) l := {
  c7 := p7 K hK (n + 1) l hl
  c8 := fun m hm => p8 K hK (n + 1) m (by omega)
  c9a := p9a K hK (n + 1)
  c9b := p9b K hK (n + 1)
  c10a := fun ks m a h1 h2 h3 h4 => by
    rw [callA_succ]
    exact pR_of' (p10 K hK n ks m h1 h2 (by omega)) fun r hp nx h => by
      have := frz_rest h
      rw [h4] at this
      exact this
  c10b := fun ks m h1 h2 h3 h4 => by
    rw [callA_succ]
    obtain ⟨X, h5, a, rfl⟩ := pR_ex (P := fun X => ∃ a, X = .tup [vsOf 1 (txts a), .b false]) (p10 K hK n ks m h1 h2 (by omega)) fun r hp nx h => by
      have := frz_rest h
      rw [h4] at this
      obtain ⟨a, ha⟩ := this
      exact ⟨_, ha, a, rfl⟩
    exact ⟨a, h5⟩ }
theorem p5 (n : Nat) (l : Bs) (hl : l.length < 2 ^ 20) : pR (callA cfg K (n + 3)) 5 [.s (ba l)] = some (parseV l) := by
  rw [callA_succ]
  exact pR_of' (run5 _ K l hl (by omega) (ref5 K hK n l hl)) fun r hp nx h => frz_parse h
theorem ref12 (n : Nat) (l : Bs) (hl : l.length < 2 ^ 20) : Ref12 (callA cfg K (n + 3)) l := {
  c16 := fun m hm => p16 K hK (n + 2) m (by omega)
  c17a := p17a K hK (n + 2)
  c17b := p17b K hK (n + 2)
  c19 := fun m hm => p19 K hK n m (by omega)
  c20 := fun c m hm => p20 K hK (n + 1) c m (by omega) }
theorem line12 (n : Nat) (l : Bs) (hl : l.length < 2 ^ 20) : Line12 (callA cfg K (n + 4)) l := by
  have h0 := run12 (callA cfg K (n + 3)) K l hl (by omega) (ref12 K hK n l hl)
  unfold Line12
  rw [callA_succ]
  cases hp : parseL l with
  | none =>
    simp only
    obtain ⟨X, h5, w, a, rfl⟩ := pR_ex (P := fun X => ∃ w a, X = .tup [.agg [.i .i64 0, .s (ba w), vsOf 1 (txts a)], .b false]) h0 fun r hp' nx h => by
      have := frz_line h
      simp only [hp] at this
      obtain ⟨w, a, ha⟩ := this
      exact ⟨_, ha, w, a, rfl⟩
    exact ⟨w, a, h5⟩
  | some o =>
    cases o with
    | none =>
      simp only
      exact pR_of' h0 fun r hp' nx h => by
        have := frz_line h
        simp only [hp] at this
        exact this
    | some wa =>
      obtain ⟨w, a⟩ := wa
      simp only
      exact pR_of' h0 fun r hp' nx h => by
        have := frz_line h
        simp only [hp] at this
        exact this
theorem p6 (n : Nat) (l : Bs) (hl : l.length < 2 ^ 20) : pR (callA cfg K (n + 5)) 6 [.s (ba l)] = some (parseV l) := by
  rw [callA_succ]
  exact pR_of' (run6 _ K l hl (by omega) fun m hm => line12 K hK n m (by omega)) fun r hp nx h => frz_parse h
/-- Too long a text. -/
theorem p6b (n : Nat) (l : Bs) (hl : 131072 < l.length) : pR (callA cfg K (n + 1)) 6 [.s (ba l)] = some (parseV l) := by
  rw [callA_succ]
  refine pR_of' (Q := ParseQ l) ?_ fun r hp nx h => frz_parse h
  have c : (131072 : Int) < l.length := by omega
  refine run_wp Tryd.func6 rfl (by simp [Tryd.f6]) ?_
  obtain ⟨Q, hQ⟩ : ∃ Q : AV → Hp → Nat → Prop, Q = ParseQ l := ⟨_, rfl⟩
  rw [← hQ]
  simp [c]
  rw [hQ]
  unfold ParseQ answer
  rw [if_pos hl]
  exact ⟨_, rfl, .inl ⟨rfl, rfl⟩⟩
theorem p5b (n : Nat) (l : Bs) (hl : 131072 < l.length) : pR (callA cfg K (n + 1)) 5 [.s (ba l)] = some (parseV l) := by
  rw [callA_succ]
  refine pR_of' (Q := ParseQ l) ?_ fun r hp nx h => frz_parse h
  have c : (131072 : Int) < l.length := by omega
  refine run_wp Tryd.func5 rfl (by simp [Tryd.f5]) ?_
  obtain ⟨Q, hQ⟩ : ∃ Q : AV → Hp → Nat → Prop, Q = ParseQ l := ⟨_, rfl⟩
  rw [← hQ]
  simp [c]
  rw [hQ]
  unfold ParseQ answer
  rw [if_pos hl]
  exact ⟨_, rfl, .inl ⟨rfl, rfl⟩⟩
theorem p6a (n : Nat) (l : Bs) : pR (callA cfg K (n + 5)) 6 [.s (ba l)] = some (parseV l) := by
  by_cases h : 131072 < l.length
  · exact p6b K hK (n + 4) l h
  · exact p6 K hK n l (by omega)
theorem p5a (n : Nat) (l : Bs) : pR (callA cfg K (n + 3)) 5 [.s (ba l)] = some (parseV l) := by
  by_cases h : 131072 < l.length
  · exact p5b K hK (n + 2) l h
  · exact p5 K hK n l (by omega)
theorem p4 (n : Nat) (l : Bs) : pR (callA cfg K (n + 6)) 4 [.s (ba l)] = some (parseV l) := by
  rw [callA_succ]
  refine pR_of' (run4 _ K l (p6a K hK n l)) fun r hp nx h => ?_
  rw [h]
  unfold parseV frzDepth
  rw [vsOf_eq, frz_tup]
  rfl
theorem law3 (n : Nat) (l : Bs) : ∃ hp nx, callA cfg K (n + 7) 3 [.s (ba l)] [] 0 = some (.b true, hp, nx) := by
  rw [callA_succ]
  obtain ⟨r, hp, nx, h, rfl⟩ := run3 (callA cfg K (n + 6)) K l (by omega) (p4 K hK n l) (p5a K hK (n + 3) l) (p4 K hK n _)
  exact ⟨hp, nx, h⟩
end

end Ab
end Go.Proofs.YtfkffpcnknlbhaaDoor

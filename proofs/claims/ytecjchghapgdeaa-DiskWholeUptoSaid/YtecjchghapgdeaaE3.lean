/-
  DERIVED. DiskWhole: the law's function answers true.
  Conditions: enough rounds, enough depth; arguments of bounded size.
-/
import Derived.Test.YtecjchghapgdeaaE2
set_option linter.all false
set_option maxHeartbeats 4000000
namespace Go.Proofs.Ytecjchghapgdeaa
namespace Ab
set_option maxRecDepth 100000
set_option maxHeartbeats 8000000
set_option linter.all false
attribute [local simp] appendA appRow newsA isIntD makeSliceA elemOf rowsBuilt eqA eq1

theorem p_lives {K n : Nat} (hK : big K) (hn : 5 ≤ n) : pR (callA cfg K n) 8 [] = some (.b true) := by
  obtain ⟨n, rfl⟩ : ∃ m, n = m + 1 := ⟨n - 1, by omega⟩
  obtain ⟨r, hp', nx', h1, h2⟩ := c_lives (K := K) (n := n + 1) (hp := []) (nx := 0) hK hn
  unfold pR
  rw [h1, h2]
  rfl

theorem c_Whole {K n nx : Nat} {hp : Hp} (hK : big K) (hn : 6 ≤ n) (za zb zk : Bool) (a b : Bs) (keeps : List Int) (t names : Int) (ha : za = true → a = []) (hb : zb = true → b = []) (hk : zk = true → keeps = [])
    (la : a.length ≤ 2 ^ 30) (lb : b.length ≤ 2 ^ 30) (lk' : keeps.length ≤ 2 ^ 30) (ht : 0 ≤ t ∧ t ≤ 255) :
    Sp K n 3 [.vs za 1 (byteRows a), .vs zb 1 (byteRows b), .i .u8 t, .vs zk 1 (intRows keeps), .i .i64 names] hp nx fun r _ _ => r = .b true := by
  refine sp_cps fun Q hQ => ?_
  obtain ⟨n, rfl⟩ : ∃ m, n = m + 1 := ⟨n - 1, by omega⟩
  refine sp_of rfl (run_wp Try.func3 rfl (by simp [Try.f3]) ?_)
  have hn4 : 4 ≤ n := by omega
  have eL := p_lives (K := K) (n := n) hK (by omega)
  have wa : IntKind.i64.wrap (a.length : Int) = a.length := wrap_i64 (by omega) (by omega)
  have wb : IntKind.i64.wrap (b.length : Int) = b.length := wrap_i64 (by omega) (by omega)
  have wab : IntKind.i64.wrap ((a.length : Int) + b.length) = a.length + b.length := wrap_i64 (by omega) (by omega)
  by_cases hbig : (16777216 : Int) < (a.length : Int) + b.length
  · simp [eL, wa, wb, wab, hbig, Nat.add_assoc]
    exact hQ _ _ _ rfl
  have e0 : ∀ nx, callA cfg K n 9 [.i .i64 16777216] [] nx = some (.tup [.ptr (nx + 11) 0 0, .i .i64 0], [(nx + 9, (0, .mp [])), (nx + 11, (0, .cells [.i .i64 16777216, .mp (some (nx + 9)), .vs true 0 [], .i .i64 0]))], nx + 14) :=
    fun nx => c_pNew1 (K := K) (n := n) (nx := nx) (by omega) 16777216 (by omega)
  have hab : a.length + b.length ≤ 16777216 := by omega
  have p0 : ∀ N, nx + 27 ≤ N → On [] (nx + 26) wD0 0 (up (up hp (nx + 26) (0, .cells [.i .i64 16777216, .mp (some (nx + 24)), .vs true 0 [], .i .i64 0])) (nx + 24) (0, .mp [])) N :=
    fun N hN => on_new (nx := nx) (M := nx + 27) (q := 16777216) (by omega) (by omega) (by omega) (by omega) (by omega) (by omega) (by omega) (by simp)
  have x1 : ∀ H N, On [] (nx + 26) wD0 0 H N → ∃ H' N', callA cfg K n 10 [.ptr (nx + 26) 0 0, .s ⟨#[105, 116]⟩] H N = some (.i .i64 0, H', N') ∧ On [] (nx + 26) wD1 1 H' N' ∧ N ≤ N' := fun H N hp => by
    have := o_create hK hn4 hp (by omega) tIt
    rw [w1] at this
    exact this
  obtain ⟨h1, n1, s1⟩ := stp0 x1
  have e1 := s1.e
  have q1 := s1.add
  have r1 := s1.on
  clear x1 s1
  have x2 : ∀ H N, On [] (nx + 26) wD1 1 H N → ∃ H' N', callA cfg K n 11 [.ptr (nx + 26) 0 0, .s ⟨#[105, 116]⟩, .vs za 1 (byteRows a)] H N = some (.i .i64 0, H', N') ∧ On [] (nx + 26) (wD2 a) 2 H' N' ∧ N ≤ N' := fun H N hp => by
    have := o_append hK hn4 hp (by omega) tIt za a ha la
    rw [w2 a (by omega)] at this
    exact this
  obtain ⟨h2, n2, s2⟩ := stp0 x2
  have e2 := s2.e
  have q2 := s2.add
  have r2 := s2.on
  clear x2 s2
  have x3 : ∀ H N, On [] (nx + 26) (wD2 a) 2 H N → ∃ H' N', callA cfg K n 12 [.ptr (nx + 26) 0 0, .s ⟨#[105, 116]⟩] H N = some (.i .i64 0, H', N') ∧ On [] (nx + 26) (wD3 a) 3 H' N' ∧ N ≤ N' := fun H N hp => by
    have := o_sync hK hn4 hp (by omega) tIt
    rw [w3 a] at this
    exact this
  obtain ⟨h3, n3, s3⟩ := stp0 x3
  have e3 := s3.e
  have q3 := s3.add
  have r3 := s3.on
  clear x3 s3
  have x4 : ∀ H N, On [] (nx + 26) (wD3 a) 3 H N → ∃ H' N', callA cfg K n 13 [.ptr (nx + 26) 0 0] H N = some (.i .i64 0, H', N') ∧ On [] (nx + 26) (wD4 a) 4 H' N' ∧ N ≤ N' := fun H N hp => by
    have := o_syncNames (K := K) hn4 hp (by omega)
    rw [w4 a] at this
    exact this
  obtain ⟨h4, n4, s4⟩ := stp0 x4
  have e4 := s4.e
  have q4 := s4.add
  have r4 := s4.on
  clear x4 s4
  have x5 : ∀ H N, On [] (nx + 26) (wD4 a) 4 H N → ∃ H' N', callA cfg K n 10 [.ptr (nx + 26) 0 0, .s ⟨#[105, 116, 46, 110, 101, 119]⟩] H N = some (.i .i64 0, H', N') ∧ On [] (nx + 26) (wD5 a) 5 H' N' ∧ N ≤ N' := fun H N hp => by
    have := o_create hK hn4 hp (by omega) tNew
    rw [w5 a] at this
    exact this
  obtain ⟨h5, n5, s5⟩ := stp0 x5
  have e5 := s5.e
  have q5 := s5.add
  have r5 := s5.on
  clear x5 s5
  have x6 : ∀ H N, On [] (nx + 26) (wD5 a) 5 H N → ∃ H' N', callA cfg K n 11 [.ptr (nx + 26) 0 0, .s ⟨#[105, 116, 46, 110, 101, 119]⟩, .vs zb 1 (byteRows b)] H N = some (.i .i64 0, H', N') ∧ On [] (nx + 26) (wD6 a b) 6 H' N' ∧ N ≤ N' := fun H N hp => by
    have := o_append hK hn4 hp (by omega) tNew zb b hb lb
    rw [w6 a b hab] at this
    exact this
  obtain ⟨h6, n6, s6⟩ := stp0 x6
  have e6 := s6.e
  have q6 := s6.add
  have r6 := s6.on
  clear x6 s6
  have x7 : ∀ H N, On [] (nx + 26) (wD6 a b) 6 H N → ∃ H' N', callA cfg K n 12 [.ptr (nx + 26) 0 0, .s ⟨#[105, 116, 46, 110, 101, 119]⟩] H N = some (.i .i64 0, H', N') ∧ On [] (nx + 26) (wD7 a b) 7 H' N' ∧ N ≤ N' := fun H N hp => by
    have := o_sync hK hn4 hp (by omega) tNew
    rw [w7 a b] at this
    exact this
  obtain ⟨h7, n7, s7⟩ := stp0 x7
  have e7 := s7.e
  have q7 := s7.add
  have r7 := s7.on
  clear x7 s7
  have x8 : ∀ H N, On [] (nx + 26) (wD7 a b) 7 H N → ∃ H' N', callA cfg K n 14 [.ptr (nx + 26) 0 0, .s ⟨#[105, 116, 46, 110, 101, 119]⟩, .s ⟨#[105, 116]⟩] H N = some (.i .i64 0, H', N') ∧ On [] (nx + 26) (wD8 a b) 8 H' N' ∧ N ≤ N' := fun H N hp => by
    have := o_rename hK hn4 hp (by omega) tNew tIt
    rw [w8 a b] at this
    exact this
  obtain ⟨h8, n8, s8⟩ := stp0 x8
  have e8 := s8.e
  have q8 := s8.add
  have r8 := s8.on
  clear x8 s8
  have x9 : ∀ H N, On [] (nx + 26) (wD8 a b) 8 H N → ∃ H' N', callA cfg K n 13 [.ptr (nx + 26) 0 0] H N = some (.i .i64 0, H', N') ∧ On [] (nx + 26) (wD9 a b) 9 H' N' ∧ N ≤ N' := fun H N hp => by
    have := o_syncNames (K := K) hn4 hp (by omega)
    rw [w9 a b] at this
    exact this
  obtain ⟨h9, n9, s9⟩ := stp0 x9
  have e9 := s9.e
  have q9 := s9.add
  have r9 := s9.on
  clear x9 s9
  have fin : ∀ (D : Dk) (m : Nat) (c : Bs), m ≤ 9 → (D.crash keeps names).look tIt = (0, some ⟨c, c.length⟩) → ∃ (rc : Hp → Nat → AV) (hc : Hp → Nat → Hp) (nc : Hp → Nat → Nat) (v : Hp → Nat → AV) (hr : Hp → Nat → Hp) (nr : Hp → Nat → Nat),
      (∀ H N, On [] (nx + 26) D m H N → callA cfg K n 15 [.ptr (nx + 26) 0 0, .vs zk 1 (intRows keeps), .i .i64 names] H N = some (rc H N, hc H N, nc H N)) ∧
      (∀ H N k, On [] (nx + 26) D m H N → On [] (nx + 26) (D.crash keeps names) (m + 1) (hc H N) (nc H N + k)) ∧
      (∀ H N, On [] (nx + 26) (D.crash keeps names) (m + 1) H N → callA cfg K n 16 [.ptr (nx + 26) 0 0, .s ⟨#[105, 116]⟩] H N = some (.tup [v H N, .i .i64 0], hr H N, nr H N)) ∧
      (∀ H N env loc nx0 n, On [] (nx + 26) (D.crash keeps names) (m + 1) H N → convA Try.prog (St.get ⟨env, loc, hr H N, nx0⟩) 22 9 (v H N) n = some (.s (ba c), [])) ∧ ∀ H N, On [] (nx + 26) (D.crash keeps names) (m + 1) H N → (v H N).mv = true := fun D m c hm hlook => by
    obtain ⟨rc, hc, nc, sc⟩ := stp (K := K) (n := n) (l := []) (k := nx + 26) (m' := m + 1) (P := On [] (nx + 26) D m) fun H N hp => o_crash hK hn4 hp (by omega) zk keeps hk lk' names
    obtain ⟨v, hr, nr, y1, y2, y3, _⟩ := sk_read' (K := K) (n := n) (l := []) (k := nx + 26) (m := m + 1) (d := D.crash keeps names) (s := tIt) (b := c) (P := On [] (nx + 26) (D.crash keeps names) (m + 1)) hK hn4 (by rw [hlook]) (by rw [hlook]; rfl) (fun H N h => h)
    exact ⟨rc, hc, nc, v, hr, nr, sc.e, sc.add, y1, y2, y3⟩
  have cva := fun (get : Ref → Option AO) => conv_vs (get := get) ha
  have cvb := fun (get : Ref → Option AO) => conv_vs (get := get) hb
  have u0 : IntKind.i64.wrap 0 = 0 := by decide
  have u1 : IntKind.i64.wrap 1 = 1 := by decide
  have u2 : IntKind.i64.wrap 2 = 2 := by decide
  have u3 : IntKind.i64.wrap 3 = 3 := by decide
  have u4 : IntKind.i64.wrap 4 = 4 := by decide
  have u5 : IntKind.i64.wrap 5 = 5 := by decide
  have ht6 : t.tmod 6 = 0 ∨ t.tmod 6 = 1 ∨ t.tmod 6 = 2 ∨ t.tmod 6 = 3 ∨ t.tmod 6 = 4 ∨ t.tmod 6 = 5 := by
    rw [Int.tmod_eq_emod_of_nonneg ht.1]
    omega
  rcases ht6 with h6 | h6 | h6 | h6 | h6 | h6
  · have hlk : ((wD4 a).crash keeps names).look tIt = (0, some ⟨a, a.length⟩) := look_crash (i := 0) rfl (by show findW (([[(tIt, 0)]] : List Way)[leftN names 1]?.getD []) tIt = _; rw [leftN1]; rfl) rfl
    obtain ⟨rc, hc, nc, v, hr, nr, f1, f2, f3, f4, f5⟩ := fin _ 4 _ (by omega) hlk
    simp (maxDischargeDepth := 20) [eL, e0, wa, wb, wab, hbig, h6, u0, conv_u8, p0, e1, q1, r1, e2, q2, r2, e3, q3, r3, e4, q4, r4, e5, q5, r5, e6, q6, r6, e7, q7, r7, e8, q8, r8, e9, q9, r9, f1, f2, f3, f4, f5, cva, cvb, Nat.add_assoc]
    exact hQ _ _ _ rfl
  · have hlk : ((wD5 a).crash keeps names).look tIt = (0, some ⟨a, a.length⟩) := look_crash (i := 0) rfl (by
      show findW (([[(tIt, 0)], [(tIt, 0), (tNew, 1)]] : List Way)[leftN names 2]?.getD []) tIt = _
      have := leftN_lt names (show 0 < 2 by omega)
      have h2 : leftN names 2 = 0 ∨ leftN names 2 = 1 := by omega
      rcases h2 with h2 | h2 <;> (rw [h2]; rfl)) rfl
    obtain ⟨rc, hc, nc, v, hr, nr, f1, f2, f3, f4, f5⟩ := fin _ 5 _ (by omega) hlk
    simp (maxDischargeDepth := 20) [eL, e0, wa, wb, wab, hbig, h6, u1, conv_u8, p0, e1, q1, r1, e2, q2, r2, e3, q3, r3, e4, q4, r4, e5, q5, r5, e6, q6, r6, e7, q7, r7, e8, q8, r8, e9, q9, r9, f1, f2, f3, f4, f5, cva, cvb, Nat.add_assoc]
    exact hQ _ _ _ rfl
  · have hlk : ((wD6 a b).crash keeps names).look tIt = (0, some ⟨a, a.length⟩) := look_crash (i := 0) rfl (by
      show findW (([[(tIt, 0)], [(tIt, 0), (tNew, 1)]] : List Way)[leftN names 2]?.getD []) tIt = _
      have := leftN_lt names (show 0 < 2 by omega)
      have h2 : leftN names 2 = 0 ∨ leftN names 2 = 1 := by omega
      rcases h2 with h2 | h2 <;> (rw [h2]; rfl)) rfl
    obtain ⟨rc, hc, nc, v, hr, nr, f1, f2, f3, f4, f5⟩ := fin _ 6 _ (by omega) hlk
    simp (maxDischargeDepth := 20) [eL, e0, wa, wb, wab, hbig, h6, u2, conv_u8, p0, e1, q1, r1, e2, q2, r2, e3, q3, r3, e4, q4, r4, e5, q5, r5, e6, q6, r6, e7, q7, r7, e8, q8, r8, e9, q9, r9, f1, f2, f3, f4, f5, cva, cvb, Nat.add_assoc]
    exact hQ _ _ _ rfl
  · have hlk : ((wD7 a b).crash keeps names).look tIt = (0, some ⟨a, a.length⟩) := look_crash (i := 0) rfl (by
      show findW (([[(tIt, 0)], [(tIt, 0), (tNew, 1)]] : List Way)[leftN names 2]?.getD []) tIt = _
      have := leftN_lt names (show 0 < 2 by omega)
      have h2 : leftN names 2 = 0 ∨ leftN names 2 = 1 := by omega
      rcases h2 with h2 | h2 <;> (rw [h2]; rfl)) rfl
    obtain ⟨rc, hc, nc, v, hr, nr, f1, f2, f3, f4, f5⟩ := fin _ 7 _ (by omega) hlk
    simp (maxDischargeDepth := 20) [eL, e0, wa, wb, wab, hbig, h6, u3, conv_u8, p0, e1, q1, r1, e2, q2, r2, e3, q3, r3, e4, q4, r4, e5, q5, r5, e6, q6, r6, e7, q7, r7, e8, q8, r8, e9, q9, r9, f1, f2, f3, f4, f5, cva, cvb, Nat.add_assoc]
    exact hQ _ _ _ rfl
  · have := leftN_lt names (show 0 < 3 by omega)
    have h3 : leftN names 3 = 0 ∨ leftN names 3 = 1 ∨ leftN names 3 = 2 := by omega
    have h3 : (leftN names 3 = 0 ∨ leftN names 3 = 1) ∨ leftN names 3 = 2 := by omega
    rcases h3 with h3 | h3
    · have hlk : ((wD8 a b).crash keeps names).look tIt = (0, some ⟨a, a.length⟩) := look_crash (i := 0) rfl (by
        show findW (([[(tIt, 0)], [(tIt, 0), (tNew, 1)], [(tIt, 1)]] : List Way)[leftN names 3]?.getD []) tIt = _
        rcases h3 with h3 | h3 <;> (rw [h3]; rfl)) rfl
      obtain ⟨rc, hc, nc, v, hr, nr, f1, f2, f3, f4, f5⟩ := fin _ 8 _ (by omega) hlk
      simp (maxDischargeDepth := 20) [eL, e0, wa, wb, wab, hbig, h6, u4, conv_u8, p0, e1, q1, r1, e2, q2, r2, e3, q3, r3, e4, q4, r4, e5, q5, r5, e6, q6, r6, e7, q7, r7, e8, q8, r8, e9, q9, r9, f1, f2, f3, f4, f5, cva, cvb, Nat.add_assoc]
      exact hQ _ _ _ rfl
    · have hlk : ((wD8 a b).crash keeps names).look tIt = (0, some ⟨b, b.length⟩) := look_crash (i := 1) rfl (by
        show findW (([[(tIt, 0)], [(tIt, 0), (tNew, 1)], [(tIt, 1)]] : List Way)[leftN names 3]?.getD []) tIt = _
        rw [h3]; rfl) rfl
      obtain ⟨rc, hc, nc, v, hr, nr, f1, f2, f3, f4, f5⟩ := fin _ 8 _ (by omega) hlk
      cases hba : b == a
      · simp (maxDischargeDepth := 20) [eL, e0, wa, wb, wab, hbig, h6, u4, conv_u8, p0, e1, q1, r1, e2, q2, r2, e3, q3, r3, e4, q4, r4, e5, q5, r5, e6, q6, r6, e7, q7, r7, e8, q8, r8, e9, q9, r9, f1, f2, f3, f4, f5, cva, cvb, ba_list, hba, Nat.add_assoc]
        exact hQ _ _ _ rfl
      · simp (maxDischargeDepth := 20) [eL, e0, wa, wb, wab, hbig, h6, u4, conv_u8, p0, e1, q1, r1, e2, q2, r2, e3, q3, r3, e4, q4, r4, e5, q5, r5, e6, q6, r6, e7, q7, r7, e8, q8, r8, e9, q9, r9, f1, f2, f3, f4, f5, cva, cvb, ba_list, hba, Nat.add_assoc]
        exact hQ _ _ _ rfl
  · have hlk : ((wD9 a b).crash keeps names).look tIt = (0, some ⟨b, b.length⟩) := look_crash (i := 1) rfl (by show findW (([[(tIt, 1)]] : List Way)[leftN names 1]?.getD []) tIt = _; rw [leftN1]; rfl) rfl
    obtain ⟨rc, hc, nc, v, hr, nr, f1, f2, f3, f4, f5⟩ := fin _ 9 _ (by omega) hlk
    cases hba : b == a
    · simp (maxDischargeDepth := 20) [eL, e0, wa, wb, wab, hbig, h6, u5, conv_u8, p0, e1, q1, r1, e2, q2, r2, e3, q3, r3, e4, q4, r4, e5, q5, r5, e6, q6, r6, e7, q7, r7, e8, q8, r8, e9, q9, r9, f1, f2, f3, f4, f5, cva, cvb, ba_list, hba, Nat.add_assoc]
      exact hQ _ _ _ rfl
    · simp (maxDischargeDepth := 20) [eL, e0, wa, wb, wab, hbig, h6, u5, conv_u8, p0, e1, q1, r1, e2, q2, r2, e3, q3, r3, e4, q4, r4, e5, q5, r5, e6, q6, r6, e7, q7, r7, e8, q8, r8, e9, q9, r9, f1, f2, f3, f4, f5, cva, cvb, ba_list, hba, Nat.add_assoc]
      exact hQ _ _ _ rfl

end Ab
end Go.Proofs.Ytecjchghapgdeaa

/-
  DERIVED. LogCrash, a round: a crash.
  Conditions: enough rounds, enough depth; bounded lengths.
-/
import Derived.Test.YtmbbnoipoifhhaaGreatDoorVF
set_option linter.all false
set_option maxHeartbeats 4000000
namespace Go.Proofs.YtmbbnoipoifhhaaGreatDoor
namespace Ab
set_option maxRecDepth 100000
set_option maxHeartbeats 8000000
set_option linter.all false
attribute [local simp] wp_regW opsW_nil opsW_cons opsK_eq regK_no regK_draw oW_n oW_h oW_r oW_pn convA appendA appRow newsA rowsSz rowsOf isIntD makeSliceA elemOf rowsBuilt eqA eq1
attribute [-simp] fCall
variable {kl kd : Nat} {d : Dk} {U S T : Nat → Prop} {sv : AV} {ks : List Nat} {rvs : Nat → AV} {H H' : Hp} {N N' K n m : Nat} {l : Lg} {name : Bs}

theorem crash_k4 (hK : big K) (hn : 11 ≤ n) {x : Int} {z : Bool} {rows : List (List AV)} {acts : List CAct} {i sz : Nat} {a : CAct} {s : CSt} {av : AV} {Next : St → Prop} {Q : Ex × St → Prop} (hkd : a.kind = 4) (hx : sizeN x = sz) (x1 : -9223372036854775808 ≤ x) (x2 : x ≤ 9223372036854775807)
    (hz : z = true → rows = []) (hr : CActRows rows acts) (hl : acts.length ≤ 150000) (ha : acts[i]? = some a) (hok : a.ok) (hB : CB sz i s) (hB' : CB sz (i + 1) (s.step a)) (hI : CrashI kd s kl av H N) (hD : s.dropped ≤ i + 1)
    (hnext : ∀ kl' av' H' N', CrashI kd (s.step a) kl' av' H' N' → Next (crashSt x z rows kd (i + 1, s.step a, kl', av', H', N'))) :
    wp (codeA cfg (callA cfg K n) K 5 (loopOf Tryz.f5 0) (crashSt x z rows kd (i, s, kl, av, H, N))) (loopQ Next Q) := by
  obtain ⟨hi, rfl⟩ := List.getElem?_eq_some_iff.1 ha
  obtain ⟨r, hrow⟩ : ∃ r, rows[i]? = some r := ⟨_, List.getElem?_eq_getElem (by rw [hr.1]; exact hi)⟩
  obtain ⟨how, zb, zk, rfl, hzb, hzk⟩ := hr.2 i r _ hrow ha
  generalize acts[i] = a at *
  have hlen := hr.1
  have c1 : (i : Int) < acts.length := by omega
  have zf : z = false := by
    cases z
    · rfl
    · rw [hz rfl] at hrow
      simp at hrow
  subst zf
  obtain ⟨U, sv, ks, rvs, L, hA⟩ := hI
  have hLB := hB.lb (by omega)
  have hsz := hB.cin.base.size
  obtain ⟨o1, o2, o3, o4, o5⟩ := hok
  have hInv := hB.cin.base.inv
  have hfew := hB.cin.few
  have w4 : IntKind.i64.wrap ((i : Int) + 1) = ((i + 1 : Nat) : Int) := by rw [wrap_i64 (by omega) (by omega)]; omega
  obtain ⟨s1, s2⟩ := hA.sl
  have w1 : IntKind.u64.wrap (s.all.length : Int) = (s.all.length : Nat) := wrap_u64' (by omega)
  have w3 : IntKind.u64.wrap ((s.dropped : Int) + 1) = ((s.dropped + 1 : Nat) : Int) := by rw [wrap_u64Z]; unfold W64 at *; omega
  obtain ⟨d', l', g1, g2, g3, g4, g5, g6, g7, g8, g9⟩ := crash_open hInv (by unfold W64; omega) hsz a.keeps a.names
  have hst : s.step a = { s with d := d', l := l', all := s.all.take l'.last, stopping := false } := by
    unfold CSt.step; rw [if_neg (by omega), if_neg (by omega), if_neg (by omega), if_neg (by omega), if_pos hkd, g1]
  rw [hst] at hB' hnext
  rw [hB.name, hB.size] at g1 g9
  have lgS : ({ data := #[108, 111, 103] } : ByteArray) = ba logN := rfl
  simp [loopOf, loopsIn, Tryz.f5, crashSt, lenA_sl, hlen, c1, hrow, cactV, hkd, s2]
  refine Sp.cW (c_LFast (by omega) (L.low (H' := H) (fun _ _ => rfl) (by omega))) ?_
  rintro _ H0 N0 ⟨rfl, e0, hN0⟩
  have e0' := e0.symm
  subst e0'
  simp
  obtain ⟨S0, P0, hS0⟩ := L.prep
  refine Sp.cW (c_pCrash hK (by omega) hInv.inv (by omega) (P0.frame (hp' := H) (nx' := N0 + 6) (fun _ _ => rfl) (by omega)) _ a.keeps (.inl ⟨zk, rfl, hzk⟩) (by omega) a.names) ?_
  rintro _ H1 N1 ⟨P1, F1⟩
  have hF1 := F1.le
  simp
  have ws : pR (callA cfg K n) 22 [.i .i64 x] = some (.i .i64 (sz : Nat)) := by rw [c_wsize (K := K) (n := n) (by omega) x x1 x2, hx]
  simp [lgS, ws]
  refine Sp.cW (c_gopen (name := logN) hK (by omega) (hInv.inv.crash a.keeps a.names) (by omega) (P1.frame (fun _ _ => rfl) (by omega)) (sz : Nat)) ?_
  rw [g1]
  rintro _ H2 N2 ⟨F2, kl2, sv2, ks2, rvs2, rfl, L2⟩
  have hF2 := F2.le
  simp
  have hB2 := hB'.lb (by omega)
  simp only at hB2
  have k1 : ¬ (l'.last : Int) < (s.l.fast : Nat) := by omega
  have k2 : ¬ (s.all.length : Int) < (l'.last : Nat) := by omega
  have k3 : (l'.last : Int) ≤ (s.all.length : Nat) := by omega
  refine Sp.cW (c_Last (by omega) (L2.low (fun _ _ => rfl) (by omega))) ?_
  rintro _ H0 M1 ⟨rfl, e0, hM1⟩
  have e0' := e0.symm
  subst e0'
  simp [k1]
  refine Sp.cW (c_Last (by omega) (L2.low (fun _ _ => rfl) (by omega))) ?_
  rintro _ H0 M2 ⟨rfl, e0, hM2⟩
  have e0' := e0.symm
  subst e0'
  simp [k2, s1, s2, lenA_sl, w1]
  refine Sp.cW (c_Last (by omega) (L2.low (fun _ _ => rfl) (by omega))) ?_
  rintro _ H0 M3 ⟨rfl, e0, hM3⟩
  have e0' := e0.symm
  subst e0'
  simp [s2, s1, k3]
  have hS2' : ∀ j, (¬ U j ∧ j < N) → lk H2 j = lk H j := fun j hj => (F2.out j (by have := hj.2; omega) (fun e => e.elim (fun e => hj.1 (hS0 j e)) fun e => by have := hj.2; omega)).trans (F1.out j (by have := hj.2; omega) (fun e => hj.1 (hS0 j e)))
  have hA2 : AllV H2 av s.all fun j => ¬ U j ∧ j < N := hA.keep hS2' fun _ h => h
  rcases hA2 with ⟨h0, rfl⟩ | ⟨ka, ga, rws, rfl, ha1, ha2, ha3, ha4⟩
  · have h00 : l'.last = 0 := by rw [h0] at g5; simpa using g5
    have A3 : AllV H2 (.vs true 0 []) (s.all.take l'.last) fun j => ¬ U j ∧ j < N := (.inl ⟨by rw [h0, List.take_nil], rfl⟩)
    simp [h00, ws, lgS]
    have L2' := L2
    obtain ⟨S2, T2, P2, G2, hd2, hS2, hT2, hlt2⟩ := L2'
    refine Sp.cW (c_gopen (name := logN) hK (by omega) g6.inv (by omega) (P2.frame (fun _ _ => rfl) (by omega)) (sz : Nat)) ?_
    rw [g9]
    rintro _ H3 N3 ⟨F3, kl3, sv3, ks3, rvs3, rfl, L3⟩
    have hF3 := F3.le
    obtain ⟨M4, hM4, L3⟩ : ∃ M4, N2 ≤ M4 ∧ LX kl3 kd l' d' (grw S2 M4 N3) sv3 ks3 rvs3 H3 N3 := ⟨_, by omega, L3⟩
    have hnS : ∀ j, (¬ U j ∧ j < N) → ¬ S2 j := fun j hj e => (hS2 j e).elim (fun e => e.elim (fun e => hj.1 (hS0 j e)) (fun e => by have := hj.2; omega)) (fun e => by have := hj.2; omega)
    obtain ⟨S3, T3, P3, G3, hd3, hS3, hT3, hlt3⟩ := id L3
    have hT2N : ∀ j, T2 j → j < N2 := fun j hj => hlt2 j (hT2 j hj)
    have L4 : LX kl2 kd l' d' (fun j => S3 j ∨ T2 j) sv2 ks2 rvs2 H3 N3 :=
      ⟨S3, T2, P3, G2.mono (fun j hj => F3.out j (by have := hT2N j hj; omega) fun e => hd2 j e hj) fun _ h => h, fun j hj e => (hS3 j hj).elim (fun e2 => hd2 j e2 e) fun e2 => (by have := hT2N j e; omega), fun _ => .inl, fun _ => .inr, fun j hj => hj.elim (fun e => hlt3 j (hS3 j e)) fun e => (by have := hT2N j e; omega)⟩
    have A4 : AllV H3 (.vs true 0 []) (s.all.take l'.last) fun j => ¬ grw S2 M4 N3 j ∧ j < N3 := A3.keep (fun j hj => F3.out j (by have := hj.2; omega) (hnS j hj)) fun j hj => ⟨fun e => e.elim (hnS j hj) fun e => (by have := hj.2; omega), by have := hj.2; omega⟩
    have C3 : CrashI kd { s with d := d', l := l', all := s.all.take l'.last, stopping := false } kl3 (.vs true 0 []) H3 N3 := ⟨_, sv3, ks3, rvs3, L3, A4⟩
    simp
    refine Sp.cW (c_First (by omega) hB2 (L3.low (fun _ _ => rfl) (by omega))) ?_
    rintro _ H0 M5 ⟨rfl, e0, hM5⟩
    have e0' := e0.symm
    subst e0'
    simp
    refine Sp.cW (c_First (by omega) hB2 (L4.low (fun _ _ => rfl) (by omega))) ?_
    rintro _ H0 M6 ⟨rfl, e0, hM6⟩
    have e0' := e0.symm
    subst e0'
    simp
    refine Sp.cW (c_Last (by omega) (L3.low (fun _ _ => rfl) (by omega))) ?_
    rintro _ H0 M7 ⟨rfl, e0, hM7⟩
    have e0' := e0.symm
    subst e0'
    simp
    refine Sp.cW (c_Last (by omega) (L4.low (fun _ _ => rfl) (by omega))) ?_
    rintro _ H0 M8 ⟨rfl, e0, hM8⟩
    have e0' := e0.symm
    subst e0'
    simp [s2]
    refine Sp.cW (crash_told hK (by omega) hB' (by omega) (C3.low (fun _ _ => rfl) (by omega))) ?_
    rintro _ H5 N4 ⟨rfl, hN4, C4⟩
    simp
    refine Sp.cW (crash_first (by omega) hB' (by omega) C4) ?_
    rintro _ H6 N5 ⟨rfl, e5, hN5⟩
    have e5' := e5.symm
    subst e5'
    have hf1 := hB'.first (by omega)
    try simp only at hf1
    have k1 : ¬ (s.dropped : Int) + 1 < (l'.first : Nat) := by omega
    simp [w3, w4, k1]
    exact hnext _ _ _ _ (C4.low (fun _ _ => rfl) (by omega))
  · have ha5 : s.all.length ≤ rws.length := ha3
    have lt : (s.all.take l'.last).length = l'.last := by rw [List.length_take]; omega
    have A3 : AllV H2 (.rs ka ga 0 l'.last 1) (s.all.take l'.last) fun j => ¬ U j ∧ j < N := (.inr ⟨ka, ga, rws, by rw [lt], ha1, by rw [lt, strRows, List.map_take, ← strRows, ← ha2, List.take_take, Nat.min_eq_left g5], by rw [lt]; omega, ha4⟩)
    simp [g5, ha1, ha3, ws, lgS]
    have L2' := L2
    obtain ⟨S2, T2, P2, G2, hd2, hS2, hT2, hlt2⟩ := L2'
    refine Sp.cW (c_gopen (name := logN) hK (by omega) g6.inv (by omega) (P2.frame (fun _ _ => rfl) (by omega)) (sz : Nat)) ?_
    rw [g9]
    rintro _ H3 N3 ⟨F3, kl3, sv3, ks3, rvs3, rfl, L3⟩
    have hF3 := F3.le
    obtain ⟨M4, hM4, L3⟩ : ∃ M4, N2 ≤ M4 ∧ LX kl3 kd l' d' (grw S2 M4 N3) sv3 ks3 rvs3 H3 N3 := ⟨_, by omega, L3⟩
    have hnS : ∀ j, (¬ U j ∧ j < N) → ¬ S2 j := fun j hj e => (hS2 j e).elim (fun e => e.elim (fun e => hj.1 (hS0 j e)) (fun e => by have := hj.2; omega)) (fun e => by have := hj.2; omega)
    obtain ⟨S3, T3, P3, G3, hd3, hS3, hT3, hlt3⟩ := id L3
    have hT2N : ∀ j, T2 j → j < N2 := fun j hj => hlt2 j (hT2 j hj)
    have L4 : LX kl2 kd l' d' (fun j => S3 j ∨ T2 j) sv2 ks2 rvs2 H3 N3 :=
      ⟨S3, T2, P3, G2.mono (fun j hj => F3.out j (by have := hT2N j hj; omega) fun e => hd2 j e hj) fun _ h => h, fun j hj e => (hS3 j hj).elim (fun e2 => hd2 j e2 e) fun e2 => (by have := hT2N j e; omega), fun _ => .inl, fun _ => .inr, fun j hj => hj.elim (fun e => hlt3 j (hS3 j e)) fun e => (by have := hT2N j e; omega)⟩
    have A4 : AllV H3 (.rs ka ga 0 l'.last 1) (s.all.take l'.last) fun j => ¬ grw S2 M4 N3 j ∧ j < N3 := A3.keep (fun j hj => F3.out j (by have := hj.2; omega) (hnS j hj)) fun j hj => ⟨fun e => e.elim (hnS j hj) fun e => (by have := hj.2; omega), by have := hj.2; omega⟩
    have C3 : CrashI kd { s with d := d', l := l', all := s.all.take l'.last, stopping := false } kl3 (.rs ka ga 0 l'.last 1) H3 N3 := ⟨_, sv3, ks3, rvs3, L3, A4⟩
    simp
    refine Sp.cW (c_First (by omega) hB2 (L3.low (fun _ _ => rfl) (by omega))) ?_
    rintro _ H0 M5 ⟨rfl, e0, hM5⟩
    have e0' := e0.symm
    subst e0'
    simp
    refine Sp.cW (c_First (by omega) hB2 (L4.low (fun _ _ => rfl) (by omega))) ?_
    rintro _ H0 M6 ⟨rfl, e0, hM6⟩
    have e0' := e0.symm
    subst e0'
    simp
    refine Sp.cW (c_Last (by omega) (L3.low (fun _ _ => rfl) (by omega))) ?_
    rintro _ H0 M7 ⟨rfl, e0, hM7⟩
    have e0' := e0.symm
    subst e0'
    simp
    refine Sp.cW (c_Last (by omega) (L4.low (fun _ _ => rfl) (by omega))) ?_
    rintro _ H0 M8 ⟨rfl, e0, hM8⟩
    have e0' := e0.symm
    subst e0'
    simp [s2]
    refine Sp.cW (crash_told hK (by omega) hB' (by omega) (C3.low (fun _ _ => rfl) (by omega))) ?_
    rintro _ H5 N4 ⟨rfl, hN4, C4⟩
    simp
    refine Sp.cW (crash_first (by omega) hB' (by omega) C4) ?_
    rintro _ H6 N5 ⟨rfl, e5, hN5⟩
    have e5' := e5.symm
    subst e5'
    have hf1 := hB'.first (by omega)
    try simp only at hf1
    have k1 : ¬ (s.dropped : Int) + 1 < (l'.first : Nat) := by omega
    simp [w3, w4, k1]
    exact hnext _ _ _ _ (C4.low (fun _ _ => rfl) (by omega))

end Ab
end Go.Proofs.YtmbbnoipoifhhaaGreatDoor

/-
  DERIVED. LogCrash: the law's function answers true.
  Conditions: enough rounds, enough depth; bounded lengths.
-/
namespace Go.Proofs.YtmbbnoipoifhhaaGreatDoor
namespace Ab
set_option maxRecDepth 100000
set_option maxHeartbeats 8000000
set_option linter.all false
attribute [local simp] wp_regW opsW_nil opsW_cons opsK_eq regK_no regK_draw oW_n oW_h oW_r oW_pn convA appendA appRow newsA rowsSz rowsOf isIntD makeSliceA elemOf rowsBuilt eqA eq1
attribute [-simp] fCall
variable {kl kd : Nat} {d : Dk} {U S T : Nat → Prop} {sv : AV} {ks : List Nat} {rvs : Nat → AV} {H H' : Hp} {N N' K n m : Nat} {l : Lg} {name : Bs}

theorem crashS_step (sz q : Nat) {acts : List CAct} {i : Nat} {a : CAct} (ha : acts[i]? = some a) : crashS sz q acts (i + 1) = (crashS sz q acts i).step a := by
  unfold crashS
  rw [List.take_add_one, ha, Option.toList_some, List.foldl_append]
  rfl
theorem crashS_ok {sz q : Nat} {acts : List CAct} (hq : q ≤ 16777216) (h1 : 64 ≤ sz) (h2 : sz ≤ 4194304) (hok : ∀ a ∈ acts, a.ok) : ∀ i, i ≤ acts.length → i ≤ 150000 → CB sz i (crashS sz q acts i) ∧ (crashS sz q acts i).dropped ≤ i + 1
  | 0, _, _ => ⟨CB.start q sz hq h1 h2, Nat.zero_le _⟩
  | i + 1, h, hi => by
    obtain ⟨g1, g2⟩ := crashS_ok hq h1 h2 hok i (by omega) (by omega)
    obtain ⟨a, ha⟩ : ∃ a, acts[i]? = some a := ⟨_, List.getElem?_eq_getElem (by omega)⟩
    have hm := hok a (List.mem_of_getElem? ha)
    rw [crashS_step sz q ha]
    refine ⟨g1.step (by unfold W64; omega) a hm.2.2.2, ?_⟩
    have hf := g1.cin.few
    generalize crashS sz q acts i = s at *
    unfold CSt.step
    repeat' split
    all_goals first | exact Nat.le_succ_of_le g2 | skip
    have := Nat.mod_lt a.no (by omega : 0 < s.all.length + 2)
    simp only
    omega
theorem crash_round (hK : big K) (hn : 11 ≤ n) {x : Int} (x1 : -9223372036854775808 ≤ x) (x2 : x ≤ 9223372036854775807) {z : Bool} {rows : List (List AV)} {acts : List CAct} {i : Nat} {a : CAct} {s : CSt} {av : AV} {Next : St → Prop} {Q : Ex × St → Prop}
    (hz : z = true → rows = []) (hr : CActRows rows acts) (hl : acts.length ≤ 150000) (ha : acts[i]? = some a) (hok : a.ok) (hB : CB (sizeN x) i s) (hB' : CB (sizeN x) (i + 1) (s.step a)) (hI : CrashI kd s kl av H N) (hD : s.dropped ≤ i + 1)
    (hnext : ∀ kl' av' H' N', CrashI kd (s.step a) kl' av' H' N' → Next (crashSt x z rows kd (i + 1, s.step a, kl', av', H', N'))) :
    wp (codeA cfg (callA cfg K n) K 5 (loopOf Tryz.f5 0) (crashSt x z rows kd (i, s, kl, av, H, N))) (loopQ Next Q) := by
  by_cases h0 : a.kind = 0
  · exact crash_k0 hK hn h0 hz hr hl ha hok hB hB' hI hD hnext
  by_cases h1 : a.kind = 1
  · exact crash_k1 hK hn h1 hz hr hl ha hok hB hB' hI hD hnext
  by_cases h3 : a.kind = 3
  · exact crash_k3 hK hn h3 hz hr hl ha hok hB hB' hI hD hnext
  by_cases h6 : a.kind = 6
  · exact crash_k6 hK hn h6 hz hr hl ha hok hB hB' hI hD hnext
  by_cases h4 : a.kind = 4
  · exact crash_k4 hK hn h4 rfl x1 x2 hz hr hl ha hok hB hB' hI hD hnext
  · exact crash_kX hK hn h0 h1 h3 h6 h4 hz hr hl ha hok hB hB' hI hD hnext

theorem c_LogCrash (hK : big K) (hn : 12 ≤ n) (q x : Int) (q1 : -9223372036854775808 ≤ q) (q2 : q ≤ 9223372036854775807) (x1 : -9223372036854775808 ≤ x) (x2 : x ≤ 9223372036854775807) (z : Bool) (rows : List (List AV)) (acts : List CAct)
    (hz : z = true → rows = []) (hr : CActRows rows acts) (hl : acts.length ≤ 150000) (hok : ∀ a ∈ acts, a.ok) :
    Sp K n 5 [.i .i64 q, .i .i64 x, .vs z 7 rows] H N fun r _ _ => r = .b true := by
  refine sp_cps fun Q hQ => ?_
  obtain ⟨n, rfl⟩ : ∃ m, n = m + 1 := ⟨n - 1, by omega⟩
  have eL := p_wlives (K := K) (n := n) hK (by omega)
  refine sp_of rfl (run_wp Tryz.func5 rfl (by simp [Tryz.f5]) ?_)
  simp
  refine pn_use (args' := []) rfl eL rfl fun rd => ?_
  simp
  refine Sp.cW (c_fresh hK (by omega) q x q1 q2 x1 x2) ?_
  rintro _ H2 N2 ⟨kd, kl, U, sv, ks, rvs, rfl, L, hU, hle, hH⟩
  simp
  have hq := quotaN_le q
  have hsz := sizeN_le x
  have hall := crashS_ok (sz := sizeN x) (q := quotaN q) hq hsz.1 hsz.2 hok
  refine loop_wp (ι := Nat × CSt × Nat × AV × Hp × Nat) (crashSt x z rows kd) (fun i => acts.length - i.1) (fun i => i.1 ≤ acts.length ∧ i.2.1 = crashS (sizeN x) (quotaN q) acts i.1 ∧ CrashI kd i.2.1 i.2.2.1 i.2.2.2.1 i.2.2.2.2.1 i.2.2.2.2.2) (0, crashS (sizeN x) (quotaN q) acts 0, kl, .vs true 0 [], H2, N2 + 6) rfl ⟨Nat.zero_le _, rfl, U, sv, ks, rvs, L.low (fun _ _ => rfl) (by show N2 ≤ N2 + 6; omega), .inl ⟨rfl, rfl⟩⟩ (by simp; unfold big at hK; omega) ?_
  rintro Next ⟨i, s, kl', av', H3, N3⟩ ⟨hi, hs, hC⟩ hnext
  simp only at hi hs hC hnext
  subst hs
  obtain ⟨b1, b2⟩ := hall i hi (by omega)
  by_cases hlt : i < acts.length
  · obtain ⟨a, ha⟩ : ∃ a, acts[i]? = some a := ⟨_, List.getElem?_eq_getElem hlt⟩
    have b3 := (hall (i + 1) hlt (by omega)).1
    have hstep := crashS_step (sizeN x) (quotaN q) ha
    rw [hstep] at b3
    refine crash_round hK (by omega) x1 x2 hz hr hl ha (hok a (List.mem_of_getElem? ha)) b1 b3 hC b2 fun kl2 av2 H4 N4 hC2 => ?_
    exact hnext (i + 1, _, kl2, av2, H4, N4) (by simp only; omega) ⟨hlt, hstep.symm, hC2⟩
  · have hlen := hr.1
    have c1 : ¬ (i : Int) < acts.length := by omega
    simp [crashSt, lenA_sl, hlen, c1]
    exact hQ _ _ _ rfl

end Ab
end Go.Proofs.YtmbbnoipoifhhaaGreatDoor

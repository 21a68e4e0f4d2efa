/-
  DERIVED. LogFull: the law's function answers true.
  Conditions: enough rounds, enough depth; bounded lengths.
-/
import Derived.Test.YtmbbnoipoifhhaaGreatDoorV25
import Derived.Test.YtmbbnoipoifhhaaGreatDoorV21
set_option linter.all false
set_option maxHeartbeats 4000000
namespace Go.Proofs.YtmbbnoipoifhhaaGreatDoor
namespace Ab
set_option maxRecDepth 100000
set_option maxHeartbeats 8000000
set_option linter.all false
attribute [local simp] wp_regW opsW_nil opsW_cons opsK_eq regK_no regK_draw oW_n oW_h oW_r oW_pn convA appendA appRow newsA rowsSz rowsOf isIntD makeSliceA elemOf rowsBuilt eqA eq1
attribute [-simp] fCall
variable {kl kd : Nat} {d : Dk} {U S T : Nat → Prop} {sv : AV} {ks : List Nat} {rvs : Nat → AV} {H H' : Hp} {N N' K n m : Nat} {l : Lg} {name : Bs}

@[simp] theorem underlying_23 : Program.underlying Go.Proofs.Tryz.prog 23 = some (TypeDesc.int IntKind.u16) := by kernel_rfl
@[simp] theorem szOf_23 : szOf Go.Proofs.Tryz.prog 23 = some 1 := by kernel_rfl
@[simp] theorem byOf_23 : byOf Go.Proofs.Tryz.prog 23 = some 2 := by kernel_rfl
@[simp] theorem zeroOf_23 : zeroOf Go.Proofs.Tryz.prog 23 = some [AV.i IntKind.u16 (0)] := by kernel_rfl
@[simp] theorem zsz_23 : zsz Go.Proofs.Tryz.prog 23 = some 1 := by kernel_rfl
@[simp] theorem zeroAV_23 : zeroAV Go.Proofs.Tryz.prog 23 = some (AV.i IntKind.u16 (0)) := by kernel_rfl
@[simp] theorem underlying_48 : Program.underlying Go.Proofs.Tryz.prog 48 = some (TypeDesc.slice 23) := by kernel_rfl
@[simp] theorem szOf_48 : szOf Go.Proofs.Tryz.prog 48 = some 1 := by kernel_rfl
@[simp] theorem byOf_48 : byOf Go.Proofs.Tryz.prog 48 = some 24 := by kernel_rfl
@[simp] theorem zeroOf_48 : zeroOf Go.Proofs.Tryz.prog 48 = some [AV.vs true 0 []] := by kernel_rfl
@[simp] theorem zsz_48 : zsz Go.Proofs.Tryz.prog 48 = some 1 := by kernel_rfl
@[simp] theorem elemOf_48 : elemOf Go.Proofs.Tryz.prog 48 = some 23 := by kernel_rfl
@[simp] theorem zeroAV_48 : zeroAV Go.Proofs.Tryz.prog 48 = some (AV.vs true 0 []) := by kernel_rfl
theorem AllV.grow {av : AV} {all : List Bs} {M : Nat} (h : AllV H av all fun j => ¬ U j ∧ j < N) (F : Frm U H N H' N') (h1 : N ≤ M) (h2 : N ≤ N') : AllV H' av all fun j => ¬ grw U M N' j ∧ j < N' :=
  h.keep (fun j hj => F.out j hj.2 hj.1) fun j hj => ⟨fun e => e.elim hj.1 fun e => by have := hj.2; omega, by have := hj.2; omega⟩
theorem crashS_step (sz q : Nat) {acts : List CAct} {i : Nat} {a : CAct} (ha : acts[i]? = some a) : crashS sz q acts (i + 1) = (crashS sz q acts i).step a := by
  unfold crashS
  rw [List.take_add_one, ha, Option.toList_some, List.foldl_append]
  rfl
def u16Rows (vs : List Nat) : List (List AV) := vs.map fun v => [.i .u16 (v : Nat)]
@[simp] theorem u16Rows_len (vs : List Nat) : (u16Rows vs).length = vs.length := by simp [u16Rows]
def fullSt (q : Nat) (x : Int) (z : Bool) (vs : List Nat) (kd : Nat) (i : Nat × CSt × Nat × AV × Hp × Nat) : St :=
  { env := [(0, .i .u16 (q : Nat)), (1, .i .i64 x), (2, .vs z 1 (u16Rows vs)), (7, .ptr kd 0 0), (8, .ptr i.2.2.1 0 0), (9, i.2.2.2.1), (10, .i .i64 (i.1 : Nat))], loc := [], hp := i.2.2.2.2.1, nx := i.2.2.2.2.2 }

theorem FB.lb {sz q k : Nat} {s : CSt} (h : FB sz q k s) (hk : k ≤ 2 ^ 20) : LB s.l := h.inv.lbF (Nat.le_trans h.few hk) h.uq.calm.1 h.short h.szs
theorem full_told {sz q k : Nat} {s : CSt} {av : AV} (hK : big K) (hn : 5 ≤ n) (hB : FB sz q k s) (hk : k ≤ 2 ^ 20) (h : CrashI kd s kl av H N) :
    Sp K n 16 [.ptr kl 0 0, av] H N fun r H' N' => r = .b true ∧ N ≤ N' ∧ CrashI kd s kl av H' N' := by
  obtain ⟨U, sv, ks, rvs, h1, h2⟩ := h
  have hf := Nat.le_trans hB.few hk
  refine (c_told hK hn (hB.lb hk) (hB.inv.allLenF hf) h1 h2 (fun j hj => hj.2) (by omega) (hB.inv.toldF hf)).mono fun r H' N' ⟨e1, e2, e3⟩ => ⟨e1, e2, ?_⟩
  exact CrashI.low ⟨U, sv, ks, rvs, h1, h2⟩ e3 e2
theorem crash_used {sz q k : Nat} {s : CSt} {av : AV} (hn : 2 ≤ n) (hB : FB sz q k s) (h : CrashI kd s kl av H N) : Sp K n 19 [.ptr kd 0 0] H N fun r H' N' => r = .i .i64 (s.d.used : Nat) ∧ H' = H ∧ N ≤ N' := by
  obtain ⟨U, sv, ks, rvs, L, _⟩ := h
  obtain ⟨S, ⟨_, m, wv, ms, φ, bv, hP⟩, _⟩ := L.prep
  exact c_pUsed hn hB.inv.inv hP

theorem full_round (hK : big K) (hn : 11 ≤ n) {x : Int} {q i sz v : Nat} {z : Bool} {vs : List Nat} {s : CSt} {av : AV} (hq : q < 65536) {Next : St → Prop} {Q : Ex × St → Prop}
    (hz : z = true → vs = []) (hl : vs.length ≤ 2 ^ 20 - 3) (hv : vs[i]? = some v) (hvb : v < 65536) (hsz : 64 ≤ sz ∧ sz ≤ 4194304) (hB : FB sz q i s) (hB' : FB sz q (i + 1) (s.step (fullA v))) (hI : CrashI kd s kl av H N)
    (hnext : ∀ kl' av' H' N', CrashI kd (s.step (fullA v)) kl' av' H' N' → Next (fullSt q x z vs kd (i + 1, s.step (fullA v), kl', av', H', N'))) :
    wp (codeA cfg (callA cfg K n) K 4 (loopOf Tryz.f4 0) (fullSt q x z vs kd (i, s, kl, av, H, N))) (loopQ Next Q) := by
  have hi : i < vs.length := (List.getElem?_eq_some_iff.1 hv).1
  have hrow : (u16Rows vs)[i]? = some [.i .u16 (v : Nat)] := by rw [u16Rows, List.getElem?_map, hv]; rfl
  have c1 : (i : Int) < vs.length := by omega
  have zf : z = false := by
    cases z
    · rfl
    · rw [hz rfl] at hi
      simp at hi
  subst zf
  obtain ⟨U, sv, ks, rvs, L, hA⟩ := hI
  have hLB := hB.lb (by omega)
  have hls := hB.size
  have hInv := hB.inv
  have hfew := hB.few
  have hu := hB.uq
  have w4 : IntKind.i64.wrap ((i : Int) + 1) = ((i + 1 : Nat) : Int) := by rw [wrap_i64 (by omega) (by omega)]; omega
  obtain ⟨s1, s2⟩ := hA.sl
  have w1 : IntKind.u64.wrap (s.all.length : Int) = (s.all.length : Nat) := wrap_u64' (by omega)
  obtain ⟨b, hb⟩ : ∃ b : Bs, b = List.replicate (v % 2000) 0 := ⟨_, rfl⟩
  have hbl : b.length = v % 2000 := by rw [hb, List.length_replicate]
  have w5 : IntKind.i64.wrap (v : Int) = (v : Nat) := wrap_i64 (by omega) (by omega)
  have w6 : (v : Int).tmod 2000 = (b.length : Nat) := by rw [hbl]; rfl
  have rz : List.replicate b.length [AV.i .u8 0] = byteRows b := by
    rw [hbl, hb]
    simp [byteRows]
  have bo := bytesOf_rows b
  have tk : (byteRows b).take b.length = byteRows b := rows_take rfl
  have ee : ∀ x : Bs, ({ data := x.toArray } : ByteArray) = ba x := fun _ => rfl
  have mb : b.length * 2 ≤ mostBytes := by rw [mostB]; omega
  have hbA : (fullA v).b = b := hb.symm
  have hk0 : (fullA v).kind = 0 := rfl
  clear hb
  simp [loopOf, loopsIn, Tryz.f4, fullSt, lenA_sl, c1, hrow, w5, w6, rz, bo, tk, ee, lk_set, mb]
  refine Sp.cW (c_Last (by omega) (L.low (fun j hj => by rw [lk_set, if_neg (by omega)]) (by omega))) ?_
  rintro _ H0 M1 ⟨rfl, e0, hM1⟩
  have e0' := e0.symm
  subst e0'
  have rb : rowsOfBytes (ba b) = byteRows b := by unfold rowsOfBytes; rfl
  simp [ba_list, rb]
  refine ⟨by rw [mostB]; omega, ?_⟩
  have hw : ∀ j, j < N → lk (up (up H (N + 4 + 6) (0, .arr 1 (byteRows b))) (M1 + 2) (0, .arr 1 (byteRows b))) j = lk H j := fun j hj => by rw [lk_set, if_neg (by omega), lk_set, if_neg (by omega)]
  refine Sp.cW (c_lappend (b := b) (U := U) hK (by omega) hInv.inv (by omega) hLB (by omega) (L.low hw (by omega)) (by rw [lk_set, if_pos rfl]) (fun e => absurd (L.lt _ e) (by omega)) (by omega) (by omega)) ?_
  rintro _ H3 N3 ⟨rfl, F3, sv3, ks3, rvs3, L3⟩
  have hF3 := F3.le
  have hAP : ∀ j, (¬ U j ∧ j < N) → ¬ grw U (M1 + 9) N3 j ∧ j < N3 := fun j hj => ⟨fun e => e.elim hj.1 fun e => by have := hj.2; omega, by have := hj.2; omega⟩
  have hfr : ∀ j, (¬ U j ∧ j < N) → lk H3 j = lk H j := fun j hj => (F3.out j (by have := hj.2; omega) hj.1).trans (hw j hj.2)
  have hcd := full_append hInv (by unfold W64; omega) hu.calm (b := b) (by unfold maxM; omega)
  have hu3 := hu.lappend s.l b
  have hlast0 := hInv.tale.last
  have wl : IntKind.u64.wrap ((s.l.last : Int) + 1) = ((s.l.last + 1 : Nat) : Int) := by rw [wrap_u64Z]; unfold W64 at *; omega
  have wq : IntKind.i64.wrap (q : Int) = (q : Nat) := wrap_i64 (by omega) (by omega)
  rcases append_ok hInv (by unfold W64; omega) b with ⟨g1, g2, g3, g4⟩ | ⟨g1, g2, g4⟩
  · have hst : s.step (fullA v) = { s with d := (s.l.append s.d b).2.2.1, l := (s.l.append s.d b).2.2.2, all := s.all ++ [b] } := by unfold CSt.step; rw [hbA, if_pos hk0, if_neg (by rw [g1]; simp)]
    rw [hst] at hB' hnext
    have g2' : (s.l.append s.d b).2.1 = s.l.last + 1 := by rw [g2, hlast0]
    have hA3 : AllV H3 av s.all fun j => ¬ U j ∧ j < N := hA.keep hfr fun _ h => h
    have done : ∀ av' H' N', N3 ≤ N' → (∀ j, grw U (M1 + 9) N3 j → lk H' j = lk H3 j) → AllV H' av' (s.all ++ [b]) (fun j => ¬ grw U (M1 + 9) N3 j ∧ j < N') → CrashI kd { s with d := (s.l.append s.d b).2.2.1, l := (s.l.append s.d b).2.2.2, all := s.all ++ [b] } kl av' H' N' := fun av' H' N' h1 h2 h3 => ⟨_, sv3, ks3, rvs3, L3.frame h2 h1, h3⟩
    rcases hA3 with ⟨h0, rfl⟩ | ⟨ka, ga, rws, rfl, ha1, ha2, ha3, ha4⟩
    · have a1 : ∀ H' N' k g, N3 ≤ k → k < N' → lk H' k = some (g, .arr 1 [[.s (ba b)]]) → AllV H' (.rs k g 0 1 1) (s.all ++ [b]) fun j => ¬ grw U (M1 + 9) N3 j ∧ j < N' := fun H' N' k g h1 h2 h3 => by
        rw [h0]
        exact .inr ⟨k, g, _, rfl, h3, rfl, Nat.le_refl _, fun e => absurd (L3.lt _ e) (by omega), h2⟩
      simp [g1, g2', wl, lk_set]
      refine ⟨by decide, ?_⟩
      refine Sp.cW (full_told hK (by omega) hB' (by omega) (done _ _ _ (by omega) (fun j hj => by have := L3.lt j hj; rw [lk_set, if_neg (by omega), lk_set, if_neg (by omega)]) (a1 _ _ _ _ (by omega) (by omega) (by rw [lk_set, if_pos rfl])))) ?_
      rintro _ H6 N6 ⟨rfl, hN6, C6⟩
      simp
      refine Sp.cW (crash_used (by omega) hB' (C6.low (fun _ _ => rfl) (by omega))) ?_
      rintro _ H7 N7 ⟨rfl, e7, hN7⟩
      have e7' := e7.symm
      subst e7'
      have hq3 := hu3.used
      have k1 : ¬ (q : Int) < (((s.l.append s.d b).2.2.1).used : Nat) := by omega
      simp [wq, w4, k1]
      exact hnext _ _ _ _ (C6.low (fun _ _ => rfl) (by omega))
    · have fk : ∀ c, ¬ ka = N3 + c := fun c => by have := ha4.2; omega
      have hsh : shown rws 0 s.all.length = strRows s.all := by
        unfold shown
        split
        · rename_i e; rw [← ha2, List.drop_zero, List.take_of_length_le (by omega)]
        · rw [List.drop_zero, ha2]
      have mb2 : (s.all.length + 1) * 17 ≤ mostBytes := by rw [mostB]; omega
      simp [g1, g2', wl, lk_set, ha1, ha3, fk, mb2, Nat.add_assoc]
      refine Sp.cW (full_told hK (by omega) hB' (by omega) (done _ _ _ (by omega) (fun j hj => by have := L3.lt j hj; have : j ≠ ka := (fun e => absurd (e ▸ hj) (hAP ka ha4).1); rw [lk_set, if_neg (by omega), lk_set, if_neg (by omega)]) (.inr ⟨ka, ga + 1, _, by simp, by rw [lk_set, if_pos rfl], by rw [hsh]; simp [strRows, List.take_of_length_le], by rw [hsh]; simp, (hAP ka ha4).1, by have := ha4.2; omega⟩))) ?_
      rintro _ H6 N6 ⟨rfl, hN6, C6⟩
      simp
      refine Sp.cW (crash_used (by omega) hB' (C6.low (fun _ _ => rfl) (by omega))) ?_
      rintro _ H7 N7 ⟨rfl, e7, hN7⟩
      have e7' := e7.symm
      subst e7'
      have hq3 := hu3.used
      have k1 : ¬ (q : Int) < (((s.l.append s.d b).2.2.1).used : Nat) := by omega
      simp [wq, w4, k1]
      exact hnext _ _ _ _ (C6.low (fun _ _ => rfl) (by omega))
  · have hst : s.step (fullA v) = { s with d := (s.l.append s.d b).2.2.1, l := (s.l.append s.d b).2.2.2 } := by unfold CSt.step; rw [hbA, if_pos hk0, if_pos g1]
    rw [hst] at hB' hnext
    have hA3 : AllV H3 av s.all fun j => ¬ grw U (M1 + 9) N3 j ∧ j < N3 := hA.keep hfr hAP
    have C3 : CrashI kd { s with d := (s.l.append s.d b).2.2.1, l := (s.l.append s.d b).2.2.2 } kl av H3 N3 := ⟨_, sv3, ks3, rvs3, L3, hA3⟩
    have hl3 : (s.l.append s.d b).2.2.2.last = s.l.last := by rw [g4.tale.last, hlast0]
    rcases hcd with q1 | q1
    · exact absurd q1 g1
    rcases q1 with q1 | q1
    all_goals
      simp [q1, g2]
      refine Sp.cW (c_Last (by omega) (L3.low (fun _ _ => rfl) (by omega))) ?_
      rintro _ H4 M4 ⟨rfl, e4, hM4⟩
      have e4' := e4.symm
      subst e4'
      rw [hl3]
      simp [s2]
      refine Sp.cW (full_told hK (by omega) hB' (by omega) (C3.low (fun _ _ => rfl) (by omega))) ?_
      rintro _ H6 N6 ⟨rfl, hN6, C6⟩
      simp
      refine Sp.cW (crash_used (by omega) hB' (C6.low (fun _ _ => rfl) (by omega))) ?_
      rintro _ H7 N7 ⟨rfl, e7, hN7⟩
      have e7' := e7.symm
      subst e7'
      have hq3 := hu3.used
      have k1 : ¬ (q : Int) < (((s.l.append s.d b).2.2.1).used : Nat) := by omega
      simp [wq, w4, k1]
      exact hnext _ _ _ _ (C6.low (fun _ _ => rfl) (by omega))

end Ab
end Go.Proofs.YtmbbnoipoifhhaaGreatDoor

/-
  DERIVED. LogFull: the law's function answers true.
  Conditions: enough rounds, enough depth; bounded lengths.
-/
namespace Go.Proofs.YtmbbnoipoifhhaaGreatDoor
namespace Ab
set_option maxRecDepth 100000
set_option maxHeartbeats 8000000
set_option linter.all false
attribute [local simp] wp_regW opsW_nil opsW_cons opsK_eq regK_no regK_draw oW_n oW_h oW_r oW_pn convA appendA appRow newsA rowsSz rowsOf isIntD makeSliceA elemOf rowsBuilt eqA eq1
attribute [-simp] fCall
variable {kl kd : Nat} {d : Dk} {U S T : Nat → Prop} {sv : AV} {ks : List Nat} {rvs : Nat → AV} {H H' : Hp} {N N' K n m : Nat} {l : Lg} {name : Bs}

theorem fullS_ok {sz q : Nat} {vs : List Nat} (hq : q ≤ 16777216) : ∀ i, i ≤ vs.length → i ≤ 2 ^ 20 → FB sz q i (crashS sz q (vs.map fullA) i)
  | 0, _, _ => FB.start q sz hq
  | i + 1, h, hi => by
    have g1 := fullS_ok (sz := sz) (vs := vs) hq i (by omega) (by omega)
    obtain ⟨v, hv⟩ : ∃ v, vs[i]? = some v := ⟨_, List.getElem?_eq_getElem (by omega)⟩
    have ha : (vs.map fullA)[i]? = some (fullA v) := by rw [List.getElem?_map, hv]; rfl
    rw [crashS_step sz q ha]
    exact g1.step (by omega) v

theorem c_LogFull (hK : big K) (hn : 12 ≤ n) (q : Nat) (hq : q < 65536) (x : Int) (x1 : -9223372036854775808 ≤ x) (x2 : x ≤ 9223372036854775807) (z : Bool) (vs : List Nat) (hz : z = true → vs = []) (hl : vs.length ≤ 2 ^ 20 - 3) (hv : ∀ v ∈ vs, v < 65536) :
    Sp K n 4 [.i .u16 (q : Nat), .i .i64 x, .vs z 1 (u16Rows vs)] H N fun r _ _ => r = .b true := by
  refine sp_cps fun Q hQ => ?_
  obtain ⟨n, rfl⟩ : ∃ m, n = m + 1 := ⟨n - 1, by omega⟩
  have eL := p_wlives (K := K) (n := n) hK (by omega)
  refine sp_of rfl (run_wp Tryz.func4 rfl (by simp [Tryz.f4]) ?_)
  have wq : IntKind.i64.wrap (q : Int) = (q : Nat) := wrap_i64 (by omega) (by omega)
  simp
  refine pn_use (args' := []) rfl eL rfl fun rd => ?_
  simp [wq]
  refine Sp.cW (c_fresh hK (by omega) (q : Nat) x (by omega) (by omega) x1 x2) ?_
  rintro _ H2 N2 ⟨kd, kl, U, sv, ks, rvs, rfl, L, hU, hle, hH⟩
  have hqq : quotaN (q : Nat) = q := by unfold quotaN; rw [if_neg (by omega)]; omega
  rw [hqq] at L
  simp
  have hsz := sizeN_le x
  have hall := fullS_ok (sz := sizeN x) (q := q) (vs := vs) (by omega)
  refine loop_wp (ι := Nat × CSt × Nat × AV × Hp × Nat) (fullSt q x z vs kd) (fun i => vs.length - i.1) (fun i => i.1 ≤ vs.length ∧ i.2.1 = crashS (sizeN x) q (vs.map fullA) i.1 ∧ CrashI kd i.2.1 i.2.2.1 i.2.2.2.1 i.2.2.2.2.1 i.2.2.2.2.2) (0, crashS (sizeN x) q (vs.map fullA) 0, kl, .vs true 0 [], H2, N2 + 4) rfl ⟨Nat.zero_le _, rfl, U, sv, ks, rvs, L.low (fun _ _ => rfl) (by show N2 ≤ N2 + 4; omega), .inl ⟨rfl, rfl⟩⟩ (by simp; unfold big at hK; omega) ?_
  rintro Next ⟨i, s, kl', av', H3, N3⟩ ⟨hi, hs, hC⟩ hnext
  simp only at hi hs hC hnext
  subst hs
  have b1 := hall i hi (by omega)
  by_cases hlt : i < vs.length
  · obtain ⟨v, hvv⟩ : ∃ v, vs[i]? = some v := ⟨_, List.getElem?_eq_getElem hlt⟩
    have ha : (vs.map fullA)[i]? = some (fullA v) := by rw [List.getElem?_map, hvv]; rfl
    have b3 := hall (i + 1) hlt (by omega)
    have hstep := crashS_step (sizeN x) q ha
    rw [hstep] at b3
    refine full_round hK (by omega) hq hz hl hvv (hv v (List.mem_of_getElem? hvv)) hsz b1 b3 hC fun kl2 av2 H4 N4 hC2 => ?_
    exact hnext (i + 1, _, kl2, av2, H4, N4) (by simp only; omega) ⟨hlt, hstep.symm, hC2⟩
  · have c1 : ¬ (i : Int) < vs.length := by omega
    generalize crashS (sizeN x) q (vs.map fullA) i = s at *
    clear hnext hall
    obtain ⟨U, sv, ks, rvs, L, hA⟩ := hC
    have hInv := b1.inv
    have hfew := b1.few
    have hi2 : i ≤ 2 ^ 20 - 3 := by omega
    have hLB := b1.lb (by omega)
    simp [fullSt, lenA_sl, c1]
    have hcalm := b1.uq.calm
    have hc0 := full_commit hInv hcalm
    have cnt4 := cnt_commit (l := s.l) b1.cnt (by omega)
    have n4 : (s.l.commit s.d).2.2.name = logN := (commit_segs _ _).2.1.trans b1.name
    have z4 : (s.l.commit s.d).2.2.size = sizeN x := (commit_segs _ _).2.2.trans b1.size
    have I4 : LInv (2 * i + 2) s.all 0 (s.l.commit s.d).2.2 (s.l.commit s.d).2.1 := by
      rcases commit_ok hInv with ⟨g1, g2, g3⟩ | ⟨g1, g2, g3, _⟩
      · rw [g1] at hc0; cases hc0
      · exact g2
    have hfast : (s.l.commit s.d).2.2.fast = s.all.length := by
      rcases commit_ok hInv with ⟨g1, g2, g3⟩ | ⟨g1, g2, g3, _⟩
      · rw [g1] at hc0; cases hc0
      · rw [g3]; exact hInv.tale.last
    refine Sp.cW (c_Commit hK (by omega) hInv.inv hLB (L.low (fun _ _ => rfl) (by omega))) ?_
    rintro _ H4 N4 ⟨rfl, F4, sv4, ks4, rvs4, L4⟩
    have hF4 := F4.le
    have F4' : Frm U H3 N3 H4 N4 := ⟨by omega, fun j hj hn => F4.out j (by omega) hn⟩
    have hA4 := hA.grow (M := N3 + 4 + 3) F4' (by omega) (by omega)
    rw [hc0]
    simp
    generalize hd4 : (s.l.commit s.d).2.1 = d4 at *
    generalize hl4 : (s.l.commit s.d).2.2 = l4 at *
    obtain ⟨d', l', g1, g2, g3, g4, g5, g6, g7, g8, g9⟩ := crash_open I4 (by unfold W64; omega) (by rw [z4]; exact hsz) [] 0
    try simp only at g1 g2 g3 g4 g5 g9
    have hll : l'.last = s.all.length := by omega
    have cnt5 := cnt_crash (keeps := []) (names := 0) cnt4
    have I5 : (d4.crash [] 0).Inv i := { (I4.inv.crash [] 0) with nfiles := cnt5.1, nways := Nat.le_trans cnt5.2 (by omega) }
    rw [n4, z4] at g1
    rw [hll, List.take_length] at g6
    have hLB6 : LB l' := g6.lbF (by omega) g7.1 b1.short (g6.szLive g7.1)
    obtain ⟨S0, P0, hS0⟩ := L4.prep
    refine Sp.cW (c_pCrash0 hK (by omega) I4.inv (by omega) (P0.frame (fun _ _ => rfl) (by omega)) _ [] (.inr ⟨rfl, 0, rfl⟩) (by simp) 0) ?_
    rintro _ H5 N5 ⟨P5, F5⟩
    have hF5 := F5.le
    have lgS : ({ data := #[108, 111, 103] } : ByteArray) = ba logN := rfl
    have ws : pR (callA cfg K n) 22 [.i .i64 x] = some (.i .i64 (sizeN x : Nat)) := c_wsize (K := K) (n := n) (by omega) x x1 x2
    simp [lgS, ws]
    refine Sp.cW (c_gopen (name := logN) hK (by omega) I5 (by omega) (P5.frame (fun _ _ => rfl) (by omega)) (sizeN x : Nat)) ?_
    rw [g1]
    rintro _ H6 N6 ⟨F6, kl6, sv6, ks6, rvs6, rfl, L6⟩
    have hF6 := F6.le
    obtain ⟨s1, s2⟩ := hA.sl
    have w1 : IntKind.u64.wrap (s.all.length : Int) = (s.all.length : Nat) := wrap_u64' (by omega)
    have hnS : ∀ j, (¬ grw U (N3 + 4 + 3) N4 j ∧ j < N4) → ¬ grw S0 (N4 + 2) N5 j := fun j hj e => e.elim (fun e => hj.1 (hS0 j e)) fun e => by have := hj.2; omega
    have hA6 : AllV H6 av' s.all fun j => ¬ grw (grw S0 (N4 + 2) N5) (N5 + 9) N6 j ∧ j < N6 :=
      hA4.keep (fun j hj => (F6.out j (by have := hj.2; omega) (hnS j hj)).trans (F5.out j (by have := hj.2; omega) fun e => hnS j hj (.inl e))) fun j hj => ⟨fun e => e.elim (hnS j hj) fun e => by have := hj.2; omega, by have := hj.2; omega⟩
    have C6 : CrashI kd { s with d := d', l := l', all := s.all, stopping := false } kl6 av' H6 N6 := ⟨_, sv6, ks6, rvs6, L6, hA6⟩
    simp [s2]
    obtain ⟨U6, sv6', ks6', rvs6', L6', A6'⟩ := C6.low (H' := H6) (N' := N6 + 20) (fun _ _ => rfl) (by omega)
    refine Sp.cW (c_told hK (by omega) hLB6 (g6.allLenF (by omega)) L6' A6' (fun j hj => hj.2) (by show s.all.length ≤ _; omega) (g6.toldF (by omega))) ?_
    rintro _ H7 N7 ⟨rfl, hN7, f7⟩
    have L7 := L6'.low f7 hN7
    simp
    refine Sp.cW (c_Last (by omega) L7) ?_
    rintro _ H8 N8 ⟨rfl, e8, hN8⟩
    have e8' := e8.symm
    subst e8'
    simp only
    rw [hll]
    simp [s2, s1, lenA_sl, w1]
    exact hQ _ _ _ rfl

end Ab
end Go.Proofs.YtmbbnoipoifhhaaGreatDoor

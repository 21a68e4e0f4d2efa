/-
  DERIVED. A log committed; what it tells of itself.
  Conditions: enough rounds, enough depth; bounded lengths.
-/
import Derived.Test.YtmbbnoipoifhhaaGreatDoorVC
set_option linter.all false
set_option maxHeartbeats 4000000
namespace Go.Proofs.YtmbbnoipoifhhaaGreatDoor
namespace Ab
set_option maxRecDepth 100000
set_option maxHeartbeats 8000000
set_option linter.all false
attribute [local simp] wp_regW opsW_nil opsW_cons opsK_eq regK_no regK_draw oW_n oW_h oW_r oW_pn convA appendA appRow newsA rowsSz rowsOf isIntD makeSliceA elemOf rowsBuilt eqA eq1
attribute [-simp] fCall
variable {kl kd : Nat} {d : Dk} {U S T : Nat → Prop} {sv : AV} {ks : List Nat} {rvs : Nat → AV} {H H' : Hp} {N N' K n m : Nat} {l : Lg} {name : Bs}

theorem c_commit (hK : big K) (hn : 5 ≤ n) (hI : d.Inv m) (hB : LB l) (h : LX kl kd l d U sv ks rvs H N) :
    Sp K n 48 [.ptr kl 0 0] H N fun r H' N' => r = .i .i64 (l.commit d).1 ∧ CallQ kl kd (l.commit d).2.2 (l.commit d).2.1 U H N H' N' := by
  refine sp_cps fun Q hQ => ?_
  obtain ⟨n, rfl⟩ : ∃ m, n = m + 1 := ⟨n - 1, by omega⟩
  refine sp_of rfl (run_wp Tryz.func48 rfl (by simp [Tryz.f48]) ?_)
  have ht := h.top
  have hsl := h.slen
  have hsm := h.smv
  have hklt := h.kl_lt
  refine seq_cut (P := fun x => x = (.normal, { env := [(0, .ptr kl 0 0)], loc := [], hp := H, nx := N + 1 })) (by simp) ?_
  rintro _ rfl
  rw [seqQ_normal]
  obtain ⟨P, hP⟩ : ∃ P : Ex × St → Prop, P = (fun x => ∃ H1 N1, Frm U H N H1 N1 ∧ LX kl kd l (syncLast l d).2 (grw U N N1) sv ks rvs H1 N1 ∧ (∃ m1, m1 ≤ m + 1 ∧ (syncLast l d).2.Inv m1) ∧
    (if (syncLast l d).1 ≠ 0 then x = (.ret, { env := [(2, .i .i64 (syncLast l d).1)], loc := [], hp := H1, nx := N1 }) else ∃ e, (e = [(3, .i .i64 (l.segs.length : Nat)), (12, .b false)] ∨ e = [(4, .i .i64 0), (32, .b false)]) ∧ x = (.normal, { env := (0, .ptr kl 0 0) :: e, loc := [], hp := H1, nx := N1 }))) := ⟨_, rfl⟩
  refine seq_cut P ?_ ?_
  · by_cases h0 : l.segs = []
    · have hl1 : ¬ 0 < l.segs.length := by rw [h0]; simp
      have hs0 : syncLast l d = (0, d) := by unfold syncLast; rw [h0]; rfl
      simp [ht, hsm, lenA_sl, hsl, hl1]
      rw [hP, hs0]
      exact ⟨H, N + 1 + 6 + 2, ⟨by omega, fun _ _ _ => rfl⟩, (h.low (fun _ _ => rfl) (by omega)).widen (fun _ => .inl) (grw_lt h.lt (by omega)), ⟨m, by omega, hI⟩, by rw [if_neg (by simp)]; exact ⟨_, .inl rfl, rfl⟩⟩
    · obtain ⟨q, hq⟩ : ∃ q, q = l.segs.length - 1 := ⟨_, rfl⟩
      have hpos : 0 < l.segs.length := List.length_pos_iff.2 h0
      obtain ⟨s, hs⟩ : ∃ s, l.segs[q]? = some s := ⟨_, List.getElem?_eq_getElem (by omega)⟩
      have hs0 : syncLast l d = d.sync (fileN l.name s.no) := by
        unfold syncLast
        rw [List.getLast?_eq_getElem?, ← hq, hs]
      have hsm2 := hB.seg s (List.mem_of_getElem? hs)
      obtain ⟨k, a, g, j0, all, p1, rfl, p2, p3, p4, p5, p6, p7, p8, p9⟩ := h.at hs
      have hlen := hB.segs
      have wq : IntKind.i64.wrap ((l.segs.length : Int) - 1) = (q : Nat) := by rw [wrap_i64 (by omega) (by omega)]; omega
      have cq : (q : Int) < l.segs.length := by omega
      have hkk := h.lt k p8
      have haa := h.lt a p5
      simp [ht, lenA_sl, hpos, wq, cq, p2, p3, p7]
      refine (c_file hK (by omega) (H := H) hsm2.1 hB.name ht).cW ?_
      rintro _ H2 n2 ⟨rfl, e1, e2⟩
      have L2 := h.low (H' := H2) (N' := n2) (fun j hj => e2 j (by omega)) (by omega)
      have y1 : lk H2 kl = lk H kl := e2 kl (by omega)
      have y2 : lk H2 k = lk H k := e2 k (by omega)
      simp
      refine (lx_sync hK (by omega) hI L2 (fileN l.name s.no)).cW ?_
      rintro _ H3 n3 ⟨rfl, L3, F3⟩
      have y3 : lk H3 kl = lk H2 kl := L3.top.trans L2.top.symm
      have y4 : lk H3 k = lk H2 k := (L3.sg p1 hs).trans (L2.sg p1 hs).symm
      have F3' : Frm U H N H3 n3 := ⟨by have := F3.le; omega, fun j hj hn => (F3.out j (by omega) hn).trans (e2 j (by omega))⟩
      have hF := F3'.le
      have I3 := hI.sync (fileN l.name s.no)
      have fin : ∀ M', n3 ≤ M' → Frm U H N H3 M' ∧ LX kl kd l (d.sync (fileN l.name s.no)).2 (grw U N M') (.rs a g j0 l.segs.length 1) ks rvs H3 M' ∧ ∃ m1, m1 ≤ m + 1 ∧ (d.sync (fileN l.name s.no)).2.Inv m1 := fun M' hM' =>
        ⟨⟨by omega, F3'.out⟩, (L3.low (fun _ _ => rfl) hM').widen (fun j hj => hj.imp id fun e => ⟨by omega, by omega⟩) (grw_lt h.lt (by omega)), m + 1, Nat.le_refl _, I3⟩
      simp
      refine ⟨⟨by kernel_rfl, by simp [dynOk, pairsOk, befOf, Region.binds, Eff.apart, Eff.clear, Eff.wkeys, Ref.key, AV.refs0, List.range, List.range.loop, sameAt, y1, y2, y3, y4]⟩, ?_⟩
      by_cases he : (d.sync (fileN l.name s.no)).1 = 0
      · simp [he]
        rw [hP, hs0]
        obtain ⟨x1, x2, x3⟩ := fin (n3 + 2) (by omega)
        exact ⟨_, _, x1, x2, x3, by rw [if_neg (by simp [he])]; exact ⟨_, .inr rfl, rfl⟩⟩
      · have he2 : ((d.sync (fileN l.name s.no)).1 != 0) = true := by simpa using he
        simp [he, he2]
        rw [hP, hs0]
        obtain ⟨x1, x2, x3⟩ := fin (n3 + 2 + 2) (by omega)
        exact ⟨_, _, x1, x2, x3, by rw [if_pos he]⟩
  · rw [hP]
    rintro x ⟨H1, N1, F1, L1, ⟨m1, hm1, I1⟩, hx⟩
    have hF1 := F1.le
    rcases hsl2 : syncLast l d with ⟨c0, d1⟩
    rw [hsl2] at L1 I1 hx
    simp only at L1 I1 hx
    by_cases hc0 : c0 = 0
    case neg =>
      have hbg : l.commit d = (c0, d1, l) := by
        unfold Lg.commit
        rw [hsl2]
        simp only
        rw [if_pos hc0]
      rw [if_pos hc0] at hx
      subst hx
      rw [hbg] at hQ
      simp
      exact hQ _ _ _ ⟨rfl, F1, _, _, _, L1⟩
    rw [if_neg (by simp [hc0])] at hx
    obtain ⟨e0, he0, rfl⟩ := hx
    have hcm : l.commit d = if d1.syncNames.1 ≠ 0 then (d1.syncNames.1, d1.syncNames.2, l) else (0, d1.syncNames.2, { l with fast := l.last }) := by
      unfold Lg.commit
      rw [hsl2]
      simp only
      rw [if_neg (by simp [hc0])]
    have t1 := L1.top
    have hk1 := L1.kl_lt
    rcases he0 with rfl | rfl
    all_goals
      simp [t1]
      refine (lx_syncNames (n := n) (by omega) I1 (L1.low (H' := H1) (N' := N1 + 6) (fun _ _ => rfl) (by omega))).cW ?_
      rintro _ H2 n2 ⟨rfl, L2, F2⟩
      have hF2 := F2.le
      have F2' : Frm U H N H2 n2 := F1.weak (fun _ h => h) ⟨by omega, fun j hj hn => F2.out j (by omega) hn⟩
      have gu : ∀ M', n2 ≤ M' → ∀ j, grw (grw U N N1) (N1 + 6) n2 j → grw U N M' j := fun M' hM' j hj => by
        rcases hj with (hj | hj) | hj
        · exact .inl hj
        · exact .inr ⟨by omega, by omega⟩
        · exact .inr ⟨by omega, by omega⟩
      have t2 := L2.top
      have hk2 := L2.kl_lt
      have so2 := L2.sokc
      by_cases he : d1.syncNames.1 = 0
      · rw [if_neg (by simp [he])] at hcm
        rw [hcm] at hQ
        simp [he, t2, lk_set, so2]
        refine hQ _ _ _ ⟨rfl, ⟨by omega, fun j hj hn => ?_⟩, _, _, _, (L2.setTop (l' := { l with fast := l.last }) rfl (by simp [lk_set]) (fun j hj hjk => by simp [lk_set, hjk]) (by omega)).widen (gu _ (by omega)) (grw_lt h.lt (by omega))⟩
        have : ¬ j = kl := fun e => hn (e ▸ h.klU)
        simp [lk_set, this]
        exact F2'.out j hj hn
      · rw [if_pos he] at hcm
        have he2 : (d1.syncNames.1 != 0) = true := by simpa using he
        rw [hcm] at hQ
        simp [he, he2]
        exact hQ _ _ _ ⟨rfl, ⟨by omega, F2'.out⟩, _, _, _, (L2.low (fun _ _ => rfl) (by omega)).widen (gu _ (by omega)) (grw_lt h.lt (by omega))⟩
theorem c_Commit (hK : big K) (hn : 6 ≤ n) (hI : d.Inv m) (hB : LB l) (h : LX kl kd l d U sv ks rvs H N) :
    Sp K n 20 [.ptr kl 0 0] H N fun r H' N' => r = .i .i64 (l.commit d).1 ∧ CallQ kl kd (l.commit d).2.2 (l.commit d).2.1 U H N H' N' := by
  refine sp_cps fun Q hQ => ?_
  obtain ⟨n, rfl⟩ : ∃ m, n = m + 1 := ⟨n - 1, by omega⟩
  refine sp_of rfl (run_wp Tryz.func20 rfl (by simp [Tryz.f20]) ?_)
  simp
  refine (c_commit hK (by omega) hI hB (h.low (H' := H) (N' := N + 1 + 3) (fun _ _ => rfl) (by omega))).cW ?_
  rintro _ H2 n2 ⟨rfl, C2⟩
  simp
  exact hQ _ _ _ ⟨rfl, C2.trans h.lt (by omega) (fun _ _ _ => rfl) (Nat.le_refl _)⟩

theorem c_first (hn : 1 ≤ n) (hB : LB l) (h : LX kl kd l d U sv ks rvs H N) : Sp K n 52 [.ptr kl 0 0] H N fun r H' N' => r = .i .u64 (l.first : Nat) ∧ H' = H ∧ N ≤ N' := by
  refine sp_cps fun Q hQ => ?_
  obtain ⟨n, rfl⟩ : ∃ m, n = m + 1 := ⟨n - 1, by omega⟩
  refine sp_of rfl (run_wp Tryz.func52 rfl (by simp [Tryz.f52]) ?_)
  have ht := h.top
  have hsl := h.slen
  have hsm := h.smv
  have hl := hB.last
  cases hs : l.segs with
  | nil =>
    have w1 : IntKind.u64.wrap ((l.last : Int) + 1) = ((l.first : Nat) : Int) := by unfold Lg.first; rw [hs, wrap_u64Z, W64]; simp only; omega
    have q0 : ((l.segs.length : Int) == 0) = true := by rw [hs]; rfl
    have q1 : l.segs.length = 0 := by rw [hs]; rfl
    simp [ht, lenA_sl, hsl, hsm, q0, q1, w1]
    exact hQ _ _ _ ⟨rfl, rfl, by omega⟩
  | cons s r =>
    have hs0 : l.segs[0]? = some s := by rw [hs]; rfl
    obtain ⟨k, a, g, j0, all, p1, rfl, p2, p3, p4, p5, p6, p7, p8, p9⟩ := h.at hs0
    have q0 : ((l.segs.length : Int) == 0) = false := by rw [beq_eq_false_iff_ne]; omega
    have q1 : ¬ l.segs.length = 0 := by omega
    have c0 : (0 : Int) < l.segs.length := by omega
    simp at p3
    have hf : l.first = s.no := by unfold Lg.first; rw [hs]
    rw [hf] at hQ
    simp [ht, lenA_sl, q0, q1, c0, p2, p3, p6, p7]
    exact hQ _ _ _ ⟨rfl, rfl, by omega⟩
theorem c_First (hn : 2 ≤ n) (hB : LB l) (h : LX kl kd l d U sv ks rvs H N) : Sp K n 25 [.ptr kl 0 0] H N fun r H' N' => r = .i .u64 (l.first : Nat) ∧ H' = H ∧ N ≤ N' := by
  refine sp_cps fun Q hQ => ?_
  obtain ⟨n, rfl⟩ : ∃ m, n = m + 1 := ⟨n - 1, by omega⟩
  refine sp_of rfl (run_wp Tryz.func25 rfl (by simp [Tryz.f25]) ?_)
  simp
  refine (c_first (by omega) hB (h.low (H' := H) (N' := N + 1 + 3) (fun _ _ => rfl) (by omega))).cW ?_
  rintro _ H2 n2 ⟨rfl, rfl, e⟩
  simp
  exact hQ _ _ _ ⟨rfl, rfl, by omega⟩
theorem c_Last (hn : 1 ≤ n) (h : LX kl kd l d U sv ks rvs H N) : Sp K n 17 [.ptr kl 0 0] H N fun r H' N' => r = .i .u64 (l.last : Nat) ∧ H' = H ∧ N ≤ N' := by
  refine sp_cps fun Q hQ => ?_
  obtain ⟨n, rfl⟩ : ∃ m, n = m + 1 := ⟨n - 1, by omega⟩
  refine sp_of rfl (run_wp Tryz.func17 rfl (by simp [Tryz.f17]) ?_)
  simp [h.top]
  exact hQ _ _ _ ⟨rfl, rfl, by omega⟩
theorem c_LFast (hn : 1 ≤ n) (h : LX kl kd l d U sv ks rvs H N) : Sp K n 23 [.ptr kl 0 0] H N fun r H' N' => r = .i .u64 (l.fast : Nat) ∧ H' = H ∧ N ≤ N' := by
  refine sp_cps fun Q hQ => ?_
  obtain ⟨n, rfl⟩ : ∃ m, n = m + 1 := ⟨n - 1, by omega⟩
  refine sp_of rfl (run_wp Tryz.func23 rfl (by simp [Tryz.f23]) ?_)
  simp [h.top]
  exact hQ _ _ _ ⟨rfl, rfl, by omega⟩

end Ab
end Go.Proofs.YtmbbnoipoifhhaaGreatDoor

/-
  DERIVED. Old files of a log let go.
  Conditions: enough rounds, enough depth; bounded lengths.
-/
namespace Go.Proofs.YtmbbnoipoifhhaaGreatDoor
namespace Ab
set_option maxRecDepth 100000
set_option maxHeartbeats 8000000
set_option linter.all false
attribute [local simp] wp_regW opsW_nil opsW_cons opsK_eq regK_no regK_draw oW_n oW_h oW_r oW_pn convA appendA appRow newsA rowsSz rowsOf isIntD makeSliceA elemOf rowsBuilt eqA eq1
attribute [-simp] fCall
variable {kl kd : Nat} {d : Dk} {U S T : Nat → Prop} {sv : AV} {ks : List Nat} {rvs : Nat → AV} {H H' : Hp} {N N' K n m : Nat} {l : Lg} {name : Bs}

end Ab
end Go.Proofs.YtmbbnoipoifhhaaGreatDoor

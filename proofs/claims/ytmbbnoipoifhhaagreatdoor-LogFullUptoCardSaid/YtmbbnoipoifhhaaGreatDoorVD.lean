/-
  DERIVED. A log committed; what it tells of itself.
  Conditions: enough rounds, enough depth; bounded lengths.
-/
import Derived.Test.YtmbbnoipoifhhaaGreatDoorVC
set_option linter.all false
set_option maxHeartbeats 4000000
namespace Go.Proofs.YtmbbnoipoifhhaaGreatDoor
namespace Ab
set_option maxRecDepth 100000
set_option maxHeartbeats 8000000
set_option linter.all false
attribute [local simp] wp_regW opsW_nil opsW_cons opsK_eq regK_no regK_draw oW_n oW_h oW_r oW_pn convA appendA appRow newsA rowsSz rowsOf isIntD makeSliceA elemOf rowsBuilt eqA eq1
attribute [-simp] fCall
variable {kl kd : Nat} {d : Dk} {U S T : Nat → Prop} {sv : AV} {ks : List Nat} {rvs : Nat → AV} {H H' : Hp} {N N' K n m : Nat} {l : Lg} {name : Bs}

theorem c_commit (hK : big K) (hn : 5 ≤ n) (hI : d.Inv m) (hB : LB l) (h : LX kl kd l d U sv ks rvs H N) :
    Sp K n 48 [.ptr kl 0 0] H N fun r H' N' => r = .i .i64 (l.commit d).1 ∧ CallQ kl kd (l.commit d).2.2 (l.commit d).2.1 U H N H' N' := by
  refine sp_cps fun Q hQ => ?_
  obtain ⟨n, rfl⟩ : ∃ m, n = m + 1 := ⟨n - 1, by omega⟩
  refine sp_of rfl (run_wp Tryz.func48 rfl (by simp [Tryz.f48]) ?_)
  have ht := h.top
  have hsl := h.slen
  have hsm := h.smv
  have hklt := h.kl_lt
  refine seq_cut (P := fun x => x = (.normal, { env := [(0, .ptr kl 0 0)], loc := [], hp := H, nx := N + 1 })) (by simp) ?_
  rintro _ rfl
  rw [seqQ_normal]
  obtain ⟨P, hP⟩ : ∃ P : Ex × St → Prop, P = (fun x => ∃ H1 N1, Frm U H N H1 N1 ∧ LX kl kd l (syncLast l d).2 (grw U N N1) sv ks rvs H1 N1 ∧ (∃ m1, m1 ≤ m + 1 ∧ (syncLast l d).2.Inv m1) ∧
    (if (syncLast l d).1 ≠ 0 then x = (.ret, { env := [(2, .i .i64 (syncLast l d).1)], loc := [], hp := H1, nx := N1 }) else ∃ e, (e = [(3, .i .i64 (l.segs.length : Nat)), (12, .b false)] ∨ e = [(4, .i .i64 0), (32, .b false)]) ∧ x = (.normal, { env := (0, .ptr kl 0 0) :: e, loc := [], hp := H1, nx := N1 }))) := ⟨_, rfl⟩
  refine seq_cut P ?_ ?_
  · by_cases h0 : l.segs = []
    · have hl1 : ¬ 0 < l.segs.length := by rw [h0]; simp
      have hs0 : syncLast l d = (0, d) := by unfold syncLast; rw [h0]; rfl
      simp [ht, hsm, lenA_sl, hsl, hl1]
      rw [hP, hs0]
      exact ⟨H, N + 1 + 6 + 2, ⟨by omega, fun _ _ _ => rfl⟩, (h.low (fun _ _ => rfl) (by omega)).widen (fun _ => .inl) (grw_lt h.lt (by omega)), ⟨m, by omega, hI⟩, by rw [if_neg (by simp)]; exact ⟨_, .inl rfl, rfl⟩⟩
    · obtain ⟨q, hq⟩ : ∃ q, q = l.segs.length - 1 := ⟨_, rfl⟩
      have hpos : 0 < l.segs.length := List.length_pos_iff.2 h0
      obtain ⟨s, hs⟩ : ∃ s, l.segs[q]? = some s := ⟨_, List.getElem?_eq_getElem (by omega)⟩
      have hs0 : syncLast l d = d.sync (fileN l.name s.no) := by
        unfold syncLast
        rw [List.getLast?_eq_getElem?, ← hq, hs]
      have hsm2 := hB.seg s (List.mem_of_getElem? hs)
      obtain ⟨k, a, g, j0, all, p1, rfl, p2, p3, p4, p5, p6, p7, p8, p9⟩ := h.at hs
      have hlen := hB.segs
      have wq : IntKind.i64.wrap ((l.segs.length : Int) - 1) = (q : Nat) := by rw [wrap_i64 (by omega) (by omega)]; omega
      have cq : (q : Int) < l.segs.length := by omega
      have hkk := h.lt k p8
      have haa := h.lt a p5
      simp [ht, lenA_sl, hpos, wq, cq, p2, p3, p7]
      refine (c_file hK (by omega) (H := H) hsm2.1 hB.name ht).cW ?_
      rintro _ H2 n2 ⟨rfl, e1, e2⟩
      have L2 := h.low (H' := H2) (N' := n2) (fun j hj => e2 j (by omega)) (by omega)
      have y1 : lk H2 kl = lk H kl := e2 kl (by omega)
      have y2 : lk H2 k = lk H k := e2 k (by omega)
      simp
      refine (lx_sync hK (by omega) hI L2 (fileN l.name s.no)).cW ?_
      rintro _ H3 n3 ⟨rfl, L3, F3⟩
      have y3 : lk H3 kl = lk H2 kl := L3.top.trans L2.top.symm
      have y4 : lk H3 k = lk H2 k := (L3.sg p1 hs).trans (L2.sg p1 hs).symm
      have F3' : Frm U H N H3 n3 := ⟨by have := F3.le; omega, fun j hj hn => (F3.out j (by omega) hn).trans (e2 j (by omega))⟩
      have hF := F3'.le
      have I3 := hI.sync (fileN l.name s.no)
      have fin : ∀ M', n3 ≤ M' → Frm U H N H3 M' ∧ LX kl kd l (d.sync (fileN l.name s.no)).2 (grw U N M') (.rs a g j0 l.segs.length 1) ks rvs H3 M' ∧ ∃ m1, m1 ≤ m + 1 ∧ (d.sync (fileN l.name s.no)).2.Inv m1 := fun M' hM' =>
        ⟨⟨by omega, F3'.out⟩, (L3.low (fun _ _ => rfl) hM').widen (fun j hj => hj.imp id fun e => ⟨by omega, by omega⟩) (grw_lt h.lt (by omega)), m + 1, Nat.le_refl _, I3⟩
      simp
      refine ⟨⟨by kernel_rfl, by simp [dynOk, pairsOk, befOf, Region.binds, Eff.apart, Eff.clear, Eff.wkeys, Ref.key, AV.refs0, List.range, List.range.loop, sameAt, y1, y2, y3, y4]⟩, ?_⟩
      by_cases he : (d.sync (fileN l.name s.no)).1 = 0
      · simp [he]
        rw [hP, hs0]
        obtain ⟨x1, x2, x3⟩ := fin (n3 + 2) (by omega)
        exact ⟨_, _, x1, x2, x3, by rw [if_neg (by simp [he])]; exact ⟨_, .inr rfl, rfl⟩⟩
      · have he2 : ((d.sync (fileN l.name s.no)).1 != 0) = true := by simpa using he
        simp [he, he2]
        rw [hP, hs0]
        obtain ⟨x1, x2, x3⟩ := fin (n3 + 2 + 2) (by omega)
        exact ⟨_, _, x1, x2, x3, by rw [if_pos he]⟩
  · rw [hP]
    rintro x ⟨H1, N1, F1, L1, ⟨m1, hm1, I1⟩, hx⟩
    have hF1 := F1.le
    rcases hsl2 : syncLast l d with ⟨c0, d1⟩
    rw [hsl2] at L1 I1 hx
    simp only at L1 I1 hx
    by_cases hc0 : c0 = 0
    case neg =>
      have hbg : l.commit d = (c0, d1, l) := by
        unfold Lg.commit
        rw [hsl2]
        simp only
        rw [if_pos hc0]
      rw [if_pos hc0] at hx
      subst hx
      rw [hbg] at hQ
      simp
      exact hQ _ _ _ ⟨rfl, F1, _, _, _, L1⟩
    rw [if_neg (by simp [hc0])] at hx
    obtain ⟨e0, he0, rfl⟩ := hx
    have hcm : l.commit d = if d1.syncNames.1 ≠ 0 then (d1.syncNames.1, d1.syncNames.2, l) else (0, d1.syncNames.2, { l with fast := l.last }) := by
      unfold Lg.commit
      rw [hsl2]
      simp only
      rw [if_neg (by simp [hc0])]
    have t1 := L1.top
    have hk1 := L1.kl_lt
    rcases he0 with rfl | rfl
    all_goals
      simp [t1]
      refine (lx_syncNames (n := n) (by omega) I1 (L1.low (H' := H1) (N' := N1 + 6) (fun _ _ => rfl) (by omega))).cW ?_
      rintro _ H2 n2 ⟨rfl, L2, F2⟩
      have hF2 := F2.le
      have F2' : Frm U H N H2 n2 := F1.weak (fun _ h => h) ⟨by omega, fun j hj hn => F2.out j (by omega) hn⟩
      have gu : ∀ M', n2 ≤ M' → ∀ j, grw (grw U N N1) (N1 + 6) n2 j → grw U N M' j := fun M' hM' j hj => by
        rcases hj with (hj | hj) | hj
        · exact .inl hj
        · exact .inr ⟨by omega, by omega⟩
        · exact .inr ⟨by omega, by omega⟩
      have t2 := L2.top
      have hk2 := L2.kl_lt
      have so2 := L2.sokc
      by_cases he : d1.syncNames.1 = 0
      · rw [if_neg (by simp [he])] at hcm
        rw [hcm] at hQ
        simp [he, t2, lk_set, so2]
        refine hQ _ _ _ ⟨rfl, ⟨by omega, fun j hj hn => ?_⟩, _, _, _, (L2.setTop (l' := { l with fast := l.last }) rfl (by simp [lk_set]) (fun j hj hjk => by simp [lk_set, hjk]) (by omega)).widen (gu _ (by omega)) (grw_lt h.lt (by omega))⟩
        have : ¬ j = kl := fun e => hn (e ▸ h.klU)
        simp [lk_set, this]
        exact F2'.out j hj hn
      · rw [if_pos he] at hcm
        have he2 : (d1.syncNames.1 != 0) = true := by simpa using he
        rw [hcm] at hQ
        simp [he, he2]
        exact hQ _ _ _ ⟨rfl, ⟨by omega, F2'.out⟩, _, _, _, (L2.low (fun _ _ => rfl) (by omega)).widen (gu _ (by omega)) (grw_lt h.lt (by omega))⟩
theorem c_Commit (hK : big K) (hn : 6 ≤ n) (hI : d.Inv m) (hB : LB l) (h : LX kl kd l d U sv ks rvs H N) :
    Sp K n 20 [.ptr kl 0 0] H N fun r H' N' => r = .i .i64 (l.commit d).1 ∧ CallQ kl kd (l.commit d).2.2 (l.commit d).2.1 U H N H' N' := by
  refine sp_cps fun Q hQ => ?_
  obtain ⟨n, rfl⟩ : ∃ m, n = m + 1 := ⟨n - 1, by omega⟩
  refine sp_of rfl (run_wp Tryz.func20 rfl (by simp [Tryz.f20]) ?_)
  simp
  refine (c_commit hK (by omega) hI hB (h.low (H' := H) (N' := N + 1 + 3) (fun _ _ => rfl) (by omega))).cW ?_
  rintro _ H2 n2 ⟨rfl, C2⟩
  simp
  exact hQ _ _ _ ⟨rfl, C2.trans h.lt (by omega) (fun _ _ _ => rfl) (Nat.le_refl _)⟩

theorem c_first (hn : 1 ≤ n) (hB : LB l) (h : LX kl kd l d U sv ks rvs H N) : Sp K n 52 [.ptr kl 0 0] H N fun r H' N' => r = .i .u64 (l.first : Nat) ∧ H' = H ∧ N ≤ N' := by
  refine sp_cps fun Q hQ => ?_
  obtain ⟨n, rfl⟩ : ∃ m, n = m + 1 := ⟨n - 1, by omega⟩
  refine sp_of rfl (run_wp Tryz.func52 rfl (by simp [Tryz.f52]) ?_)
  have ht := h.top
  have hsl := h.slen
  have hsm := h.smv
  have hl := hB.last
  cases hs : l.segs with
  | nil =>
    have w1 : IntKind.u64.wrap ((l.last : Int) + 1) = ((l.first : Nat) : Int) := by unfold Lg.first; rw [hs, wrap_u64Z, W64]; simp only; omega
    have q0 : ((l.segs.length : Int) == 0) = true := by rw [hs]; rfl
    have q1 : l.segs.length = 0 := by rw [hs]; rfl
    simp [ht, lenA_sl, hsl, hsm, q0, q1, w1]
    exact hQ _ _ _ ⟨rfl, rfl, by omega⟩
  | cons s r =>
    have hs0 : l.segs[0]? = some s := by rw [hs]; rfl
    obtain ⟨k, a, g, j0, all, p1, rfl, p2, p3, p4, p5, p6, p7, p8, p9⟩ := h.at hs0
    have q0 : ((l.segs.length : Int) == 0) = false := by rw [beq_eq_false_iff_ne]; omega
    have q1 : ¬ l.segs.length = 0 := by omega
    have c0 : (0 : Int) < l.segs.length := by omega
    simp at p3
    have hf : l.first = s.no := by unfold Lg.first; rw [hs]
    rw [hf] at hQ
    simp [ht, lenA_sl, q0, q1, c0, p2, p3, p6, p7]
    exact hQ _ _ _ ⟨rfl, rfl, by omega⟩
theorem c_First (hn : 2 ≤ n) (hB : LB l) (h : LX kl kd l d U sv ks rvs H N) : Sp K n 25 [.ptr kl 0 0] H N fun r H' N' => r = .i .u64 (l.first : Nat) ∧ H' = H ∧ N ≤ N' := by
  refine sp_cps fun Q hQ => ?_
  obtain ⟨n, rfl⟩ : ∃ m, n = m + 1 := ⟨n - 1, by omega⟩
  refine sp_of rfl (run_wp Tryz.func25 rfl (by simp [Tryz.f25]) ?_)
  simp
  refine (c_first (by omega) hB (h.low (H' := H) (N' := N + 1 + 3) (fun _ _ => rfl) (by omega))).cW ?_
  rintro _ H2 n2 ⟨rfl, rfl, e⟩
  simp
  exact hQ _ _ _ ⟨rfl, rfl, by omega⟩
theorem c_Last (hn : 1 ≤ n) (h : LX kl kd l d U sv ks rvs H N) : Sp K n 17 [.ptr kl 0 0] H N fun r H' N' => r = .i .u64 (l.last : Nat) ∧ H' = H ∧ N ≤ N' := by
  refine sp_cps fun Q hQ => ?_
  obtain ⟨n, rfl⟩ : ∃ m, n = m + 1 := ⟨n - 1, by omega⟩
  refine sp_of rfl (run_wp Tryz.func17 rfl (by simp [Tryz.f17]) ?_)
  simp [h.top]
  exact hQ _ _ _ ⟨rfl, rfl, by omega⟩
theorem c_LFast (hn : 1 ≤ n) (h : LX kl kd l d U sv ks rvs H N) : Sp K n 23 [.ptr kl 0 0] H N fun r H' N' => r = .i .u64 (l.fast : Nat) ∧ H' = H ∧ N ≤ N' := by
  refine sp_cps fun Q hQ => ?_
  obtain ⟨n, rfl⟩ : ∃ m, n = m + 1 := ⟨n - 1, by omega⟩
  refine sp_of rfl (run_wp Tryz.func23 rfl (by simp [Tryz.f23]) ?_)
  simp [h.top]
  exact hQ _ _ _ ⟨rfl, rfl, by omega⟩

end Ab
end Go.Proofs.YtmbbnoipoifhhaaGreatDoor

/-
  DERIVED. Old files of a log let go.
  Conditions: enough rounds, enough depth; bounded lengths.
-/
namespace Go.Proofs.YtmbbnoipoifhhaaGreatDoor
namespace Ab
set_option maxRecDepth 100000
set_option maxHeartbeats 8000000
set_option linter.all false
attribute [local simp] wp_regW opsW_nil opsW_cons opsK_eq regK_no regK_draw oW_n oW_h oW_r oW_pn convA appendA appRow newsA rowsSz rowsOf isIntD makeSliceA elemOf rowsBuilt eqA eq1
attribute [-simp] fCall
variable {kl kd : Nat} {d : Dk} {U S T : Nat → Prop} {sv : AV} {ks : List Nat} {rvs : Nat → AV} {H H' : Hp} {N N' K n m : Nat} {l : Lg} {name : Bs}

theorem commit_inv {m : Nat} (hI : d.Inv m) (l : Lg) : (l.commit d).2.1.Inv (m + 2) ∧ (l.commit d).2.2.segs = l.segs ∧ (l.commit d).2.2.name = l.name ∧ ((l.commit d).2.2.last = l.last) := by
  have h1 : (syncLast l d).2.Inv (m + 1) := by
    unfold syncLast
    split
    · exact hI.sync _
    · exact hI.mono (by omega)
  unfold Lg.commit
  split
  · exact ⟨h1.mono (by omega), rfl, rfl, rfl⟩
  · split
    · exact ⟨h1.syncNames, rfl, rfl, rfl⟩
    · exact ⟨h1.syncNames, rfl, rfl, rfl⟩

def dropX (upto : Nat) : List Sg → Bool
  | s :: _ :: _ => decide (s.till ≤ upto)
  | _ => false
theorem dropX_long {upto : Nat} {cur : List Sg} {s : Sg} (h : 1 < cur.length) (hs : cur[0]? = some s) : dropX upto cur = decide (s.till ≤ upto) := by
  cases cur with
  | nil => simp at h
  | cons a r =>
    cases r with
    | nil => simp at h
    | cons b r =>
      simp at hs
      subst hs
      rfl
theorem dropX_short {upto : Nat} {cur : List Sg} (h : ¬ 1 < cur.length) : dropX upto cur = false := by
  cases cur with
  | nil => rfl
  | cons a r =>
    cases r with
    | nil => rfl
    | cons b r => simp at h
theorem dropL_no {name : Bs} {upto : Nat} {cur : List Sg} {d : Dk} (h : dropX upto cur = false) : dropL name upto cur d = (d.syncNames.1, d.syncNames.2, cur) := by
  cases cur with
  | nil => rfl
  | cons a r =>
    cases r with
    | nil => rfl
    | cons b r =>
      rw [dropL, if_neg (by simpa [dropX] using h)]
theorem dropL_yes {name : Bs} {upto : Nat} {cur : List Sg} {d : Dk} (h : dropX upto cur = true) : 1 < cur.length ∧ ∃ s, cur[0]? = some s ∧ dropL name upto cur d = if (d.remove (fileN name s.no)).1 ≠ 0 then ((d.remove (fileN name s.no)).1, (d.remove (fileN name s.no)).2, cur) else dropL name upto cur.tail (d.remove (fileN name s.no)).2 := by
  cases cur with
  | nil => cases h
  | cons a r =>
    cases r with
    | nil => cases h
    | cons b r =>
      refine ⟨by simp, a, rfl, ?_⟩
      rw [dropL, if_pos (by simpa [dropX] using h)]
      rfl
/-- What is dropped, step by step. -/
theorem c_drop (hK : big K) (hn : 6 ≤ n) (hI : d.Inv m) (hm : m ≤ 2 ^ 19) (hB : LB l) (h : LX kl kd l d U sv ks rvs H N) {upto : Nat} (hup : upto < W64) :
    Sp K n 24 [.ptr kl 0 0, .i .u64 (upto : Nat)] H N fun r H' N' => r = .i .i64 (l.drop d upto).1 ∧ CallQ kl kd (l.drop d upto).2.2 (l.drop d upto).2.1 U H N H' N' := by
  refine sp_cps fun Q hQ => ?_
  obtain ⟨n, rfl⟩ : ∃ m, n = m + 1 := ⟨n - 1, by omega⟩
  refine sp_of rfl (run_wp Tryz.func24 rfl (by simp [Tryz.f24]) ?_)
  obtain ⟨ci, cs, cn, cl⟩ := commit_inv hI l
  simp
  refine (c_commit (n := n) hK (by omega) hI hB (h.low (H' := H) (N' := N + 1 + 3) (fun _ _ => rfl) (by omega))).cW ?_
  rintro _ H1 n1 ⟨rfl, C1⟩
  have C1' : CallQ kl kd (l.commit d).2.2 (l.commit d).2.1 U H N H1 n1 := C1.trans h.lt (by omega) (fun _ _ _ => rfl) (Nat.le_refl _)
  have hdr : l.drop d upto = if (l.commit d).1 ≠ 0 then l.commit d else ((dropL l.name upto (l.commit d).2.2.segs (l.commit d).2.1).1, (dropL l.name upto (l.commit d).2.2.segs (l.commit d).2.1).2.1, { (l.commit d).2.2 with segs := (dropL l.name upto (l.commit d).2.2.segs (l.commit d).2.1).2.2 }) := rfl
  rw [hdr] at hQ
  rcases hcm : l.commit d with ⟨e, d1, l1⟩
  rw [hcm] at hQ C1' ci cs cn cl
  simp only at hQ C1' ci cs cn cl ⊢
  by_cases he : e = 0
  case neg =>
    rw [if_pos he] at hQ
    have he2 : (e != 0) = true := by simpa using he
    simp [he, he2]
    exact hQ _ _ _ ⟨rfl, C1'.trans (n2 := N) (H' := H) (N := N) (U := U) h.lt (Nat.le_refl _) (fun _ _ _ => rfl) (by omega)⟩
  subst he
  rw [if_neg (by simp)] at hQ
  obtain ⟨F1, sv1, ks1, rvs1, L1⟩ := C1'
  have hF1 := F1.le
  have hname : l1.name = l.name := cn
  rw [cs, ← hname] at hQ
  have hlen := hB.segs
  simp
  refine loop_wp (ι := List Sg × Dk × AV × List Nat × Hp × Nat × List (Nat × AV)) (fun i => { env := (0, .ptr kl 0 0) :: (1, .i .u64 (upto : Nat)) :: i.2.2.2.2.2.2, loc := [], hp := i.2.2.2.2.1, nx := i.2.2.2.2.2.1 }) (fun i => i.1.length)
    (fun i => i.1.length ≤ l.segs.length ∧ (∀ s ∈ i.1, s ∈ l.segs) ∧ LX kl kd { l1 with segs := i.1 } i.2.1 (grw U N i.2.2.2.2.2.1) i.2.2.1 i.2.2.2.1 rvs1 i.2.2.2.2.1 i.2.2.2.2.2.1 ∧ Frm U H N i.2.2.2.2.1 i.2.2.2.2.2.1 ∧ i.2.1.Inv (m + 2 + (l.segs.length - i.1.length)) ∧ dropL l1.name upto l.segs d1 = dropL l1.name upto i.1 i.2.1 ∧ (i.2.2.2.2.2.2 = [(5, .i .i64 0), (10, .b false)] ∨ i.2.2.2.2.2.2 = []))
    (l.segs, d1, sv1, ks1, H1, n1 + 2, [(5, .i .i64 0), (10, .b false)]) rfl ⟨Nat.le_refl _, fun _ h => h, ?_, ⟨by simp only; omega, F1.out⟩, by simpa using ci, rfl, .inl rfl⟩ (by simp; unfold big at hK; omega) ?_
  · have e : { l1 with segs := l.segs } = l1 := by rw [← cs]
    show LX kl kd { l1 with segs := l.segs } d1 (grw U N (n1 + 2)) sv1 ks1 rvs1 H1 (n1 + 2)
    rw [e]
    exact (L1.low (fun _ _ => rfl) (by omega)).widen (fun j hj => hj.imp id fun e => ⟨by omega, by omega⟩) (grw_lt h.lt (by omega))
  rintro Next ⟨cur, d2, sv2, ks2, H2, M, ex⟩ ⟨hc1, hc2, L2, F2, I2, hd2, hex⟩ hnext
  simp only at hc1 hc2 L2 F2 I2 hd2 hex hnext ⊢
  have t2 := L2.top
  have sl2 := L2.slen
  have sm2 := L2.smv
  simp only at t2 sl2
  have hM := F2.le
  have hk2 := L2.kl_lt
  obtain ⟨X, hX⟩ : ∃ X : Bool, X = dropX upto cur := ⟨_, rfl⟩
  obtain ⟨P, hP⟩ : ∃ P : Ex × St → Prop, P = (fun x => ∃ M', M ≤ M' ∧ x = ((if X then Ex.normal else Ex.exit 0), { env := [(0, .ptr kl 0 0), (1, .i .u64 (upto : Nat)), (28, .b X)], loc := [], hp := H2, nx := M' })) := ⟨_, rfl⟩
  refine seq_cut P ?_ ?_
  · by_cases h1 : 1 < cur.length
    · have hs0 : cur[0]? = some (cur[0]'(by omega)) := List.getElem?_eq_getElem _
      obtain ⟨s, hs⟩ : ∃ s, s = cur[0]'(by omega) := ⟨_, rfl⟩
      rw [← hs] at hs0
      have hsm2 := hB.seg s (hc2 s (List.mem_of_getElem? hs0))
      obtain ⟨k, a, g, j0, all, p1, rfl, p2, p3, p4, p5, p6, p7, p8, p9⟩ := L2.at (s := s) (i := 0) hs0
      simp only at p4 p6
      simp at p3
      obtain ⟨r1, r2, r3⟩ := p9.sl
      have hXs : X = decide (s.till ≤ upto) := hX.trans (dropX_long h1 hs0)
      have c1 : (1 : Int) < cur.length := by omega
      have c0 : (0 : Int) < cur.length := by omega
      rcases hex with rfl | rfl
      all_goals
        simp [t2, lenA_sl, h1, c1, c0, p6, p2, p3]
        refine (c_end (n := n) (s := s) (by omega) p7 r1 r2 hsm2.1 (by omega)).cW ?_
        rintro _ _ n5 ⟨rfl, rfl, e10⟩
        cases X with
        | true =>
          have hq : s.till ≤ upto := by simpa using hXs.symm
          simp [hq]
          rw [hP]
          exact ⟨_, (by omega : M ≤ n5), rfl⟩
        | false =>
          have hq : ¬ s.till ≤ upto := by simpa using hXs.symm
          simp [hq]
          rw [hP]
          exact ⟨_, (by omega : M ≤ n5), rfl⟩
    · have hXs : X = false := hX.trans (dropX_short h1)
      subst hXs
      have hdc : decide ((1 : Int) < (cur.length : Nat)) = false := by simp; omega
      rcases hex with rfl | rfl
      all_goals
        simp [t2, lenA_sl, sl2, sm2, hdc]
        rw [hP]
        refine ⟨_, ?_, rfl⟩
        omega
  rw [hP]
  rintro x ⟨M1, hM1, rfl⟩
  cases X with
  | false =>
    have hd3 : dropL l1.name upto cur d2 = (d2.syncNames.1, d2.syncNames.2, cur) := dropL_no hX.symm
    rw [hd2, hd3] at hQ
    simp [t2]
    refine (lx_syncNames (n := n) (by omega) I2 (L2.low (H' := H2) (N' := M1 + 6) (fun _ _ => rfl) (by omega))).cW ?_
    rintro _ H3 n3 ⟨rfl, L3, F3⟩
    have hF3 := F3.le
    simp
    have F3' : Frm U H N H3 n3 := F2.weak (fun _ h => h) ⟨by omega, fun j hj hn => F3.out j (by omega) hn⟩
    refine hQ _ _ _ ⟨rfl, ⟨by omega, F3'.out⟩, _, _, _, (L3.low (fun _ _ => rfl) (by omega)).widen (fun j hj => ?_) (grw_lt h.lt (by omega))⟩
    rcases hj with (hj | hj) | hj
    · exact .inl hj
    · exact .inr ⟨by omega, by omega⟩
    · exact .inr ⟨by omega, by omega⟩
  | true =>
    obtain ⟨h1, s, hs0, hd3⟩ := dropL_yes (name := l1.name) (d := d2) hX.symm
    have hsm2 := hB.seg s (hc2 s (List.mem_of_getElem? hs0))
    obtain ⟨k, a, g, j0, all, p1, rfl, p2, p3, p4, p5, p6, p7, p8, p9⟩ := L2.at (s := s) (i := 0) hs0
    simp only at p4 p6
    simp at p3
    have hkk := L2.lt k p8
    have c0 : (0 : Int) < cur.length := by omega
    have hb2 : l1.name.length ≤ 40 := by rw [hname]; exact hB.name
    simp [t2, p6, c0, p2, p3, p7]
    refine (c_file hK (by omega) (H := H2) hsm2.1 hb2 t2).cW ?_
    rintro _ H3 n3 ⟨rfl, e1, e2⟩
    have L3 := L2.low (H' := H3) (N' := n3) (fun j hj => e2 j (by omega)) (by omega)
    have y1 : lk H3 kl = lk H2 kl := e2 kl (by omega)
    have y2 : lk H3 k = lk H2 k := e2 k (by omega)
    simp
    refine (lx_remove hK (by omega) I2 (by omega) L3 (fileN l1.name s.no)).cW ?_
    rintro _ H4 n4 ⟨rfl, L4, F4⟩
    have hF4 := F4.le
    have y3 : lk H4 kl = lk H3 kl := L4.top.trans L3.top.symm
    have F4' : Frm U H N H4 n4 := F2.weak (fun _ h => h) ⟨by omega, fun j hj hn => (F4.out j (by omega) hn).trans (e2 j (by omega))⟩
    have gu : ∀ M', n4 ≤ M' → ∀ j, grw (grw U N M) n3 n4 j → grw U N M' j := fun M' hM' j hj => by
      rcases hj with (hj | hj) | hj
      · exact .inl hj
      · exact .inr ⟨by omega, by omega⟩
      · exact .inr ⟨by omega, by omega⟩
    simp
    refine ⟨⟨by kernel_rfl, by simp [dynOk, pairsOk, befOf, Region.binds, Eff.apart, Eff.clear, Eff.wkeys, Ref.key, AV.refs0, List.range, List.range.loop, sameAt, y1, y2, y3]⟩, ?_⟩
    by_cases he : (d2.remove (fileN l1.name s.no)).1 = 0
    · rw [if_neg (by simp [he])] at hd3
      obtain ⟨all4, f2, f3⟩ : ∃ all4, lk H4 a = some (g, .arr 1 all4) ∧ j0 + cur.length ≤ all4.length := by
        rcases L4.form with ⟨_, z, e⟩ | ⟨a', g', i0', all', e, f2, f3, _⟩
        · cases e
        · injection e with e1 e2 e3
          subst e1 e2 e3
          exact ⟨_, f2, f3⟩
      have t4 := L4.top
      simp only at t4
      have hk4 := L4.kl_lt
      have c1 : (1 : Nat) ≤ cur.length := by omega
      have I4 := I2.remove (fileN l1.name s.no)
      simp [he, t4, f2, f3, c1, lk_set]
      have hks := L4.len
      simp only at hks
      refine hnext (cur.tail, (d2.remove (fileN l1.name s.no)).2, .rs a g (j0 + 1) (cur.length - 1) 1, (ks2.take cur.length).drop 1, _, n4 + 2 + 9, []) (by simp only [List.length_tail]; omega) ⟨by simp only [List.length_tail]; omega, fun s' hs' => hc2 s' (List.mem_of_mem_tail hs'), (L4.cutTop (l' := { l1 with segs := cur.tail }) (lo := 1) (hi := cur.length) (N' := n4 + 2 + 9) rfl (by omega) (Nat.le_refl _) (by simp) (by simp [lk_set]) (fun j hj hjk => by simp [lk_set, hjk]) (by omega)).widen (gu _ (by simp only; omega)) (grw_lt h.lt (by simp only; omega)), ⟨by simp only; omega, fun j hj hn => ?_⟩, ?_, hd2.trans hd3, .inr rfl⟩
      · have : ¬ j = kl := fun e => hn (e ▸ h.klU)
        simp [lk_set, this]
        exact F4'.out j hj hn
      · show Dk.Inv _ (m + 2 + (l.segs.length - cur.tail.length))
        rw [List.length_tail, show m + 2 + (l.segs.length - (cur.length - 1)) = m + 2 + (l.segs.length - cur.length) + 1 by omega]
        exact I4
    · rw [if_pos he] at hd3
      rw [hd2, hd3] at hQ
      have he2 : ((d2.remove (fileN l1.name s.no)).1 != 0) = true := by simpa using he
      simp [he, he2]
      refine hQ _ _ _ ⟨rfl, ⟨by omega, F4'.out⟩, _, _, _, (L4.low (fun _ _ => rfl) (by omega)).widen (gu _ ?_) (grw_lt h.lt (by omega))⟩
      omega

end Ab
end Go.Proofs.YtmbbnoipoifhhaaGreatDoor

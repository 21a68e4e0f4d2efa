/-
  DERIVED. A file begun with a record.
  Conditions: enough rounds, enough depth; bounded lengths.
-/
import Derived.Test.YtmbbnoipoifhhaaGreatDoorV11
set_option linter.all false
set_option maxHeartbeats 4000000
namespace Go.Proofs.YtmbbnoipoifhhaaGreatDoor
namespace Ab
set_option maxRecDepth 100000
set_option maxHeartbeats 8000000
set_option linter.all false
attribute [local simp] wp_regW opsW_nil opsW_cons opsK_eq regK_no regK_draw oW_n oW_h oW_r oW_pn convA appendA appRow newsA rowsSz rowsOf isIntD makeSliceA elemOf rowsBuilt eqA eq1
attribute [-simp] fCall
variable {kl kd : Nat} {d : Dk} {U S T : Nat → Prop} {sv : AV} {ks : List Nat} {rvs : Nat → AV} {H H' : Hp} {N N' K n m : Nat} {l : Lg} {name : Bs}

/-- A statement and what comes behind it. -/
theorem seq_cut {C : Cfg} {call : CallT} {k : Nat} {f : FuncId} {a b : Code} {st : St} {Q : Ex × St → Prop} (P : Ex × St → Prop) (h1 : wp (codeA C call k f a st) P) (h2 : ∀ x, P x → seqQ C call k f b Q x) : wp (codeA C call k f (.seq a b) st) Q := by
  rw [wp_seq]
  exact wp_mono h1 h2

/-- Bounds of a log. -/
structure LB (l : Lg) : Prop where
  name : l.name.length ≤ 40
  last : l.last < W64
  segs : l.segs.length ≤ 2 ^ 20
  seg : ∀ s ∈ l.segs, s.no < W64 ∧ s.recs.length ≤ 2 ^ 25 ∧ s.size ≤ 2 ^ 49
  recs : ∀ s ∈ l.segs, ∀ b ∈ s.recs, b.length ≤ 2 ^ 24
/-- What a call on a log leaves. -/
def CallQ (kl kd : Nat) (l' : Lg) (d' : Dk) (U : Nat → Prop) (H : Hp) (N : Nat) (H' : Hp) (N' : Nat) : Prop := Frm U H N H' N' ∧ ∃ sv' ks' rvs', LX kl kd l' d' (grw U N N') sv' ks' rvs' H' N'

theorem c_begins (hK : big K) (hn : 6 ≤ n) (hI : d.Inv m) (hm : m ≤ 2 ^ 21 - 8) (hB : LB l) (h : LX kl kd l d U sv ks rvs H N) {no ka ga : Nat} {b : Bs} (hno : no < W64) (ha : lk H ka = some (ga, .arr 1 (byteRows b))) (hu : ¬ U ka) (hka : ka < N) (hb : b.length ≤ 2 ^ 17) :
    Sp K n 41 [.ptr kl 0 0, .i .u64 (no : Nat), .rs ka ga 0 b.length 1] H N fun r H' N' => r = .i .i64 (l.begins d no b).1 ∧ CallQ kl kd (l.begins d no b).2.2 (l.begins d no b).2.1 U H N H' N' := by
  refine sp_cps fun Q hQ => ?_
  obtain ⟨n, rfl⟩ : ∃ m, n = m + 1 := ⟨n - 1, by omega⟩
  refine sp_of rfl (run_wp Tryz.func41 rfl (by simp [Tryz.f41]) ?_)
  have ht := h.top
  have hsl := h.slen
  have hsm := h.smv
  have hklt := h.kl_lt
  refine seq_cut (P := fun x => x = (.normal, { env := [(0, .ptr kl 0 0), (1, .i .u64 (no : Nat)), (2, .rs ka ga 0 b.length 1)], loc := [], hp := H, nx := N + 1 })) (by simp) ?_
  rintro _ rfl
  rw [seqQ_normal]
  obtain ⟨P, hP⟩ : ∃ P : Ex × St → Prop, P = (fun x => ∃ H1 N1, Frm U H N H1 N1 ∧ LX kl kd l (syncLast l d).2 (grw U N N1) sv ks rvs H1 N1 ∧ (∃ m1, m1 ≤ m + 1 ∧ (syncLast l d).2.Inv m1) ∧
    (if (syncLast l d).1 ≠ 0 then x = (.ret, { env := [(6, .i .i64 (syncLast l d).1)], loc := [], hp := H1, nx := N1 }) else ∃ e, (e = [(7, .i .i64 (l.segs.length : Nat)), (18, .b false)] ∨ e = [(8, .i .i64 0), (38, .b false)]) ∧ x = (.normal, { env := (0, .ptr kl 0 0) :: (1, .i .u64 (no : Nat)) :: (2, .rs ka ga 0 b.length 1) :: e, loc := [], hp := H1, nx := N1 }))) := ⟨_, rfl⟩
  refine seq_cut P ?_ ?_
  · by_cases h0 : l.segs = []
    · have hl1 : ¬ 0 < l.segs.length := by rw [h0]; simp
      have hs0 : syncLast l d = (0, d) := by unfold syncLast; rw [h0]; rfl
      simp [ht, hsm, lenA_sl, hsl, hl1]
      rw [hP, hs0]
      exact ⟨H, N + 1 + 6 + 2, ⟨by omega, fun _ _ _ => rfl⟩, (h.low (fun _ _ => rfl) (by omega)).widen (fun _ => .inl) (grw_lt h.lt (by omega)), ⟨m, by omega, hI⟩, by rw [if_neg (by simp)]; exact ⟨_, .inl rfl, rfl⟩⟩
    · obtain ⟨q, hq⟩ : ∃ q, q = l.segs.length - 1 := ⟨_, rfl⟩
      have hpos : 0 < l.segs.length := List.length_pos_iff.2 h0
      obtain ⟨s, hs⟩ : ∃ s, l.segs[q]? = some s := ⟨_, List.getElem?_eq_getElem (by omega)⟩
      have hs0 : syncLast l d = d.sync (fileN l.name s.no) := by
        unfold syncLast
        rw [List.getLast?_eq_getElem?, ← hq, hs]
      have hsm2 := hB.seg s (List.mem_of_getElem? hs)
      obtain ⟨k, a, g, j0, all, p1, rfl, p2, p3, p4, p5, p6, p7, p8, p9⟩ := h.at hs
      have hlen := hB.segs
      have wq : IntKind.i64.wrap ((l.segs.length : Int) - 1) = (q : Nat) := by rw [wrap_i64 (by omega) (by omega)]; omega
      have cq : (q : Int) < l.segs.length := by omega
      have hkk := h.lt k p8
      have haa := h.lt a p5
      simp [ht, lenA_sl, hpos, wq, cq, p2, p3, p7]
      refine (c_file hK (by omega) (H := H) hsm2.1 hB.name ht).cW ?_
      rintro _ H2 n2 ⟨rfl, e1, e2⟩
      have L2 := h.low (H' := H2) (N' := n2) (fun j hj => e2 j (by omega)) (by omega)
      have y1 : lk H2 kl = lk H kl := e2 kl (by omega)
      have y2 : lk H2 k = lk H k := e2 k (by omega)
      have y5 : lk H2 a = lk H a := e2 a (by omega)
      simp
      refine (lx_sync hK (by omega) hI L2 (fileN l.name s.no)).cW ?_
      rintro _ H3 n3 ⟨rfl, L3, F3⟩
      have y3 : lk H3 kl = lk H2 kl := L3.top.trans L2.top.symm
      have y4 : lk H3 k = lk H2 k := (L3.sg p1 hs).trans (L2.sg p1 hs).symm
      have F3' : Frm U H N H3 n3 := ⟨by have := F3.le; omega, fun j hj hn => (F3.out j (by omega) hn).trans (e2 j (by omega))⟩
      have hF := F3'.le
      have I3 := hI.sync (fileN l.name s.no)
      have fin : ∀ M', n3 ≤ M' → Frm U H N H3 M' ∧ LX kl kd l (d.sync (fileN l.name s.no)).2 (grw U N M') (.rs a g j0 l.segs.length 1) ks rvs H3 M' ∧ ∃ m1, m1 ≤ m + 1 ∧ (d.sync (fileN l.name s.no)).2.Inv m1 := fun M' hM' =>
        ⟨⟨by omega, F3'.out⟩, (L3.low (fun _ _ => rfl) hM').widen (fun j hj => hj.imp id fun e => ⟨by omega, by omega⟩) (grw_lt h.lt (by omega)), m + 1, Nat.le_refl _, I3⟩
      simp
      refine ⟨⟨by kernel_rfl, by simp [dynOk, pairsOk, befOf, Region.binds, Eff.apart, Eff.clear, Eff.wkeys, Ref.key, AV.refs0, List.range, List.range.loop, sameAt, y1, y2, y3, y4]⟩, ?_⟩
      by_cases he : (d.sync (fileN l.name s.no)).1 = 0
      · simp [he]
        rw [hP, hs0]
        obtain ⟨x1, x2, x3⟩ := fin (n3 + 2) (by omega)
        exact ⟨_, _, x1, x2, x3, by rw [if_neg (by simp [he])]; exact ⟨_, .inr rfl, rfl⟩⟩
      · have he2 : ((d.sync (fileN l.name s.no)).1 != 0) = true := by simpa using he
        simp [he, he2]
        rw [hP, hs0]
        obtain ⟨x1, x2, x3⟩ := fin (n3 + 2 + 2) (by omega)
        exact ⟨_, _, x1, x2, x3, by rw [if_pos he]⟩
  · rw [hP]
    rintro x ⟨H1, N1, F1, L1, ⟨m1, hm1, I1⟩, hx⟩
    have hF1 := F1.le
    rcases hsl2 : syncLast l d with ⟨c0, d1⟩
    rw [hsl2] at L1 I1 hx
    simp only at L1 I1 hx
    by_cases hc0 : c0 = 0
    case neg =>
      have hbg : l.begins d no b = (c0, d1, l) := by
        unfold Lg.begins
        rw [hsl2]
        simp only
        rw [if_pos hc0]
      rw [if_pos hc0] at hx
      subst hx
      rw [hbg] at hQ
      simp
      exact hQ _ _ _ ⟨rfl, F1, _, _, _, L1⟩
    rw [if_neg (by simp [hc0])] at hx
    obtain ⟨e0, he0, rfl⟩ := hx
    rw [seqQ_normal]
    have t1 := L1.top
    have hkl1 := L1.kl_lt
    have ha1 : lk H1 ka = some (ga, .arr 1 (byteRows b)) := (F1.out ka hka hu).trans ha
    have hu1 : ¬ grw U N N1 ka := fun e => e.elim hu fun e => by omega
    rcases hcr : d1.create (fileN l.name no) with ⟨c1, d2⟩
    have I2 := I1.create (fileN l.name no)
    rw [hcr] at I2
    simp only at I2
    obtain ⟨P2, hP2⟩ : ∃ P2 : Ex × St → Prop, P2 = (fun x => ∃ H2 N2, Frm U H N H2 N2 ∧ LX kl kd l d2 (grw U N N2) sv ks rvs H2 N2 ∧ N1 ≤ N2 ∧
      (if c1 ≠ 0 then x = (.ret, { env := [(6, .i .i64 c1)], loc := [], hp := H2, nx := N2 }) else x = (.normal, { env := [(0, .ptr kl 0 0), (1, .i .u64 (no : Nat)), (2, .rs ka ga 0 b.length 1), (9, .i .i64 0), (49, .b false)], loc := [], hp := H2, nx := N2 }))) := ⟨_, rfl⟩
    refine seq_cut P2 ?_ ?_
    · rcases he0 with rfl | rfl
      all_goals
        simp [t1]
        refine (c_file hK (by omega) (H := H1) hno hB.name t1).cW ?_
        rintro _ H2 n2 ⟨rfl, e1, e2⟩
        have L2 := L1.low (H' := H2) (N' := n2) (fun j hj => e2 j (by omega)) (by omega)
        have y1 : lk H2 kl = lk H1 kl := e2 kl (by omega)
        simp
        refine (lx_create hK (by omega) I1 (by omega) L2 (fileN l.name no)).cW ?_
        rintro _ H3 n3 ⟨rfl, L3, F3⟩
        rw [hcr] at L3 ⊢
        simp only at L3
        have hF3 := F3.le
        have F3' : Frm U H N H3 n3 := F1.weak (fun _ h => h) ⟨by omega, fun j hj hn => (F3.out j (by omega) hn).trans (e2 j (by omega))⟩
        have fin : ∀ M', n3 ≤ M' → Frm U H N H3 M' ∧ LX kl kd l d2 (grw U N M') sv ks rvs H3 M' ∧ N1 ≤ M' := fun M' hM' =>
          ⟨⟨by omega, F3'.out⟩, (L3.low (fun _ _ => rfl) hM').widen (fun j hj => by
            rcases hj with (hj | hj) | hj
            · exact .inl hj
            · exact .inr ⟨by omega, by omega⟩
            · exact .inr ⟨by omega, by omega⟩) (grw_lt h.lt (by omega)), by omega⟩
        simp
        refine ⟨⟨by kernel_rfl, by simp [dynOk, pairsOk, befOf, Region.binds, Eff.apart, Eff.clear, Eff.wkeys, Ref.key, AV.refs0, List.range, List.range.loop, sameAt, y1]⟩, ?_⟩
        by_cases he : c1 = 0
        · subst he
          simp
          rw [hP2]
          obtain ⟨x1, x2, x3⟩ := fin (n3 + 2) (by omega)
          exact ⟨_, _, x1, x2, x3, by rw [if_neg (by simp)]⟩
        · have he2 : (c1 != 0) = true := by simpa using he
          simp [he, he2]
          rw [hP2]
          obtain ⟨x1, x2, x3⟩ := fin (n3 + 2 + 2) (by omega)
          exact ⟨_, _, x1, x2, x3, by rw [if_pos he]⟩
    rw [hP2]
    rintro x ⟨H2, N2, F2, L2, hN2, hx⟩
    have hF2 := F2.le
    by_cases hc1 : c1 = 0
    case neg =>
      have hbg : l.begins d no b = (c1, d2, l) := by
        unfold Lg.begins
        rw [hsl2]
        simp only
        rw [if_neg (by simp [hc0]), hcr]
        simp only
        rw [if_pos hc1]
      rw [if_pos hc1] at hx
      subst hx
      rw [hbg] at hQ
      simp
      exact hQ _ _ _ ⟨rfl, F2, _, _, _, L2⟩
    rw [if_neg (by simp [hc1])] at hx
    subst hx
    have t2 := L2.top
    have hkl2 := L2.kl_lt
    have ha2 : lk H2 ka = some (ga, .arr 1 (byteRows b)) := (F2.out ka hka hu).trans ha
    have hrl := rec_len no b
    have hhl := head_len no
    have wr : ∀ x y : Bs, byteRows x ++ byteRows y = byteRows (x ++ y) := fun x y => (byteRows_app x y).symm
    rcases hap : d2.append (fileN l.name no) (headB no ++ recB no b) with ⟨c2, d3⟩
    have I3 := I2.append (fileN l.name no) (headB no ++ recB no b)
    rw [hap] at I3
    simp only at I3
    simp [t2]
    refine (c_file hK (by omega) (H := H2) hno hB.name t2).cW ?_
    rintro _ H3 n3 ⟨rfl, e1, e2⟩
    have y1 : lk H3 kl = lk H2 kl := e2 kl (by omega)
    simp
    refine (c_head hK (by omega) (H := H3) hno).cW ?_
    rintro _ H4 n4 ⟨a1, g1, rfl, p1, p2, p3, p4⟩
    have y2 : lk H4 kl = lk H3 kl := p4 kl (by omega)
    have ha4 : lk H4 ka = some (ga, .arr 1 (byteRows b)) := by rw [p4 ka (by omega), e2 ka (by omega)]; exact ha2
    simp
    refine (c_record hK (by omega) (H := H4) (b := b) (v := .rs ka ga 0 b.length 1) (all := byteRows b) hno ⟨rfl, ha4, by rw [List.drop_zero, ← byteRows_len, List.take_length], by simp⟩ (by omega) (by omega)).cW ?_
    rintro _ H5 n5 ⟨a2, g2, rfl, q1, q2, q3, q4⟩
    have y3 : lk H5 kl = lk H4 kl := q4 kl (by omega)
    have z1 : lk H5 a1 = some (g1, .arr 1 (byteRows (headB no))) := (q4 a1 (by omega)).trans p1
    have s1 : shown (byteRows (headB no)) 0 24 = byteRows (headB no) := shown_rows hhl.symm
    have s2 : (byteRows (recB no b)).take (b.length + 12) = byteRows (recB no b) := rows_take hrl.symm
    have d0 : (24 + (b.length + 12)) * 2 ≤ 68719476736 := by omega
    have hr0 : ¬ recB no b = [] := fun e => by rw [e] at hrl; simp at hrl
    have hr1 : byteRows (recB no b) ≠ [] := fun e => by have := congrArg List.length e; simp [hrl] at this
    simp [lenA_sl, q1, z1, hrl, hhl, s1, s2, hr0, hr1, mostB, wr, d0]
    obtain ⟨H6, hH6⟩ : ∃ H6, H6 = up H5 a1 (g1 + 1, .arr 1 (byteRows (headB no ++ recB no b))) := ⟨_, rfl⟩
    rw [← hH6]
    have low6 : ∀ j, j < N2 → lk H6 j = lk H2 j := fun j hj => by
      rw [hH6, lk_set, if_neg (by omega), q4 j (by omega), p4 j (by omega), e2 j (by omega)]
    have L6 := L2.low (H' := H6) (N' := n5) low6 (by omega)
    have hln : (headB no ++ recB no b).length = 24 + (b.length + 12) := by simp [hrl, hhl]
    have hgu : ¬ grw U N N2 a1 := fun e => e.elim (fun e => by have := h.lt a1 e; omega) fun e => by omega
    have hA := lx_append (K := K) (n := n) hK (by omega) I2 L6 (fileN l.name no) (headB no ++ recB no b) (a := a1) (g := g1 + 1) (by rw [hH6, lk_set, if_pos rfl]) hgu (by omega) (by rw [hln]; omega)
    rw [hln, hap] at hA
    refine hA.cW ?_
    rintro _ H7 n7 ⟨rfl, L7, F7⟩
    simp only at L7
    have hF7 := F7.le
    have k1 : ¬ kl = a1 := by omega
    have k2 : ¬ a1 = kl := by omega
    have y4 : lk H6 kl = lk H5 kl := by rw [hH6, lk_set, if_neg k1]
    have y5 : lk H7 kl = lk H6 kl := L7.top.trans L6.top.symm
    have F7' : Frm U H N H7 n7 := F2.weak (fun _ h => h) ⟨by omega, fun j hj hn => (F7.out j (by omega) hn).trans (low6 j hj)⟩
    have gu7 : ∀ M', n7 ≤ M' → ∀ j, grw (grw U N N2) n5 n7 j → grw U N M' j := fun M' hM' j hj => by
      rcases hj with (hj | hj) | hj
      · exact .inl hj
      · exact .inr ⟨by omega, by omega⟩
      · exact .inr ⟨by omega, by omega⟩
    have ha7 : lk H7 ka = some (ga, .arr 1 (byteRows b)) := (F7'.out ka hka hu).trans ha
    simp
    refine ⟨⟨by kernel_rfl, by simp [dynOk, pairsOk, befOf, Region.binds, Eff.apart, Eff.clear, Eff.wkeys, Ref.key, AV.refs0, List.range, List.range.loop, sameAt, y1, y2, y3, y4, y5, k1, k2]⟩, ?_⟩
    have t7 := L7.top
    by_cases hc2 : c2 = 0
    case neg =>
      have hbg : l.begins d no b = (c2, (d3.remove (fileN l.name no)).2, l) := by
        unfold Lg.begins
        rw [hsl2]
        simp only
        rw [if_neg (by simp [hc0]), hcr]
        simp only
        rw [if_neg (by simp [hc1]), hap]
        simp only
        rw [if_pos hc2]
      have he2 : (c2 != 0) = true := by simpa using hc2
      rw [hbg] at hQ
      simp only at hQ
      simp [hc2, he2, t7]
      refine (c_file hK (by omega) (H := H7) hno hB.name t7).cW ?_
      rintro _ H8 n8 ⟨rfl, e3, e4⟩
      have L8 := L7.low (H' := H8) (N' := n8) (fun j hj => e4 j (by omega)) (by omega)
      have y6 : lk H8 kl = lk H7 kl := e4 kl (by omega)
      simp
      refine (lx_remove hK (by omega) I3 (by omega) L8 (fileN l.name no)).cW ?_
      rintro _ H9 n9 ⟨rfl, L9, F9⟩
      have hF9 := F9.le
      simp
      refine ⟨⟨by kernel_rfl, by simp [dynOk, pairsOk, befOf, Region.binds, Eff.apart, Eff.clear, Eff.wkeys, Ref.key, AV.refs0, List.range, List.range.loop, sameAt, y6]⟩, ?_⟩
      refine hQ _ _ _ ⟨rfl, ?_, _, _, _, (L9.low (fun _ _ => rfl) (by omega)).widen (fun j hj => ?_) (grw_lt h.lt (by omega))⟩
      · have := F7'.weak (gu7 n7 (by omega)) (⟨by omega, fun j hj hn => (F9.out j (by omega) hn).trans (e4 j (by omega))⟩ : Frm (grw (grw U N N2) n5 n7) H7 n7 H9 n9)
        exact ⟨by omega, this.out⟩
      · rcases hj with hj | hj
        · exact gu7 _ (by omega) j hj
        · exact .inr ⟨by omega, by omega⟩
    subst hc2
    have hbg : l.begins d no b = (0, d3, { l with segs := l.segs ++ [Sg.takes ⟨no, [], 24⟩ b] }) := by
      unfold Lg.begins
      rw [hsl2]
      simp only
      rw [if_neg (by simp [hc0]), hcr]
      simp only
      rw [if_neg (by simp [hc1]), hap]
      simp only
      rw [if_neg (by simp)]
    rw [hbg] at hQ
    simp only at hQ
    simp
    obtain ⟨kg, hkg⟩ : ∃ kg, kg = n7 + 2 + 2 := ⟨_, rfl⟩
    rw [← hkg]
    obtain ⟨H8, hH8⟩ : ∃ H8, H8 = up H7 kg (0, .cells [.i .u64 (no : Nat), .vs true 0 [], .i .i64 24]) := ⟨_, rfl⟩
    rw [← hH8]
    have low8 : ∀ j, j < n7 → lk H8 j = lk H7 j := fun j hj => by rw [hH8, lk_set, if_neg (by omega)]
    refine (c_takes (T := fun j => j = kg) (H := H8) (N := n7 + 2 + 4 + 3) (n := n) (K := K) (k := kg) (no := no) (sz := 24) (ka := ka) (ga := ga) (rv := .vs true 0 []) (recs := []) (b := b) (by omega) (by rw [hH8, lk_set, if_pos rfl]; rfl) (.inl ⟨rfl, rfl⟩) (fun j hj => by omega) (by omega) ((low8 ka (by omega)).trans ha7) (by omega) (by simp) (by omega) (by omega)).cW ?_
    rintro _ H9 n9 ⟨rfl, rv', hT⟩
    have hT9 := hT.le
    have low9 : ∀ j, j < n7 → lk H9 j = lk H7 j := fun j hj => (hT.out j (by omega) (by omega) (fun g nn e => by cases e)).trans (low8 j hj)
    have L9 := L7.low (H' := H9) (N' := n9) low9 (by omega)
    have t9 := L9.top
    have hsg : SgAt H9 (grw (fun j => j = kg) (n7 + 2 + 4 + 3) n9) kg rv' (Sg.takes ⟨no, [], 24⟩ b) := ⟨hT.top, .inl rfl, hT.recs⟩
    have hTn : ∀ j, grw (fun j => j = kg) (n7 + 2 + 4 + 3) n9 j → ¬ grw (grw U N N2) n5 n7 j ∧ j < n9 := fun j hj => by
      have h7 := L7.lt j
      rcases hj with hj | hj
      · exact ⟨fun e => by have := h7 e; omega, by omega⟩
      · exact ⟨fun e => by have := h7 e; omega, by omega⟩
    have hls := hB.segs
    rcases L9.form with ⟨f1, z, rfl⟩ | ⟨a, g, j0, all, rfl, f2, f3, f4, f5, f6⟩
    · have g1 : ∀ c, ¬ kl = n9 + c := fun c => by omega
      have g2 : ∀ c, ¬ n9 + c = kl := fun c => by omega
      simp [t9, lk_set, g1, g2, Nat.add_assoc, mostB]
      refine hQ _ _ _ ?_
      refine ⟨rfl, ⟨by omega, fun j hj hn => ?_⟩, _, _, _, (L9.push (l' := { l with segs := l.segs ++ [Sg.takes ⟨no, [], 24⟩ b] }) (sv' := .rs (n9 + 7) 0 0 1 1) (N' := n9 + 11) hsg hTn rfl (by omega) (by simp [lk_set]) (.inl ⟨⟨z, rfl⟩, n9 + 7, rfl, by simp [lk_set, g2], by omega, by omega⟩) (fun j hj hjk _ => ?_)).toNew (kl0 := 0) (fun j hj => ?_) h.lt (by omega) (by omega)⟩
      · have u1 : ¬ j = kl := fun e => hn (e ▸ h.klU)
        have u2 : ∀ c, ¬ j = n9 + c := fun c => by omega
        simp [lk_set, u1, u2]
        exact (low9 j (by omega)).trans (F7'.out j hj hn)
      · have u2 : ∀ c, ¬ j = n9 + c := fun c => by omega
        simp [lk_set, hjk, u2]
      · rcases hj with hj | hj | hj
        · exact gu7 _ (by omega) j hj
        · rcases hj with hj | hj
          · exact .inr ⟨by omega, by omega⟩
          · exact .inr ⟨by omega, by omega⟩
        · exact .inr ⟨by omega, by omega⟩
    · have fa := L9.lt a f4
      have fa7 := L7.lt a f4
      have g1 : ∀ c, ¬ kl = n9 + c := fun c => by omega
      have g2 : ∀ c, ¬ n9 + c = kl := fun c => by omega
      have g3 : ∀ c, ¬ a = n9 + c := fun c => by omega
      have g4 : ∀ c, ¬ n9 + c = a := fun c => by omega
      have d1 : (l.segs.length + 1) * 9 ≤ 68719476736 := by omega
      have f5' : ¬ kl = a := fun e => f5 e.symm
      have haU : U a := by
        rcases h.form with ⟨_, z, e⟩ | ⟨a', g', i0', all', e, _, _, f, _⟩
        · cases e
        · injection e with e; rw [e]; exact f
      simp [t9, f2, f3, f5, f5', lk_set, g1, g2, g3, g4, Nat.add_assoc, mostB, d1]
      refine hQ _ _ _ ?_
      refine ⟨rfl, ⟨by omega, fun j hj hn => ?_⟩, _, _, _, (L9.push (l' := { l with segs := l.segs ++ [Sg.takes ⟨no, [], 24⟩ b] }) (sv' := .rs a (g + 1) 0 (l.segs.length + 1) 1) (N' := n9 + 11) hsg hTn rfl (by omega) (by simp [lk_set]) (.inr ⟨a, g, j0, all, rfl, f2, rfl, by simp [lk_set, f5, shown_cut f3]⟩) (fun j hj hjk hja => ?_)).toNew (kl0 := 0) (fun j hj => ?_) h.lt (by omega) (by omega)⟩
      · have u1 : ¬ j = kl := fun e => hn (e ▸ h.klU)
        have u3 : ¬ j = a := fun e => hn (e ▸ haU)
        have u2 : ∀ c, ¬ j = n9 + c := fun c => by omega
        simp [lk_set, u1, u2, u3]
        exact (low9 j (by omega)).trans (F7'.out j hj hn)
      · have u2 : ∀ c, ¬ j = n9 + c := fun c => by omega
        have u3 : ¬ j = a := fun e => hja g j0 l.segs.length (by rw [e])
        simp [lk_set, hjk, u2, u3]
      · rcases hj with hj | hj | hj
        · exact gu7 _ (by omega) j hj
        · rcases hj with hj | hj
          · exact .inr ⟨by omega, by omega⟩
          · exact .inr ⟨by omega, by omega⟩
        · exact .inr ⟨by omega, by omega⟩

end Ab
end Go.Proofs.YtmbbnoipoifhhaaGreatDoor

/-
  DERIVED. A record appended.
  Conditions: enough rounds, enough depth; bounded lengths.
-/
namespace Go.Proofs.YtmbbnoipoifhhaaGreatDoor
namespace Ab
set_option maxRecDepth 100000
set_option maxHeartbeats 8000000
set_option linter.all false
attribute [local simp] wp_regW opsW_nil opsW_cons opsK_eq regK_no regK_draw oW_n oW_h oW_r oW_pn convA appendA appRow newsA rowsSz rowsOf isIntD makeSliceA elemOf rowsBuilt eqA eq1
attribute [-simp] fCall
variable {kl kd : Nat} {d : Dk} {U S T : Nat → Prop} {sv : AV} {ks : List Nat} {rvs : Nat → AV} {H H' : Hp} {N N' K n m : Nat} {l : Lg} {name : Bs}

theorem set_last {l : List Sg} {q : Nat} {s s' : Sg} (hq : q = l.length - 1) (hp : 0 < l.length) : l.set q s' = l.dropLast ++ [s'] := by
  have h1 : l = l.dropLast ++ [l[q]'(by omega)] := by
    have := (List.dropLast_concat_getLast (l := l) (List.length_pos_iff.1 hp)).symm
    rw [List.getLast_eq_getElem] at this
    simpa [hq] using this
  have h2 : l.dropLast.length = q := by rw [List.length_dropLast, hq]
  conv => lhs; rw [h1]
  rw [List.set_append_right _ _ (by omega), h2, Nat.sub_self]
  rfl

theorem begins_log (l : Lg) (d : Dk) (no : Nat) (b : Bs) : ((l.begins d no b).1 ≠ 0 → (l.begins d no b).2.2 = l) ∧ (l.begins d no b).2.2.last = l.last := by
  unfold Lg.begins
  split
  · exact ⟨fun _ => rfl, rfl⟩
  · split
    · exact ⟨fun _ => rfl, rfl⟩
    · split
      · exact ⟨fun _ => rfl, rfl⟩
      · exact ⟨fun h => absurd rfl h, rfl⟩
theorem lg_last (l : Lg) {x : Nat} (h : l.last = x) : { l with last := x } = l := by subst h; rfl
theorem CallQ.trans {l' : Lg} {d' : Dk} {H3 : Hp} {n1 n2 n3 : Nat} (h : CallQ kl kd l' d' U H' n2 H3 n3) (hl : ∀ j, U j → j < N) (h1 : N ≤ n2) (hf : ∀ j, j < N → ¬ U j → lk H' j = lk H j) (hn : n3 ≤ n1) : CallQ kl kd l' d' U H N H3 n1 := by
  obtain ⟨f, sv', ks', rvs', L⟩ := h
  have := f.le
  exact ⟨⟨by omega, fun j hj hu => (f.out j (by omega) hu).trans (hf j hj hu)⟩, sv', ks', rvs', (L.low (fun _ _ => rfl) hn).widen (fun j hj => hj.imp id fun e => ⟨by omega, by omega⟩) (grw_lt hl (by omega))⟩

theorem c_lappend (hK : big K) (hn : 7 ≤ n) (hI : d.Inv m) (hm : m ≤ 2 ^ 21 - 8) (hB : LB l) (hsz : l.size ≤ 2 ^ 30) (h : LX kl kd l d U sv ks rvs H N) {ka ga : Nat} {b : Bs} (ha : lk H ka = some (ga, .arr 1 (byteRows b))) (hu : ¬ U ka) (hka : ka < N) (hb : b.length ≤ 2 ^ 25) :
    Sp K n 10 [.ptr kl 0 0, .rs ka ga 0 b.length 1] H N fun r H' N' => r = .tup [.i .u64 ((l.append d b).2.1 : Nat), .i .i64 (l.append d b).1] ∧ CallQ kl kd (l.append d b).2.2.2 (l.append d b).2.2.1 U H N H' N' := by
  refine sp_cps fun Q hQ => ?_
  obtain ⟨n, rfl⟩ : ∃ m, n = m + 1 := ⟨n - 1, by omega⟩
  refine sp_of rfl (run_wp Tryz.func10 rfl (by simp [Tryz.f10]) ?_)
  have ht := h.top
  have hsl := h.slen
  have hsm := h.smv
  have hklt := h.kl_lt
  have keep : ∀ M', N ≤ M' → CallQ kl kd l d U H N H M' := fun M' hM' => ⟨⟨hM', fun _ _ _ => rfl⟩, _, _, _, (h.low (fun _ _ => rfl) hM').widen (fun _ => .inl) (grw_lt h.lt hM')⟩
  by_cases hlong : (65536 : Int) < b.length
  · have hap : l.append d b = (2, 0, d, l) := by unfold Lg.append; rw [if_pos (.inl (by unfold maxM; omega))]
    rw [hap] at hQ
    simp [lenA_sl, hlong]
    exact hQ _ _ _ ⟨rfl, keep _ (by omega)⟩
  by_cases hl0 : l.last = W64 - 1
  · have hap : l.append d b = (2, 0, d, l) := by unfold Lg.append; rw [if_pos (.inr hl0)]
    rw [hap] at hQ
    have hq : ((l.last : Int) == 18446744073709551615) = true := by rw [hl0]; rfl
    simp [lenA_sl, hlong, ht, hq]
    exact hQ _ _ _ ⟨rfl, keep _ (by omega)⟩
  have hq : ((l.last : Int) == 18446744073709551615) = false := by
    rw [beq_eq_false_iff_ne]
    intro e
    apply hl0
    rw [W64]
    omega
  have hnl : ¬ (maxM < b.length ∨ l.last = W64 - 1) := by unfold maxM; omega
  have hlast := hB.last
  obtain ⟨no, hno⟩ : ∃ no, no = l.last + 1 := ⟨_, rfl⟩
  have hnoW : no < W64 := by unfold W64 at *; omega
  have wno : IntKind.u64.wrap ((l.last : Int) + 1) = (no : Nat) := by rw [wrap_u64Z]; unfold W64 at *; omega
  have hap : l.append d b = match l.segs.getLast? with
      | some s =>
        if l.bytes d s < l.size then
          (if (d.append (fileN l.name s.no) (recB no b)).1 ≠ 0 then ((d.append (fileN l.name s.no) (recB no b)).1, 0, (d.append (fileN l.name s.no) (recB no b)).2, l)
           else (0, no, (d.append (fileN l.name s.no) (recB no b)).2, { l with segs := l.segs.dropLast ++ [s.takes b], last := no }))
        else if (l.begins d no b).1 ≠ 0 then ((l.begins d no b).1, 0, (l.begins d no b).2.1, l)
        else (0, no, (l.begins d no b).2.1, { (l.begins d no b).2.2 with last := no })
      | none =>
        if (l.begins d no b).1 ≠ 0 then ((l.begins d no b).1, 0, (l.begins d no b).2.1, l)
        else (0, no, (l.begins d no b).2.1, { (l.begins d no b).2.2 with last := no }) := by
    unfold Lg.append
    rw [if_neg hnl, ← hno]
    rfl
  refine seq_cut (P := fun x => x = (.normal, { env := [(0, .ptr kl 0 0), (1, .rs ka ga 0 b.length 1)], loc := [], hp := H, nx := N + 2 })) (by simp) ?_
  rintro _ rfl
  rw [seqQ_normal]
  refine seq_cut (P := fun x => x = (.normal, { env := [(0, .ptr kl 0 0), (1, .rs ka ga 0 b.length 1), (20, .b false)], loc := [], hp := H, nx := N + 2 + 10 })) (by simp [lenA_sl, hlong, ht, hq]) ?_
  rintro _ rfl
  rw [seqQ_normal]
  refine seq_cut (P := fun x => x = (.normal, { env := [(0, .ptr kl 0 0), (1, .rs ka ga 0 b.length 1), (6, .i .u64 (no : Nat))], loc := [], hp := H, nx := N + 2 + 10 + 6 })) (by simp [ht, wno]) ?_
  rintro _ rfl
  rw [seqQ_normal]
  rcases hres : l.append d b with ⟨e, nr, d1, l2⟩
  rw [hres] at hQ hap
  simp only at hQ
  obtain ⟨P, hP⟩ : ∃ P : Ex × St → Prop, P = (fun x => ∃ H1 N1, CallQ kl kd { l2 with last := l.last } d1 U H N H1 N1 ∧
    (if e ≠ 0 then x = (.ret, { env := [(4, .i .u64 0), (5, .i .i64 e)], loc := [], hp := H1, nx := N1 }) else ∃ ee, (ee = [] ∨ ee = [(10, .i .i64 0), (83, .b false)]) ∧ x = (.normal, { env := (0, .ptr kl 0 0) :: (6, .i .u64 (no : Nat)) :: ee, loc := [], hp := H1, nx := N1 }))) := ⟨_, rfl⟩
  have hlen := hB.segs
  refine seq_cut P ?_ ?_
  · -- a file begun
    by_cases h0 : l.segs = []
    · have hl1 : ¬ 0 < l.segs.length := by rw [h0]; simp
      have hgl : l.segs.getLast? = none := by rw [h0]; rfl
      rw [hgl] at hap
      simp only at hap
      simp [ht, hsm, lenA_sl, hsl, hl1]
      refine ⟨⟨by kernel_rfl, dyn_quiet (by simp [quietE])⟩, ?_⟩
      have hfin : ∀ H3 n3 M', CallQ kl kd (l.begins d no b).2.2 (l.begins d no b).2.1 U H (N + 2 + 10 + 6 + 6 + 19 + 5) H3 n3 → n3 ≤ M' → CallQ kl kd { l2 with last := l.last } d1 U H N H3 M' := fun H3 n3 M' c hM => by
        have hb1 := begins_log l d no b
        have hl2 : { l2 with last := l.last } = (l.begins d no b).2.2 ∧ d1 = (l.begins d no b).2.1 := by
          by_cases hc : (l.begins d no b).1 ≠ 0
          · rw [if_pos hc] at hap
            cases hap
            rw [hb1.1 hc]
            exact ⟨rfl, rfl⟩
          · rw [if_neg hc] at hap
            cases hap
            exact ⟨lg_last _ hb1.2, rfl⟩
        rw [hl2.1, hl2.2]
        exact c.trans h.lt (by omega) (fun _ _ _ => rfl) hM
      have he : e = (l.begins d no b).1 := by
        by_cases hc : (l.begins d no b).1 ≠ 0
        · rw [if_pos hc] at hap
          cases hap
          rfl
        · rw [if_neg hc] at hap
          cases hap
          simpa using (Classical.not_not.1 hc).symm
      refine (c_begins hK (by omega) hI hm hB (h.low (H' := H) (N' := N + 2 + 10 + 6 + 6 + 19 + 5) (fun _ _ => rfl) (by omega)) hnoW ha hu (by omega) (by omega)).cW ?_
      rintro _ H3 n3 ⟨rfl, c3⟩
      rw [← he]
      by_cases he0 : e = 0
      · subst he0
        simp
        rw [hP]
        exact ⟨_, n3 + 2, hfin _ _ _ c3 (by omega), by rw [if_neg (by simp)]; exact ⟨_, .inr rfl, rfl⟩⟩
      · have he2 : (e != 0) = true := by simpa using he0
        simp [he0, he2]
        rw [hP]
        exact ⟨_, n3 + 2 + 3, hfin _ _ _ c3 (by omega), by rw [if_pos he0]⟩
    · obtain ⟨q, hq⟩ : ∃ q, q = l.segs.length - 1 := ⟨_, rfl⟩
      have hpos : 0 < l.segs.length := List.length_pos_iff.2 h0
      obtain ⟨s, hs⟩ : ∃ s, l.segs[q]? = some s := ⟨_, List.getElem?_eq_getElem (by omega)⟩
      have hgl : l.segs.getLast? = some s := by rw [List.getLast?_eq_getElem?, ← hq]; exact hs
      rw [hgl] at hap
      simp only at hap
      have hsm2 := hB.seg s (List.mem_of_getElem? hs)
      obtain ⟨k, a, g, j0, all, p1, rfl, p2, p3, p4, p5, p6, p7, p8, p9⟩ := h.at hs
      have wq : IntKind.i64.wrap ((l.segs.length : Int) - 1) = (q : Nat) := by rw [wrap_i64 (by omega) (by omega)]; omega
      have cq : (q : Int) < l.segs.length := by omega
      have hkk := h.lt k p8
      have haa := h.lt a p5
      simp [ht, lenA_sl, hpos, wq, cq, p2, p3]
      refine (c_gBytes hK (by omega) hI hB.name (h.low (H' := H) (N' := N + 2 + 10 + 6 + 6 + 19) (fun _ _ => rfl) (by omega)) p1 hs hsm2.1).cW ?_
      rintro _ H2 n2 ⟨rfl, e1, e2⟩
      have L2 := h.low (H' := H2) (N' := n2) (fun j hj => e2 j (by omega)) (by omega)
      have t2 := L2.top
      have y1 : lk H2 kl = lk H kl := e2 kl (by omega)
      have y2 : lk H2 k = lk H k := e2 k (by omega)
      have y3 : lk H2 a = lk H a := e2 a (by omega)
      have f2 := y3.trans p2
      have f7 := y2.trans p7
      simp [t2]
      refine ⟨⟨by kernel_rfl, by simp [dynOk, pairsOk, befOf, Region.binds, Eff.apart, Eff.clear, Eff.wkeys, Ref.key, AV.refs0, List.range, List.range.loop, sameAt, y1, y2, y3]⟩, ?_⟩
      by_cases hsmall : l.bytes d s < l.size
      · rw [if_pos hsmall] at hap
        simp [hsmall, t2, wq, cq, f2, p3, f7]
        refine (c_file hK (by omega) (H := H2) hsm2.1 hB.name t2).cW ?_
        rintro _ H3 n3 ⟨rfl, e3, e4⟩
        have ha3 : lk H3 ka = some (ga, .arr 1 (byteRows b)) := by rw [e4 ka (by omega), e2 ka (by omega)]; exact ha
        simp
        have hbl : b.length ≤ 65536 := by omega
        refine (c_record hK (by omega) (H := H3) (b := b) (v := .rs ka ga 0 b.length 1) (all := byteRows b) hnoW ⟨rfl, ha3, by rw [List.drop_zero, ← byteRows_len, List.take_length], by simp⟩ (by omega) (by omega)).cW ?_
        rintro _ H5 n5 ⟨a2, g2, rfl, q1, q2, q3, q4⟩
        have low5 : ∀ j, j < N → lk H5 j = lk H j := fun j hj => by rw [q4 j (by omega), e4 j (by omega), e2 j (by omega)]
        have L5 := h.low (H' := H5) (N' := n5) low5 (by omega)
        have hrl := rec_len no b
        have hgu : ¬ U a2 := fun e => by have := h.lt a2 e; omega
        have hA := lx_append (K := K) (n := n) hK (by omega) hI L5 (fileN l.name s.no) (recB no b) q1 hgu (by omega) (by rw [hrl]; omega)
        simp
        refine hA.cW ?_
        rintro _ H6 n6 ⟨rfl, L6, F6⟩
        have hF6 := F6.le
        have F6' : Frm U H N H6 n6 := ⟨by omega, fun j hj hn => (F6.out j (by omega) hn).trans (low5 j hj)⟩
        have z1 : lk H3 kl = lk H2 kl := e4 kl (by omega)
        have z2 : lk H3 k = lk H2 k := e4 k (by omega)
        have z3 : lk H5 kl = lk H3 kl := q4 kl (by omega)
        have z4 : lk H5 k = lk H3 k := q4 k (by omega)
        have z5 : lk H6 kl = lk H5 kl := L6.top.trans L5.top.symm
        have z6 : lk H6 k = lk H5 k := (L6.sg p1 hs).trans (L5.sg p1 hs).symm
        simp
        refine ⟨⟨by kernel_rfl, by simp [dynOk, pairsOk, befOf, Region.binds, Eff.apart, Eff.clear, Eff.wkeys, Ref.key, AV.refs0, List.range, List.range.loop, sameAt, z1, z2, z3, z4, z5, z6]⟩, ?_⟩
        by_cases he0 : (d.append (fileN l.name s.no) (recB no b)).1 = 0
        · rw [if_neg (by simp [he0])] at hap
          cases hap
          simp [he0]
          have ha6 : lk H6 ka = some (ga, .arr 1 (byteRows b)) := (F6'.out ka hka hu).trans ha
          have hk6 := L6.sg p1 hs
          obtain ⟨S6, T6, x1, x2, x3, x4, x5, x6⟩ := L6
          have hr6 := (x2.seg q k s p1 hs).recs
          refine (c_takes (n := n) (K := K) (T := T6) (H := H6) (N := n6 + 2 + 3) (k := k) (no := s.no) (sz := s.size) (ka := ka) (ga := ga) (rv := rvs k) (recs := s.recs) (b := b) (by omega) hk6 hr6 (fun j hj => by have := x6 j (x5 j hj); omega) (by omega) ha6 (by omega) (by omega) (by omega) (by omega)).cW ?_
          rintro _ H7 n7 ⟨rfl, rv', hT⟩
          have hT7 := hT.le
          simp
          rw [hP]
          have LT := LX.takes (N := n6 + 2 + 3) (x1.frame (fun _ _ => rfl) (by omega)) x2 x3 x4 x5 (fun j hj => by have := x6 j hj; omega) p1 hs hT
          rw [set_last (s := s) hq hpos] at LT
          have hfin : CallQ kl kd { l with segs := l.segs.dropLast ++ [s.takes b] } (d.append (fileN l.name s.no) (recB no b)).2 U H N H7 n7 := by
            refine ⟨⟨by omega, fun j hj hn => ?_⟩, _, _, _, LT.widen (fun j hj => ?_) (grw_lt h.lt (by omega))⟩
            · have hu' : ¬ grw U n5 n6 j := fun e => e.elim hn fun e => by omega
              have hkj : j ≠ k := fun e => hn (e ▸ p8)
              refine (hT.out j (by omega) hkj fun g nn e => ?_).trans (F6'.out j hj hn)
              rcases p9 with ⟨_, e3⟩ | ⟨a', g', vs, f0, f1, f2, f3, f4, f5⟩
              · rw [e] at e3; cases e3
              · rw [e] at f1
                injection f1 with f1
                exact hn (f1 ▸ f3)
            · rcases hj with (hj | hj) | hj
              · exact .inl hj
              · exact .inr ⟨by omega, by omega⟩
              · exact .inr ⟨by omega, by omega⟩
          refine ⟨_, n7, hfin, ?_⟩
          rw [if_neg (by simp)]
          exact ⟨_, .inl rfl, rfl⟩
        · rw [if_pos he0] at hap
          cases hap
          have he2 : ((d.append (fileN l.name s.no) (recB no b)).1 != 0) = true := by simpa using he0
          simp [he0, he2]
          rw [hP]
          refine ⟨_, n6 + 2 + 3, ⟨⟨by omega, F6'.out⟩, _, _, _, (L6.low (fun _ _ => rfl) (by omega)).widen (fun j hj => hj.imp id fun e => ⟨by omega, by omega⟩) (grw_lt h.lt (by omega))⟩, ?_⟩
          rw [if_pos he0]
      · rw [if_neg hsmall] at hap
        have ha2 := (e2 ka (by omega)).trans ha
        simp [hsmall]
        have hfin : ∀ H3 n3 M', CallQ kl kd (l.begins d no b).2.2 (l.begins d no b).2.1 U H2 (n2 + 5) H3 n3 → n3 ≤ M' → CallQ kl kd { l2 with last := l.last } d1 U H N H3 M' := fun H3 n3 M' c hM => by
          have hb1 := begins_log l d no b
          have hl2 : { l2 with last := l.last } = (l.begins d no b).2.2 ∧ d1 = (l.begins d no b).2.1 := by
            by_cases hc : (l.begins d no b).1 ≠ 0
            · rw [if_pos hc] at hap
              cases hap
              rw [hb1.1 hc]
              exact ⟨rfl, rfl⟩
            · rw [if_neg hc] at hap
              cases hap
              exact ⟨lg_last _ hb1.2, rfl⟩
          rw [hl2.1, hl2.2]
          exact c.trans h.lt (by omega) (fun j hj _ => e2 j (by omega)) hM
        have he : e = (l.begins d no b).1 := by
          by_cases hc : (l.begins d no b).1 ≠ 0
          · rw [if_pos hc] at hap
            cases hap
            rfl
          · rw [if_neg hc] at hap
            cases hap
            simpa using (Classical.not_not.1 hc).symm
        refine (c_begins hK (by omega) hI hm hB (h.low (H' := H2) (N' := n2 + 5) (fun j hj => e2 j (by omega)) (by omega)) hnoW ha2 hu (by omega) (by omega)).cW ?_
        rintro _ H3 n3 ⟨rfl, c3⟩
        rw [← he]
        by_cases he0 : e = 0
        · subst he0
          simp
          rw [hP]
          exact ⟨_, n3 + 2, hfin _ _ _ c3 (by omega), by rw [if_neg (by simp)]; exact ⟨_, .inr rfl, rfl⟩⟩
        · have he2 : (e != 0) = true := by simpa using he0
          simp [he0, he2]
          rw [hP]
          exact ⟨_, n3 + 2 + 3, hfin _ _ _ c3 (by omega), by rw [if_pos he0]⟩
  · rw [hP]
    rintro x ⟨H1, N1, C1, hx⟩
    have hF1 := C1.1.le
    by_cases he0 : e = 0
    case neg =>
      rw [if_pos he0] at hx
      subst hx
      have hl2 : nr = 0 ∧ l2 = l := by
        split at hap
        · split at hap
          · split at hap
            · cases hap; exact ⟨rfl, rfl⟩
            · cases hap; exact absurd rfl he0
          · split at hap
            · cases hap; exact ⟨rfl, rfl⟩
            · cases hap; exact absurd rfl he0
        · split at hap
          · cases hap; exact ⟨rfl, rfl⟩
          · cases hap; exact absurd rfl he0
      rw [hl2.2] at C1 hQ
      rw [hl2.1] at hQ
      simp
      exact hQ _ _ _ ⟨rfl, C1⟩
    subst he0
    rw [if_neg (by simp)] at hx
    obtain ⟨ee, hee, rfl⟩ := hx
    have hl2 : nr = no ∧ l2.last = no := by
      split at hap
      · split at hap
        · split at hap
          · rename_i hc; exact absurd (Prod.mk.inj hap).1.symm hc
          · cases hap; exact ⟨rfl, rfl⟩
        · split at hap
          · rename_i hc; exact absurd (Prod.mk.inj hap).1.symm hc
          · cases hap; exact ⟨rfl, rfl⟩
      · split at hap
        · rename_i hc; exact absurd (Prod.mk.inj hap).1.symm hc
        · cases hap; exact ⟨rfl, rfl⟩
    obtain ⟨F1, sv1, ks1, rvs1, L1⟩ := C1
    have t1 := L1.top
    have hk1 := L1.kl_lt
    simp only at t1
    rw [hl2.1] at hQ
    have so1 := L1.sokc
    have fin : ∀ M', N1 ≤ M' → CallQ kl kd l2 d1 U H N (up H1 kl (0, .cells [.ptr kd 0 0, .s (ba l2.name), .i .i64 (l2.size : Nat), sv1, .i .u64 (no : Nat), .i .u64 (l2.fast : Nat)])) M' := fun M' hM' => by
      refine ⟨⟨by omega, fun j hj hn => ?_⟩, _, _, _, (L1.setTop (l' := l2) (N' := M') rfl (by rw [lk_set, if_pos rfl, hl2.2]) (fun j hj hjk => by rw [lk_set, if_neg hjk]) hM').widen (fun j hj => hj.imp id fun e => ⟨by omega, by omega⟩) (grw_lt h.lt (by omega))⟩
      have : ¬ j = kl := fun e => hn (e ▸ h.klU)
      rw [lk_set, if_neg this]
      exact F1.out j hj hn
    rcases hee with rfl | rfl
    all_goals
      simp [t1, lk_set, so1]
      exact hQ _ _ _ ⟨rfl, fin _ (by omega)⟩

end Ab
end Go.Proofs.YtmbbnoipoifhhaaGreatDoor

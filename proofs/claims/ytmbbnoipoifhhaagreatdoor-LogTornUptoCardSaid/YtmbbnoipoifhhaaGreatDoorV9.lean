/-
  DERIVED. A log's files mended; a log opened.
  Conditions: enough rounds, enough depth; a disk of bounded size.
-/
import Derived.Test.YtmbbnoipoifhhaaGreatDoorV8
set_option linter.all false
set_option maxHeartbeats 4000000
namespace Go.Proofs.YtmbbnoipoifhhaaGreatDoor
namespace Ab
set_option maxRecDepth 100000
set_option maxHeartbeats 8000000
set_option linter.all false
attribute [local simp] wp_regW opsW_nil opsW_cons opsK_eq regK_no regK_draw oW_n oW_h oW_r oW_pn convA appendA appRow newsA rowsSz rowsOf isIntD makeSliceA elemOf rowsBuilt eqA eq1
attribute [-simp] fCall
variable {kl kd : Nat} {d : Dk} {U : Nat → Prop} {sv : AV} {ks : List Nat} {rvs : Nat → AV} {H : Hp} {N K n m : Nat} {l : Lg}

def syncsB (name : Bs) : List Sg → Dk → Int × Dk
  | [], d => (0, d)
  | s :: r, d => if (d.sync (fileN name s.no)).1 ≠ 0 then d.sync (fileN name s.no) else syncsB name r (d.sync (fileN name s.no)).2
theorem syncsL_eq (name : Bs) : ∀ (segs : List Sg) (d : Dk), syncsL name segs d = if (syncsB name segs d).1 ≠ 0 then syncsB name segs d else (syncsB name segs d).2.syncNames
  | [], d => by simp [syncsL, syncsB]
  | s :: r, d => by
    rw [syncsL, syncsB]
    by_cases h : (d.sync (fileN name s.no)).1 ≠ 0
    · rw [if_pos h, if_pos h, if_pos h]
    · rw [if_neg h, if_neg h]
      exact syncsL_eq name r _

theorem mends_loop (hK : big K) (hn : 5 ≤ n) (hI : d.Inv m) (hname : l.name.length ≤ 40) (hlen : l.segs.length ≤ 2 ^ 20) (hno : ∀ s ∈ l.segs, s.no < W64) (h : LX kl kd l d U sv ks rvs H N) {Q : Ex × St → Prop}
    (hret : ∀ H' N', (syncsB l.name l.segs d).1 ≠ 0 → Frm U H N H' N' → LX kl kd l (syncsB l.name l.segs d).2 (grw U N N') sv ks rvs H' N' → Q (.ret, { env := [(6, .i .i64 (syncsB l.name l.segs d).1)], loc := [], hp := H', nx := N' }))
    (hend : ∀ H' N' m', (syncsB l.name l.segs d).1 = 0 → Frm U H N H' N' → LX kl kd l (syncsB l.name l.segs d).2 (grw U N N') sv ks rvs H' N' → (syncsB l.name l.segs d).2.Inv m' → Q (.exit 1, { env := [(0, .ptr kl 0 0), (86, sv), (87, .i .i64 (l.segs.length : Nat)), (88, .i .i64 (l.segs.length : Nat)), (89, .b false)], loc := [], hp := H', nx := N' })) :
    wp (loopK cfg (callA cfg K n) K 35 (loopOf Tryz.f35 0) { env := [(0, .ptr kl 0 0), (86, sv), (87, .i .i64 (l.segs.length : Nat)), (88, .i .i64 0)], loc := [], hp := H, nx := N }) Q := by
  refine loop_wp (ι := Nat × Dk × Nat × Hp × Nat) (fun i => { env := [(0, .ptr kl 0 0), (86, sv), (87, .i .i64 (l.segs.length : Nat)), (88, .i .i64 (i.1 : Nat))], loc := [], hp := i.2.2.2.1, nx := i.2.2.2.2 }) (fun i => l.segs.length - i.1)
    (fun i => i.1 ≤ l.segs.length ∧ i.2.1.Inv i.2.2.1 ∧ LX kl kd l i.2.1 (grw U N i.2.2.2.2) sv ks rvs i.2.2.2.1 i.2.2.2.2 ∧ Frm U H N i.2.2.2.1 i.2.2.2.2 ∧ syncsB l.name l.segs d = syncsB l.name (l.segs.drop i.1) i.2.1)
    (0, d, m, H, N) rfl ⟨Nat.zero_le _, hI, h.widen (fun _ => .inl) (grw_lt h.lt (Nat.le_refl _)), Frm.refl _ _ _, rfl⟩ (by simp; unfold big at hK; omega) ?_
  rintro Next ⟨i, d1, m1, H1, M⟩ ⟨hi, hI1, L1, F1, hs⟩ hnext
  simp only at hi hI1 L1 F1 hs hnext ⊢
  by_cases hlt : i < l.segs.length
  · have hdr : l.segs.drop i = l.segs[i] :: l.segs.drop (i + 1) := List.drop_eq_getElem_cons hlt
    rw [hdr, syncsB] at hs
    obtain ⟨s, hse⟩ : ∃ s, s = l.segs[i] := ⟨_, rfl⟩
    have hsi : l.segs[i]? = some s := by rw [hse]; exact List.getElem?_eq_getElem hlt
    rw [← hse] at hs
    have hsn := hno s (by rw [hse]; exact List.getElem_mem hlt)
    obtain ⟨k, a, g, j0, all, p1, rfl, p2, p3, p4, p5, p6, p7, p8, p9⟩ := L1.at hsi
    have ht := L1.top
    have c1 : (i : Int) < l.segs.length := by omega
    have c3 : IntKind.i64.wrap ((i : Int) + 1) = ((i + 1 : Nat) : Int) := by rw [wrap_i64 (by omega) (by omega)]; omega
    simp [loopOf, loopsIn, Tryz.f35, c1, p2, p3, ht, p7]
    refine (c_file hK (by omega) (H := H1) hsn hname ht).cW ?_
    rintro _ H2 n2 ⟨rfl, e1, e2⟩
    have L2 := L1.low (H' := H2) (N' := n2) (fun j hj => e2 j (by omega)) (by omega)
    have hklt := L1.kl_lt
    have hkk := L1.lt k p8
    have y1 : lk H2 kl = lk H1 kl := e2 kl (by omega)
    have y2 : lk H2 k = lk H1 k := e2 k (by omega)
    simp
    refine (lx_sync hK (by omega) hI1 L2 (fileN l.name s.no)).cW ?_
    rintro _ H3 n3 ⟨rfl, L3, F3⟩
    have y3 : lk H3 kl = lk H2 kl := L3.top.trans L2.top.symm
    have y4 : lk H3 k = lk H2 k := (L3.sg p1 hsi).trans (L2.sg p1 hsi).symm
    have F3' : Frm U H N H3 n3 := F1.weak (fun _ h => h) ⟨by have := F3.le; omega, fun j hj hn => (F3.out j (by omega) hn).trans (e2 j (by omega))⟩
    have I3 := hI1.sync (fileN l.name s.no)
    have gs : ∀ c, n3 ≤ c → ∀ j, grw (grw U N M) n2 n3 j → grw U N c j := fun c hc j hj => by
      have := F1.le
      rcases hj with (hj | hj) | hj
      · exact .inl hj
      · exact .inr ⟨hj.1, by have := F3.le; omega⟩
      · exact .inr ⟨by omega, by omega⟩
    simp
    refine ⟨⟨by kernel_rfl, by simp [dynOk, pairsOk, befOf, Region.binds, Eff.apart, Eff.clear, Eff.wkeys, Ref.key, AV.refs0, List.range, List.range.loop, sameAt, y1, y2, y3, y4]⟩, ?_⟩
    by_cases he : (d1.sync (fileN l.name s.no)).1 = 0
    · rw [if_neg (by simp [he])] at hs
      have key : ∀ M', n3 ≤ M' → Next { env := [(0, .ptr kl 0 0), (86, .rs a g j0 l.segs.length 1), (87, .i .i64 (l.segs.length : Nat)), (88, .i .i64 ((i : Int) + 1))], loc := [], hp := H3, nx := M' } := fun M' hM' =>
        hnext (i + 1, (d1.sync (fileN l.name s.no)).2, m1 + 1, H3, M') (by simp only; omega) ⟨hlt, I3, (L3.low (fun _ _ => rfl) hM').widen (gs _ hM') (grw_lt h.lt (Nat.le_trans F3'.le hM')), ⟨by have := F3'.le; simp only; omega, F3'.out⟩, hs⟩
      simp [he, c3]
      exact key _ (by omega)
    · rw [if_pos he] at hs
      rw [hs] at hret
      have he' : ((d1.sync (fileN l.name s.no)).1 == 0) = false := by simpa using he
      have he2 : ((d1.sync (fileN l.name s.no)).1 != 0) = true := by simpa using he
      simp [he, he', he2]
      exact hret _ _ he ⟨by have := F3'.le; omega, F3'.out⟩ ((L3.low (fun _ _ => rfl) (by omega)).widen (gs _ (by omega)) (grw_lt h.lt (by have := F3'.le; omega)))
  · obtain rfl : i = l.segs.length := by omega
    rw [List.drop_length, syncsB] at hs
    rw [hs] at hend
    simp [loopOf, loopsIn, Tryz.f35]
    have hM := F1.le
    exact hend _ _ _ rfl ⟨by omega, F1.out⟩ ((L1.low (fun _ _ => rfl) (by omega)).widen (fun j hj => hj.imp id fun e => ⟨e.1, by omega⟩) (grw_lt h.lt (by omega))) hI1

/-- A log mended: what is answered, and what lies there. -/
def MendQ (kl kd : Nat) (l : Lg) (U : Nat → Prop) (rvs : Nat → AV) (H : Hp) (N : Nat) (x : Int × Dk × List Sg) (r : AV) (H' : Hp) (N' : Nat) : Prop := r = .i .i64 x.1 ∧ Frm U H N H' N' ∧ ∃ sv' ks', LX kl kd { l with segs := x.2.2 } x.2.1 (grw U N N') sv' ks' rvs H' N'
theorem c_mends (hK : big K) (hn : 6 ≤ n) (hI : d.Inv m) (hm : m ≤ 2 ^ 20) (hname : l.name.length ≤ 40) (hlen : l.segs.length ≤ 2 ^ 20) (hno : ∀ s ∈ l.segs, s.no < W64 ∧ s.recs.length ≤ 2 ^ 25) (h : LX kl kd l d U sv ks rvs H N) (hd lg : Bool) :
    Sp K n 35 [.ptr kl 0 0, .b hd, .b lg] H N (MendQ kl kd l U rvs H N (mendsL d l.name l.segs hd lg)) := by
  refine sp_cps fun Q hQ => ?_
  unfold MendQ at hQ
  obtain ⟨n, rfl⟩ : ∃ m, n = m + 1 := ⟨n - 1, by omega⟩
  refine sp_of rfl (run_wp Tryz.func35 rfl (by simp [Tryz.f35]) ?_)
  have ht := h.top
  have hsl := h.slen
  have hsm := h.smv
  by_cases h0 : l.segs = []
  · have hm0 : mendsL d l.name l.segs hd lg = ((syncsL l.name l.segs d).1, (syncsL l.name l.segs d).2, l.segs) := by
      unfold mendsL
      rw [h0]
      rfl
    have hl0 : l.segs.length = 0 := by rw [h0]; rfl
    have hl1 : ¬ 0 < l.segs.length := by omega
    simp [ht, hsm, lenA_sl, hsl, hl1]
    have FR : Frm U H N H (N + 1 + 6 + 2 + 6) := ⟨by omega, fun _ _ _ => rfl⟩
    have GU : ∀ j, U j → grw U N (N + 1 + 6 + 2 + 6) j := fun _ => .inl
    refine mends_loop (n := n) (l := l) hK (by omega) hI hname hlen (fun s hs => (hno s hs).1) (h.low (H' := H) (N' := N + 1 + 6 + 2 + 6) (fun _ _ => rfl) (by omega)) (fun H' N' g1 g2 g3 => ?_) (fun H' N' m' g1 g2 g3 g4 => ?_)
    · simp
      refine hQ _ _ _ ?_
      rw [hm0, syncsL_eq, if_pos g1]
      exact ⟨rfl, FR.weak GU g2, _, _, g3.widen (fun j hj => grw_sub GU FR.le g2.le hj) (grw_lt h.lt (by have := FR.le; have := g2.le; omega))⟩
    · simp [g3.top]
      have g3' := g3.low (H' := H') (N' := N' + 6) (fun _ _ => rfl) (by omega)
      refine (lx_syncNames (n := n) (by omega) g4 g3').cW ?_
      rintro _ H5 n5 ⟨rfl, L5, F5⟩
      simp
      refine hQ _ _ _ ?_
      have e1 := FR.le
      have e2 := g2.le
      have e3 := F5.le
      have G2 : ∀ j, grw U (N + 1 + 6 + 2 + 6) N' j → grw U N N' j := fun j hj => grw_sub GU FR.le g2.le hj
      have F6 := (FR.weak GU g2).weak G2 (⟨by omega, fun j hj hn => F5.out j (by omega) hn⟩ : Frm (grw U (N + 1 + 6 + 2 + 6) N') H' N' H5 n5)
      rw [hm0, syncsL_eq, if_neg (by simp [g1])]
      refine ⟨rfl, ⟨by omega, F6.out⟩, _, _, (L5.low (fun _ _ => rfl) (by omega)).widen (fun j hj => ?_) (grw_lt h.lt (by omega))⟩
      rcases hj with hj | hj
      · exact (G2 j hj).imp id fun e => ⟨e.1, by omega⟩
      · exact .inr ⟨by omega, by omega⟩
  · obtain ⟨q, hq⟩ : ∃ q, q = l.segs.length - 1 := ⟨_, rfl⟩
    have hpos : 0 < l.segs.length := List.length_pos_iff.2 h0
    obtain ⟨s, hs⟩ : ∃ s, l.segs[q]? = some s := ⟨_, List.getElem?_eq_getElem (by omega)⟩
    have hlast : l.segs.getLast? = some s := by rw [List.getLast?_eq_getElem?, ← hq]; exact hs
    have hsm2 := hno s (List.mem_of_getElem? hs)
    obtain ⟨k, a, g, j0, all, p1, rfl, p2, p3, p4, p5, p6, p7, p8, p9⟩ := h.at hs
    obtain ⟨r1, r2, r3⟩ := p9.sl
    have wq : IntKind.i64.wrap ((l.segs.length : Int) - 1) = (q : Nat) := by rw [wrap_i64 (by omega) (by omega)]; omega
    have cq : (q : Int) < l.segs.length := by omega
    obtain ⟨eb, heb⟩ : ∃ eb, eb = decide (s.recs.length = 0) := ⟨_, rfl⟩
    have q2 : ((s.recs.length : Int) == 0) = eb := by rw [heb, Bool.eq_iff_iff]; simp
    have cpos : (0 : Int) < l.segs.length := by omega
    simp [ht, lenA_sl, hpos, wq, cq, p2, p3]
    obtain ⟨X, hX⟩ : ∃ X, X = (hd || eb) := ⟨_, rfl⟩
    refine oW_cut (P := fun x => ∃ M', N ≤ M' ∧ x = (.normal, { env := [(0, .ptr kl 0 0), (2, .b lg), (7, .i .i64 (l.segs.length : Nat)), (8, .ptr k 0 0), (29, .b X)], loc := [], hp := H, nx := M' })) (fun Q2 hQ2 => ?_) ?_
    · cases hd with
      | true =>
        simp
        refine hQ2 _ ⟨_, ?_, by rw [hX]; rfl⟩
        omega
      | false =>
        simp [p7, lenA_sl, r1, r2, q2]
        refine hQ2 _ ⟨_, ?_, by rw [hX]; rfl⟩
        omega
    rintro _ ⟨M1, m1, rfl⟩
    have L1 := h.low (H' := H) (N' := M1) (fun _ _ => rfl) m1
    have hklt := h.kl_lt
    have hkk := h.lt k p8
    cases hXv : X with
    | true =>
      have hm1 : (hd || decide (s.recs.length = 0)) = true := by rw [← heb, ← hX]; exact hXv
      simp [ht, p7]
      refine (c_file hK (by omega) (H := H) hsm2.1 hname ht).cW ?_
      rintro _ H2 n2 ⟨rfl, e1, e2⟩
      have L2 := h.low (H' := H2) (N' := n2) (fun j hj => e2 j (by omega)) (by omega)
      have y1 : lk H2 kl = lk H kl := e2 kl (by omega)
      have y2 : lk H2 k = lk H k := e2 k (by omega)
      simp
      refine (lx_remove hK (by omega) hI (by omega) L2 (fileN l.name s.no)).cW ?_
      rintro _ H3 n3 ⟨rfl, L3, F3⟩
      have y3 : lk H3 kl = lk H2 kl := L3.top.trans L2.top.symm
      have y4 : lk H3 k = lk H2 k := (L3.sg p1 hs).trans (L2.sg p1 hs).symm
      have I3 := hI.remove (fileN l.name s.no)
      have F3' : Frm U H N H3 n3 := ⟨by have := F3.le; omega, fun j hj hn => (F3.out j (by omega) hn).trans (e2 j (by omega))⟩
      simp
      refine ⟨⟨by kernel_rfl, by simp [dynOk, pairsOk, befOf, Region.binds, Eff.apart, Eff.clear, Eff.wkeys, Ref.key, AV.refs0, List.range, List.range.loop, sameAt, y1, y2, y3, y4]⟩, ?_⟩
      by_cases he : (d.remove (fileN l.name s.no)).1 = 0
      · have hm0 : mendsL d l.name l.segs hd lg = ((syncsL l.name l.segs.dropLast (d.remove (fileN l.name s.no)).2).1, (syncsL l.name l.segs.dropLast (d.remove (fileN l.name s.no)).2).2, l.segs.dropLast) := by
          unfold mendsL
          rw [hlast]
          simp only
          rw [if_pos hm1, if_neg (by simp [he])]
        have t3 := L3.top
        obtain ⟨all3, f2, f3⟩ : ∃ all3, lk H3 a = some (g, .arr 1 all3) ∧ j0 + l.segs.length ≤ all3.length := by
          rcases L3.form with ⟨_, z, e⟩ | ⟨a', g', i0', all', e, f2, f3, _⟩
          · cases e
          · injection e with e1 e2 e3
            subst e1 e2 e3
            exact ⟨_, f2, f3⟩
        have cq2 : q ≤ l.segs.length := by omega
        simp [he, t3, lk_set, wq, f2, f3, cq2, lenA_sl]
        have hF := F3'.le
        have hkl3 := L3.kl_lt
        have LC : LX kl kd { l with segs := l.segs.dropLast } (d.remove (fileN l.name s.no)).2 (grw U n2 n3) (.rs a g j0 q 1) ((ks.take q).drop 0) rvs (up H3 kl (0, .cells [.ptr kd 0 0, .s (ba l.name), .i .i64 (l.size : Nat), .rs a g j0 q 1, .i .u64 (l.last : Nat), .i .u64 (l.fast : Nat)])) (n3 + 2 + 11 + 6) := by
          have := L3.cutTop (l' := { l with segs := l.segs.dropLast }) (lo := 0) (hi := q) (H' := up H3 kl (0, .cells [.ptr kd 0 0, .s (ba l.name), .i .i64 (l.size : Nat), .rs a g j0 q 1, .i .u64 (l.last : Nat), .i .u64 (l.fast : Nat)])) (N' := n3 + 2 + 11 + 6) rfl (by omega) (by omega) (by simp [List.dropLast_eq_take, hq]) (by simp [lk_set]) (fun j hj hjk => by simp [lk_set, hjk]) (by omega)
          simpa using this
        have FR : Frm U H N (up H3 kl (0, .cells [.ptr kd 0 0, .s (ba l.name), .i .i64 (l.size : Nat), .rs a g j0 q 1, .i .u64 (l.last : Nat), .i .u64 (l.fast : Nat)])) (n3 + 2 + 11 + 6) := ⟨by omega, fun j hj hn => by
          have : ¬ j = kl := fun e => hn (e ▸ h.klU)
          simp [lk_set, this]
          exact F3'.out j hj hn⟩
        have GU : ∀ j, grw U n2 n3 j → grw U N (n3 + 2 + 11 + 6) j := fun j hj => hj.imp id fun e => ⟨by omega, by omega⟩
        have hq2 : l.segs.dropLast.length = q := by simp [hq]
        rw [← hq2] at LC FR ⊢
        refine mends_loop (n := n) (l := { l with segs := l.segs.dropLast }) hK (by omega) I3 hname (by simp; omega) (fun s' hs' => (hno s' ((List.dropLast_sublist _).subset hs')).1) LC (fun H' N' g1 g2 g3 => ?_) (fun H' N' m' g1 g2 g3 g4 => ?_)
        · simp
          refine hQ _ _ _ ?_
          rw [hm0, syncsL_eq, if_pos g1]
          exact ⟨rfl, FR.weak GU g2, _, _, g3.widen (fun j hj => grw_sub GU FR.le g2.le hj) (grw_lt h.lt (by have := FR.le; have := g2.le; omega))⟩
        · simp [g3.top]
          have g3' := g3.low (H' := H') (N' := N' + 6) (fun _ _ => rfl) (by omega)
          refine (lx_syncNames (n := n) (by omega) g4 g3').cW ?_
          rintro _ H5 n5 ⟨rfl, L5, F5⟩
          simp
          refine hQ _ _ _ ?_
          have e1 := FR.le
          have e2 := g2.le
          have e3 := F5.le
          have G2 : ∀ j, grw (grw U n2 n3) (n3 + 2 + 11 + 6) N' j → grw U N N' j := fun j hj => grw_sub GU FR.le g2.le hj
          have F6 := (FR.weak GU g2).weak G2 (⟨by omega, fun j hj hn => F5.out j (by omega) hn⟩ : Frm (grw (grw U n2 n3) (n3 + 2 + 11 + 6) N') H' N' H5 n5)
          rw [hm0, syncsL_eq, if_neg (by simp [g1])]
          refine ⟨rfl, ⟨by omega, F6.out⟩, _, _, (L5.low (fun _ _ => rfl) (by omega)).widen (fun j hj => ?_) (grw_lt h.lt (by omega))⟩
          rcases hj with hj | hj
          · exact (G2 j hj).imp id fun e => ⟨e.1, by omega⟩
          · exact .inr ⟨by omega, by omega⟩
      · have hm0 : mendsL d l.name l.segs hd lg = ((d.remove (fileN l.name s.no)).1, (d.remove (fileN l.name s.no)).2, l.segs) := by
          unfold mendsL
          rw [hlast]
          simp only
          rw [if_pos hm1, if_pos he]
        have he2 : ((d.remove (fileN l.name s.no)).1 != 0) = true := by simpa using he
        simp [he, he2]
        refine hQ _ _ _ ?_
        rw [hm0]
        have hF := F3'.le
        exact ⟨rfl, ⟨by omega, F3'.out⟩, _, _, (L3.low (fun _ _ => rfl) (by omega)).widen (fun j hj => hj.imp id fun e => ⟨by omega, by omega⟩) (grw_lt h.lt (by omega))⟩
    | false =>
      have hm1 : ¬ (hd || decide (s.recs.length = 0)) = true := by rw [← heb, ← hX, hXv]; simp
      cases lg with
      | true =>
        simp [ht, p7]
        refine (c_file hK (by omega) (H := H) hsm2.1 hname ht).cW ?_
        rintro _ H2 n2 ⟨rfl, e1, e2⟩
        have L2 := h.low (H' := H2) (N' := n2) (fun j hj => e2 j (by omega)) (by omega)
        have y1 : lk H2 kl = lk H kl := e2 kl (by omega)
        have y2 : lk H2 k = lk H k := e2 k (by omega)
        simp [y2, p7]
        refine (lx_cut hK (by omega) hI L2 (fileN l.name s.no) (s.size : Nat)).cW ?_
        rintro _ H3 n3 ⟨rfl, L3, F3⟩
        have y3 : lk H3 kl = lk H2 kl := L3.top.trans L2.top.symm
        have y4 : lk H3 k = lk H2 k := (L3.sg p1 hs).trans (L2.sg p1 hs).symm
        have I3 := hI.cut (fileN l.name s.no) (s.size : Nat)
        have F3' : Frm U H N H3 n3 := ⟨by have := F3.le; omega, fun j hj hn => (F3.out j (by omega) hn).trans (e2 j (by omega))⟩
        have hF := F3'.le
        simp
        refine ⟨⟨by kernel_rfl, by simp [dynOk, pairsOk, befOf, Region.binds, Eff.apart, Eff.clear, Eff.wkeys, Ref.key, AV.refs0, List.range, List.range.loop, sameAt, y1, y2, y3, y4]⟩, ?_⟩
        by_cases he : (d.cut (fileN l.name s.no) (s.size : Nat)).1 = 0
        · have hm0 : mendsL d l.name l.segs hd true = ((syncsL l.name l.segs (d.cut (fileN l.name s.no) (s.size : Nat)).2).1, (syncsL l.name l.segs (d.cut (fileN l.name s.no) (s.size : Nat)).2).2, l.segs) := by
            unfold mendsL
            rw [hlast]
            simp only
            rw [if_neg hm1, if_pos trivial, if_neg (by simp [he])]
          have t3 := L3.top
          simp [he, t3, lenA_sl]
          have FR : Frm U H N H3 (n3 + 2 + 6) := ⟨by omega, F3'.out⟩
          have GU : ∀ j, grw U n2 n3 j → grw U N (n3 + 2 + 6) j := fun j hj => hj.imp id fun e => ⟨by omega, by omega⟩
          refine mends_loop (n := n) (l := l) hK (by omega) I3 hname hlen (fun s hs => (hno s hs).1) (L3.low (H' := H3) (N' := n3 + 2 + 6) (fun _ _ => rfl) (by omega)) (fun H' N' g1 g2 g3 => ?_) (fun H' N' m' g1 g2 g3 g4 => ?_)
          · simp
            refine hQ _ _ _ ?_
            rw [hm0, syncsL_eq, if_pos g1]
            exact ⟨rfl, FR.weak GU g2, _, _, g3.widen (fun j hj => grw_sub GU FR.le g2.le hj) (grw_lt h.lt (by have := FR.le; have := g2.le; omega))⟩
          · simp [g3.top]
            have g3' := g3.low (H' := H') (N' := N' + 6) (fun _ _ => rfl) (by omega)
            refine (lx_syncNames (n := n) (by omega) g4 g3').cW ?_
            rintro _ H5 n5 ⟨rfl, L5, F5⟩
            simp
            refine hQ _ _ _ ?_
            have e1 := FR.le
            have e2 := g2.le
            have e3 := F5.le
            have G2 : ∀ j, grw (grw U n2 n3) (n3 + 2 + 6) N' j → grw U N N' j := fun j hj => grw_sub GU FR.le g2.le hj
            have F6 := (FR.weak GU g2).weak G2 (⟨by omega, fun j hj hn => F5.out j (by omega) hn⟩ : Frm (grw (grw U n2 n3) (n3 + 2 + 6) N') H' N' H5 n5)
            rw [hm0, syncsL_eq, if_neg (by simp [g1])]
            refine ⟨rfl, ⟨by omega, F6.out⟩, _, _, (L5.low (fun _ _ => rfl) (by omega)).widen (fun j hj => ?_) (grw_lt h.lt (by omega))⟩
            rcases hj with hj | hj
            · exact (G2 j hj).imp id fun e => ⟨e.1, by omega⟩
            · exact .inr ⟨by omega, by omega⟩
        · have hm0 : mendsL d l.name l.segs hd true = ((d.cut (fileN l.name s.no) (s.size : Nat)).1, (d.cut (fileN l.name s.no) (s.size : Nat)).2, l.segs) := by
            unfold mendsL
            rw [hlast]
            simp only
            rw [if_neg hm1, if_pos trivial, if_pos he]
          have he2 : ((d.cut (fileN l.name s.no) (s.size : Nat)).1 != 0) = true := by simpa using he
          simp [he, he2]
          refine hQ _ _ _ ?_
          rw [hm0]
          exact ⟨rfl, ⟨by omega, F3'.out⟩, _, _, (L3.low (fun _ _ => rfl) (by omega)).widen (fun j hj => hj.imp id fun e => ⟨by omega, by omega⟩) (grw_lt h.lt (by omega))⟩
      | false =>
        have hm0 : mendsL d l.name l.segs hd false = ((syncsL l.name l.segs d).1, (syncsL l.name l.segs d).2, l.segs) := by
          unfold mendsL
          rw [hlast]
          simp only
          rw [if_neg hm1]
          rfl
        simp [ht, lenA_sl]
        have FR : Frm U H N H (M1 + 2 + 6) := ⟨by omega, fun _ _ _ => rfl⟩
        have GU : ∀ j, U j → grw U N (M1 + 2 + 6) j := fun _ => .inl
        refine mends_loop (n := n) (l := l) hK (by omega) hI hname hlen (fun s hs => (hno s hs).1) (h.low (H' := H) (N' := M1 + 2 + 6) (fun _ _ => rfl) (by omega)) (fun H' N' g1 g2 g3 => ?_) (fun H' N' m' g1 g2 g3 g4 => ?_)
        · simp
          refine hQ _ _ _ ?_
          rw [hm0, syncsL_eq, if_pos g1]
          exact ⟨rfl, FR.weak GU g2, _, _, g3.widen (fun j hj => grw_sub GU FR.le g2.le hj) (grw_lt h.lt (by have := FR.le; have := g2.le; omega))⟩
        · simp [g3.top]
          have g3' := g3.low (H' := H') (N' := N' + 6) (fun _ _ => rfl) (by omega)
          refine (lx_syncNames (n := n) (by omega) g4 g3').cW ?_
          rintro _ H5 n5 ⟨rfl, L5, F5⟩
          simp
          refine hQ _ _ _ ?_
          have e1 := FR.le
          have e2 := g2.le
          have e3 := F5.le
          have G2 : ∀ j, grw U (M1 + 2 + 6) N' j → grw U N N' j := fun j hj => grw_sub GU FR.le g2.le hj
          have F6 := (FR.weak GU g2).weak G2 (⟨by omega, fun j hj hn => F5.out j (by omega) hn⟩ : Frm (grw U (M1 + 2 + 6) N') H' N' H5 n5)
          rw [hm0, syncsL_eq, if_neg (by simp [g1])]
          refine ⟨rfl, ⟨by omega, F6.out⟩, _, _, (L5.low (fun _ _ => rfl) (by omega)).widen (fun j hj => ?_) (grw_lt h.lt (by omega))⟩
          rcases hj with hj | hj
          · exact (G2 j hj).imp id fun e => ⟨e.1, by omega⟩
          · exact .inr ⟨by omega, by omega⟩

end Ab
end Go.Proofs.YtmbbnoipoifhhaaGreatDoor

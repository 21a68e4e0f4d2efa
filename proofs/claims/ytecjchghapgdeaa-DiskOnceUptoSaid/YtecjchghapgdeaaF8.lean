/-
  DERIVED. The document's disk: Create.
  Conditions: enough rounds, enough depth; a disk of bounded size.
-/
import Derived.Test.YtecjchghapgdeaaG0
set_option linter.all false
set_option maxHeartbeats 4000000
namespace Go.Proofs.Ytecjchghapgdeaa
namespace Ab
set_option maxRecDepth 100000
set_option maxHeartbeats 8000000
set_option linter.all false
attribute [local simp] wp_regW opsW_nil opsW_cons opsK_eq regK_no regK_draw oW_n oW_h oW_r oW_pn appendA appRow newsA rowsSz rowsOf isIntD makeSliceA elemOf rowsBuilt eqA eq1

theorem c_dCreate {K n N0 : Nat} (hK : big K) (hn : 3 ≤ n) {d : Dk} {k : Nat} {hp : Hp} {nx : Nat} {S : Nat → Prop} (hI : d.Inv N0) (hN0 : N0 ≤ 2 ^ 20) (h : DRep hp nx k d S) (s : Bs) (hs : s.length ≤ 2 ^ 40) :
    Sp K n 39 [.ptr k 0 0, .s (ba s)] hp nx fun r hp' nx' => r = .i .i64 (d.create s).1 ∧ DRep hp' nx' k (d.create s).2 (grw S nx nx') ∧ nx ≤ nx' ∧ ∀ j, j < nx → j ≠ k → lk hp' j = lk hp j := by
  refine sp_cps fun Q hQ => ?_
  obtain ⟨n, rfl⟩ : ∃ m, n = m + 1 := ⟨n - 1, by omega⟩
  have hR := h
  obtain ⟨hS, fv, wv, fr, wr, h⟩ := h
  have hg := h.top
  have hc := c_dName (n := n) hK (by omega) s hs
  obtain ⟨a, b, hrow, h2, h3⟩ := h.nowv hI
  have hwl := h.wr.1
  have hnw := hI.nways
  have hnl := hI.nowlen
  obtain ⟨z, sz, hz, r1, f1⟩ := sv_frz h2 (nameRows_fl _)
  obtain ⟨z', sz', hz', r2, f2⟩ := sv_frz h3 (fiRows_fl _)
  have hf := c_dfind (n := n) hK (by omega) z z' sz sz' d.now hz hz' hI.nowlen s
  refine sp_of rfl (run_wp Try.func39 rfl (by simp [Try.f39]) ?_)
  cases hn : nameOk s with
  | false =>
    have hd : d.create s = (6, d) := by simp [Dk.create, hn]
    simp [hc, hn]
    refine hQ _ _ _ ?_
    rw [hd]
    exact ⟨rfl, hR.same (by omega), by omega, fun _ _ _ => rfl⟩
  | true =>
    simp [hc, hn]
    refine (c_dnow2 (by omega) hg h.ways (by omega) hrow h2.okc h3.okc).cW ?_
    rintro _ hp0 n1 ⟨rfl, g1, rfl⟩
    simp
    refine pn_use (by simp [f1, f2]) hf rfl fun rd => ?_
    cases hi : findW d.now s with
    | some i =>
      have hfi : findI d.now s = (i : Nat) := by unfold findI; rw [hi]
      have h0 : (0 : Int) ≤ ((i : Nat) : Int) := by omega
      have hd : d.create s = (41, d) := by simp [Dk.create, hn, hi]
      simp [hfi, h0]
      refine hQ _ _ _ ?_
      rw [hd]
      exact ⟨rfl, hR.same (by omega), by omega, fun _ _ _ => rfl⟩
    | none =>
      have hfi : findI d.now s = -1 := by unfold findI; rw [hi]
      simp [hfi]
      refine (c_dnow2 (by omega) hg h.ways (by omega) hrow h2.okc h3.okc).cW ?_
      rintro _ hp9 n2 ⟨rfl, g2, rfl⟩
      have hla := h2.len'
      by_cases hm : 64 ≤ d.now.length
      · have hd : d.create s = (43, d) := by simp [Dk.create, hn, hi, hm]
        have hm' : (64 : Int) ≤ d.now.length := by omega
        simp [lenA_sl, hla, hm']
        refine hQ _ _ _ ?_
        rw [hd]
        exact ⟨rfl, hR.same (by omega), by omega, fun _ _ _ => rfl⟩
      have hm' : ¬ (64 : Int) ≤ d.now.length := by omega
      simp [lenA_sl, hla, hm']
      refine (c_dstops (by omega) hI hg).cW ?_
      rintro _ hp1 n3 ⟨rfl, g3, ho⟩
      have hD := h.stopped ho
      have hk := hS k h.topS
      cases hsp : d.stops with
      | true =>
        have hd : d.create s = (44, d.stop1) := by simp [Dk.create, hn, hi, hm, Dk.goes, hsp]
        simp
        refine hQ _ _ _ ?_
        rw [hd]
        exact ⟨rfl, hD.rep hS (by omega), by omega, fun j _ hj => ho.ne hj⟩
      | false =>
        have hd : d.create s = (0, Dk.with { d.stop1 with files := d.stop1.files ++ [⟨[], 0⟩] } (insW d.stop1.now s d.stop1.files.length)) := by simp [Dk.create, hn, hi, hm, Dk.goes, hsp]
        have hg1 := hD.top
        have hI1 := hI.stop1
        have hnf := hI.nfiles
        have hfl := hD.fr.1
        simp at hfl
        have hS3 : ∀ j, S j → j < n3 := fun j hj => by have := hS j hj; omega
        have fk : ∀ c, ¬ k = n3 + c := fun c => by omega
        have fk' : ∀ c, ¬ n3 + c = k := fun c => by omega
        have d0 : fr.length * 33 ≤ 68719476736 := by omega
        have d1 : (fr.length + 1) * 33 ≤ 68719476736 := by omega
        have d2 : shown fr 0 fr.length = fr := shown_all rfl
        have hlow : ∀ j, j < nx → ∀ c, ¬ j = n3 + c := fun j hj c => by omega
        let d1' : Dk := { d.stop1 with files := d.stop1.files ++ [⟨[], 0⟩] }
        have hI2 : d1'.Inv (N0 + 1) := hI1.grows
        have hnl1 : d1'.now.length ≤ 64 := hI2.nowlen
        have wz : IntKind.i64.wrap 0 = 0 := wrap_i64 (by omega) (by omega)
        have wn : IntKind.i64.wrap (fr.length : Nat) = (fr.length : Nat) := wrap_i64 (by omega) (by omega)
        have hx : withX d1'.now s (fr.length : Nat) = insW d.stop1.now s d.stop1.files.length := by
          have : ¬ ((fr.length : Nat) : Int) < 0 := by omega
          simp only [withX, this, if_false]
          rw [Int.toNat_natCast, hfl]
          simp [d1', Dk.now]
        rcases hD.files with ⟨rfl, zf, rfl⟩ | ⟨kf, gf, if0, allf, rfl, l1, l2, l3, l4⟩
        · simp [hg1, lk_set, Nat.add_assoc, fk, fk', shown_nil, mostB, up_up]
          refine cW_at (fun H => DDk H k (.rs (n3 + 1) 1 0 1 2) wv [[.vs true 0 [], .i .i64 (0 : Nat)]] wr d1' (grw S n3 (n3 + 25)) ∧ ∀ j, j < n3 → j ≠ k → lk H j = lk hp1 j) ⟨file_end hD hS3 (by omega) (by simp [lk_set]) (by simp [lk_set, fk, fk']) (by omega) (by omega) fun j hj hjk => ?_, fun j hj hjk => ?_⟩ fun ⟨hE, hfrE⟩ => ?_
          · have : ∀ c, ¬ j = n3 + c := fun c => by omega
            simp [lk_set, hjk, this]
          · have : ∀ c, ¬ j = n3 + c := fun c => by omega
            simp [lk_set, hjk, this]
          obtain ⟨a, b, hrow, h2, h3⟩ := hE.nowv hI2
          refine (c_dnow2 (by omega) hE.top hE.ways (by omega) hrow h2.okc h3.okc).cW ?_
          rintro _ hp4 n4 ⟨rfl, g4, rfl⟩
          simp [hE.top, lenA_sl, wz, wn]
          have hS4 : ∀ j, grw S n3 (n3 + 25) j → j < n4 := fun j hj => by have := grw_lt hS3 (by omega) j hj; omega
          refine (c_dwith (S := grw S n3 (n3 + 25)) hK (by omega) hS4 h2 h3 hnl1 s 0 (by omega)).cW ?_
          rintro _ hp5 n5 ⟨g5, fr5, oa, ob, rfl, t5⟩
          simp [t5.ok1, t5.ok2]
          have hw5 : SV 2 hp5 (grw S n3 (n3 + 25)) wv wr := hE.ways.mono (fun j hj => fr5 j (hS4 j hj)) fun _ h => h
          refine (c_dchanges (by omega) k _ _ _ _ _ oa ob wr hp5 n5 (grw S n3 (n3 + 25)) (fun j hj => by have := hS4 j hj; omega) ((fr5 k (hS4 k hE.topS)).trans hE.top) hE.topS hw5 (fun e => by rw [e] at hwl; exact hI.ne (List.length_eq_zero_iff.1 hwl.symm)) (by omega) t5.ok1 t5.ok2 t5.mv1 t5.mv2).cW ?_
          rintro _ hp6 n6 ⟨wv', g6, top6, sv6, fr6⟩
          simp
          refine ⟨⟨by kernel_rfl, by simp [dynOk, pairsOk, befOf, Region.binds, Eff.apart, Eff.clear, Eff.wkeys, Ref.key, AV.refs0, List.range, List.range.loop]⟩, ?_⟩
          refine hQ _ _ _ ?_
          rw [hd]
          have hG := push_end hE hS4 g5 fr5 t5 g6 top6 sv6 fr6
          rw [show withX d1'.now s 0 = _ from hx] at hG
          refine ⟨rfl, ⟨grw_lt hS (by omega), _, _, _, _, hG.widen fun j hj => ?_⟩, by omega, fun j hj hjk => (fr6 j (by omega) hjk).trans ((fr5 j (by omega)).trans ((hfrE j (by omega) hjk).trans (ho.ne hjk)))⟩
          rcases hj with (hj | hj) | hj
          · exact .inl hj
          · exact .inr ⟨by omega, by omega⟩
          · exact .inr ⟨by omega, by omega⟩
        · have lf := hS3 kf l4
          have kfk : kf ≠ k := ne_of_lk l1 hg1 (by simp)
          have ff : ∀ c, ¬ kf = n3 + c := fun c => by omega
          have ff' : ∀ c, ¬ n3 + c = kf := fun c => by omega
          by_cases hne : fr = []
          · subst hne
            have l3' : if0 ≤ allf.length := by simpa using l3
            simp [hg1, lk_set, Nat.add_assoc, fk, fk', ff, ff', kfk, kfk.symm, l1, l3', shown_nil, mostB, up_up]
            refine cW_at (fun H => DDk H k (.rs (n3 + 1) 1 0 1 2) wv [[.vs true 0 [], .i .i64 (0 : Nat)]] wr d1' (grw S n3 (n3 + 25)) ∧ ∀ j, j < n3 → j ≠ k → lk H j = lk hp1 j) ⟨file_end hD hS3 (by omega) (by simp [lk_set]) (by simp [lk_set, fk, fk']) (by omega) (by omega) fun j hj hjk => ?_, fun j hj hjk => ?_⟩ fun ⟨hE, hfrE⟩ => ?_
            · have : ∀ c, ¬ j = n3 + c := fun c => by omega
              simp [lk_set, hjk, this]
            · have : ∀ c, ¬ j = n3 + c := fun c => by omega
              simp [lk_set, hjk, this]
            obtain ⟨a, b, hrow, h2, h3⟩ := hE.nowv hI2
            refine (c_dnow2 (by omega) hE.top hE.ways (by omega) hrow h2.okc h3.okc).cW ?_
            rintro _ hp4 n4 ⟨rfl, g4, rfl⟩
            simp [hE.top, lenA_sl, wz, wn]
            have hS4 : ∀ j, grw S n3 (n3 + 25) j → j < n4 := fun j hj => by have := grw_lt hS3 (by omega) j hj; omega
            refine (c_dwith (S := grw S n3 (n3 + 25)) hK (by omega) hS4 h2 h3 hnl1 s 0 (by omega)).cW ?_
            rintro _ hp5 n5 ⟨g5, fr5, oa, ob, rfl, t5⟩
            simp [t5.ok1, t5.ok2]
            have hw5 : SV 2 hp5 (grw S n3 (n3 + 25)) wv wr := hE.ways.mono (fun j hj => fr5 j (hS4 j hj)) fun _ h => h
            refine (c_dchanges (by omega) k _ _ _ _ _ oa ob wr hp5 n5 (grw S n3 (n3 + 25)) (fun j hj => by have := hS4 j hj; omega) ((fr5 k (hS4 k hE.topS)).trans hE.top) hE.topS hw5 (fun e => by rw [e] at hwl; exact hI.ne (List.length_eq_zero_iff.1 hwl.symm)) (by omega) t5.ok1 t5.ok2 t5.mv1 t5.mv2).cW ?_
            rintro _ hp6 n6 ⟨wv', g6, top6, sv6, fr6⟩
            simp
            refine ⟨⟨by kernel_rfl, by simp [dynOk, pairsOk, befOf, Region.binds, Eff.apart, Eff.clear, Eff.wkeys, Ref.key, AV.refs0, List.range, List.range.loop]⟩, ?_⟩
            refine hQ _ _ _ ?_
            rw [hd]
            have hG := push_end hE hS4 g5 fr5 t5 g6 top6 sv6 fr6
            rw [show withX d1'.now s 0 = _ from hx] at hG
            refine ⟨rfl, ⟨grw_lt hS (by omega), _, _, _, _, hG.widen fun j hj => ?_⟩, by omega, fun j hj hjk => (fr6 j (by omega) hjk).trans ((fr5 j (by omega)).trans ((hfrE j (by omega) hjk).trans (ho.ne hjk)))⟩
            rcases hj with (hj | hj) | hj
            · exact .inl hj
            · exact .inr ⟨by omega, by omega⟩
            · exact .inr ⟨by omega, by omega⟩
          have hne' : ¬ fr.length = 0 := by simpa using hne
          simp [hg1, lk_set, Nat.add_assoc, fk, fk', ff, ff', kfk, kfk.symm, l1, l2, l3, d0, d1, d2, hne, shown_nil, mostB, up_up]
          refine cW_at (fun H => DDk H k (.rs (n3 + 1) 2 0 (fr.length + 1) 2) wv (fr ++ [[.vs true 0 [], .i .i64 (0 : Nat)]]) wr d1' (grw S n3 (n3 + 25)) ∧ ∀ j, j < n3 → j ≠ k → lk H j = lk hp1 j) ⟨file_end hD hS3 (by omega) (by simp [lk_set]) (by simp [lk_set, fk, fk']) (by omega) (by omega) fun j hj hjk => ?_, fun j hj hjk => ?_⟩ fun ⟨hE, hfrE⟩ => ?_
          · have : ∀ c, ¬ j = n3 + c := fun c => by omega
            simp [lk_set, hjk, this]
          · have : ∀ c, ¬ j = n3 + c := fun c => by omega
            simp [lk_set, hjk, this]
          obtain ⟨a, b, hrow, h2, h3⟩ := hE.nowv hI2
          refine (c_dnow2 (by omega) hE.top hE.ways (by omega) hrow h2.okc h3.okc).cW ?_
          rintro _ hp4 n4 ⟨rfl, g4, rfl⟩
          simp [hE.top, lenA_sl, wz, wn]
          have hS4 : ∀ j, grw S n3 (n3 + 25) j → j < n4 := fun j hj => by have := grw_lt hS3 (by omega) j hj; omega
          refine (c_dwith (S := grw S n3 (n3 + 25)) hK (by omega) hS4 h2 h3 hnl1 s (fr.length : Nat) (by omega)).cW ?_
          rintro _ hp5 n5 ⟨g5, fr5, oa, ob, rfl, t5⟩
          simp [t5.ok1, t5.ok2]
          have hw5 : SV 2 hp5 (grw S n3 (n3 + 25)) wv wr := hE.ways.mono (fun j hj => fr5 j (hS4 j hj)) fun _ h => h
          refine (c_dchanges (by omega) k _ _ _ _ _ oa ob wr hp5 n5 (grw S n3 (n3 + 25)) (fun j hj => by have := hS4 j hj; omega) ((fr5 k (hS4 k hE.topS)).trans hE.top) hE.topS hw5 (fun e => by rw [e] at hwl; exact hI.ne (List.length_eq_zero_iff.1 hwl.symm)) (by omega) t5.ok1 t5.ok2 t5.mv1 t5.mv2).cW ?_
          rintro _ hp6 n6 ⟨wv', g6, top6, sv6, fr6⟩
          simp
          refine ⟨⟨by kernel_rfl, by simp [dynOk, pairsOk, befOf, Region.binds, Eff.apart, Eff.clear, Eff.wkeys, Ref.key, AV.refs0, List.range, List.range.loop]⟩, ?_⟩
          refine hQ _ _ _ ?_
          rw [hd]
          have hG := push_end hE hS4 g5 fr5 t5 g6 top6 sv6 fr6
          rw [hx] at hG
          refine ⟨rfl, ⟨grw_lt hS (by omega), _, _, _, _, hG.widen fun j hj => ?_⟩, by omega, fun j hj hjk => (fr6 j (by omega) hjk).trans ((fr5 j (by omega)).trans ((hfrE j (by omega) hjk).trans (ho.ne hjk)))⟩
          rcases hj with (hj | hj) | hj
          · exact .inl hj
          · exact .inr ⟨by omega, by omega⟩
          · exact .inr ⟨by omega, by omega⟩

end Ab
end Go.Proofs.Ytecjchghapgdeaa

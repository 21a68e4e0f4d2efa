/-
  DERIVED. The document's disk: Append.
  Conditions: enough rounds, enough depth; a disk of bounded size.
-/
import Derived.Test.YtecjchghapgdeaaG4
set_option linter.all false
set_option maxHeartbeats 4000000
namespace Go.Proofs.Ytecjchghapgdeaa
namespace Ab
set_option maxRecDepth 100000
set_option maxHeartbeats 8000000
set_option linter.all false
attribute [local simp] wp_regW opsW_nil opsW_cons opsK_eq regK_no regK_draw oW_n oW_h oW_r oW_pn appendA appRow newsA rowsSz rowsOf isIntD makeSliceA elemOf rowsBuilt eqA eq1

theorem c_dAppend {K n N0 : Nat} (hK : big K) (hn : 4 ≤ n) {d : Dk} {k : Nat} {hp : Hp} {nx : Nat} {S : Nat → Prop} (hI : d.Inv N0) (hN0 : N0 ≤ 2 ^ 20) (h : DRep hp nx k d S) (s : Bs) (hs : s.length ≤ 2 ^ 40) (z : Bool) (b : Bs) (hz : z = true → b = []) (hbl : b.length ≤ 2 ^ 30) :
    Sp K n 42 [.ptr k 0 0, .s (ba s), .vs z 1 (byteRows b)] hp nx fun r hp' nx' => r = .i .i64 (d.append s b).1 ∧ DEnd k hp nx S (d.append s b).2 hp' nx' := by
  refine sp_cps fun Q hQ => ?_
  obtain ⟨n, rfl⟩ : ∃ m, n = m + 1 := ⟨n - 1, by omega⟩
  have hR := h
  obtain ⟨hS, fv, wv, fr, wr, h⟩ := h
  have hg := h.top
  have hnl := hI.nfiles
  refine sp_of rfl (run_wp Try.func42 rfl (by simp [Try.f42]) ?_)
  simp
  refine (c_dat hK (by omega) hI (by omega) h s hs).cW ?_
  rintro _ hp0 n1 ⟨rfl, rfl, g1⟩
  cases hn : nameOk s with
  | false =>
    have hd : d.append s b = (6, d) := by simp [Dk.append, Dk.at, hn]
    simp [datR, hn]
    refine hQ _ _ _ ?_
    rw [hd]
    exact ⟨rfl, hR.same (by omega), by omega, fun _ _ _ => rfl⟩
  | true =>
    cases hi : findW d.now s with
    | none =>
      have hd : d.append s b = (40, d) := by simp [Dk.append, Dk.at, hn, hi]
      simp [datR, hn, hi]
      refine hQ _ _ _ ?_
      rw [hd]
      exact ⟨rfl, hR.same (by omega), by omega, fun _ _ _ => rfl⟩
    | some i =>
      have hil := (hI.found hi).2
      obtain ⟨kf, g, i0, all, v, rfl, e2, e3, e4, e5, e6⟩ := file_at (N := N0) h (i := i) hil
      have ci : ((i : Nat) : Int) < d.files.length := by omega
      have hfi := hI.filelen (i := i)
      have hus := hI.used
      have hqu := hI.quota
      simp [datR, hn, hi]
      by_cases hq0 : (d.quota : Int) < b.length
      · have hd : d.append s b = (42, d) := by
          have : d.quota < d.used + b.length := by omega
          simp [Dk.append, Dk.at, hn, hi, this]
        simp [hg, lenA_sl, hq0]
        refine ⟨⟨by kernel_rfl, by simp [dynOk, pairsOk, befOf, Region.binds, Eff.apart, Eff.clear, Eff.wkeys, Ref.key, AV.refs0, List.range, List.range.loop]⟩, ?_⟩
        refine hQ _ _ _ ?_
        rw [hd]
        exact ⟨rfl, hR.same (by omega), by omega, fun _ _ _ => rfl⟩
      simp [hg, lenA_sl, hq0]
      refine (c_dUsed hK (by omega) hI (by omega) h).cW ?_
      rintro _ hp9 n2 ⟨rfl, rfl, g2⟩
      have w1 : IntKind.i64.wrap ((d.quota : Int) - b.length) = ((d.quota - b.length : Nat) : Int) := by rw [wrap_i64 (by omega) (by omega)]; omega
      by_cases hq1 : d.quota - b.length < d.used
      · have hd : d.append s b = (42, d) := by
          have : d.quota < d.used + b.length := by omega
          simp [Dk.append, Dk.at, hn, hi, this]
        simp [hg, lenA_sl, w1, hq1]
        refine ⟨⟨by kernel_rfl, by simp [dynOk, pairsOk, befOf, Region.binds, Eff.apart, Eff.clear, Eff.wkeys, Ref.key, AV.refs0, List.range, List.range.loop]⟩, ?_⟩
        refine hQ _ _ _ ?_
        rw [hd]
        exact ⟨rfl, hR.same (by omega), by omega, fun _ _ _ => rfl⟩
      have hq : ¬ d.quota < d.used + b.length := by omega
      simp [hg, lenA_sl, w1, hq1]
      refine ⟨⟨by kernel_rfl, by simp [dynOk, pairsOk, befOf, Region.binds, Eff.apart, Eff.clear, Eff.wkeys, Ref.key, AV.refs0, List.range, List.range.loop]⟩, ?_⟩
      refine (c_dstops (by omega) hI hg).cW ?_
      rintro _ hp1 n3 ⟨rfl, g3, ho⟩
      have hD := h.stopped ho
      have hg1 := hD.top
      have hfl : fr.length = d.files.length := by have := hD.nfl; simpa using this
      have hS3 : ∀ j, S j → j < n3 := fun j hj => by have := hS j hj; omega
      have e4' : SV 1 hp1 S v (byteRows (d.file i).b) := e4.of hg (fun j hj hjk => ho.ne hjk) fun _ h => h
      have k3 := hS3 k h.topS
      have e2' : lk hp1 kf = some (g, .arr 2 all) := (ho.ne (ne_of_lk e2 hg (by simp))).trans e2
      have kfk : kf ≠ k := ne_of_lk e2 hg (by simp)
      have lkf := hS3 kf e5
      have fk : ∀ c, ¬ k = n3 + c := fun c => by omega
      have fk' : ∀ c, ¬ n3 + c = k := fun c => by omega
      have ff : ∀ c, ¬ kf = n3 + c := fun c => by omega
      have ff' : ∀ c, ¬ n3 + c = kf := fun c => by omega
      cases hdd : d.dead with
      | true =>
        have hsp : d.stops = true := by simp [Dk.stops, hdd]
        have h1 : d.stop1 = d := by simp [Dk.stop1, hdd]
        have hd : d.append s b = (44, d) := by simp [Dk.append, Dk.at, hn, hi, hq, hdd]
        simp [hsp]
        refine hQ _ _ _ ?_
        rw [hd]
        rw [h1] at hD
        exact ⟨rfl, hD.rep hS (by omega), by omega, fun j _ hj => ho.ne hj⟩
      | false =>
        have hsz : (d.file i).b.length * 2 ≤ 68719476736 := by omega
        have hsh : shown (byteRows (d.file i).b) 0 (d.file i).b.length = byteRows (d.file i).b := shown_all (by simp)
        have byteRows_nil : byteRows [] = [] := rfl
        have wz : IntKind.i64.wrap 0 = 0 := wrap_i64 (by omega) (by omega)
        by_cases hl1 : d.left = 1
        · have hsp : d.stops = true := by simp [Dk.stops, hl1]
          obtain ⟨bb, hbb⟩ : ∃ bb, bb = b.take (b.length / 2) := ⟨_, rfl⟩
          have hd : d.append s b = (44, d.stop1.setF i ⟨(d.file i).b ++ bb, (d.file i).fast⟩) := by simp [Dk.append, Dk.at, hn, hi, hq, hdd, hl1, Dk.put, hbb]
          have hbbl : bb.length ≤ b.length := by rw [hbb]; exact List.length_take_le' _ _
          have hsz2 : bb.length * 2 ≤ 68719476736 := by omega
          have hsz3 : ((d.file i).b.length + bb.length) * 2 ≤ 68719476736 := by omega
          have hh1 : IntKind.i64.wrap ((b.length : Int) / 2) = (b.length : Int) / 2 := wrap_i64 (by omega) (by omega)
          have hh2 : (0 : Int) ≤ (b.length : Int) / 2 := by omega
          have hh3 : ((b.length : Int) / 2).toNat = b.length / 2 := by omega
          have hhc : b.length / 2 ≤ b.length := Nat.div_le_self _ _
          have hhr : (byteRows b).take (b.length / 2) = byteRows bb := by rw [hbb, byteRows_take]
          cases z with
          | true =>
            obtain rfl := hz rfl
            obtain rfl : bb = [] := by simpa using hbb
            rcases e4' with ⟨hb0, zv, rfl⟩ | ⟨kv, gv, jv, allv, rfl, l1, l2, l3, l4⟩
            · have hb : (d.file i).b = [] := by simpa [byteRows] using hb0
              simp [hg1, e2', e3, ci, lk_set, Nat.add_assoc, fk, fk', ff, ff', kfk, kfk.symm, mostB, up_up, shown_nil, hsz, hsz2, hsz3, lenA_sl, hsp, hdd, e4.okc, wz, hh1, hh2, hh3, hhc, hhr, hb, byteRows_nil]
              refine cW_at (fun H => (∀ j, j < n3 → lk H j = lk hp1 j) ∧ SV 1 H (fun j => n3 ≤ j ∧ j < n3 + 20) (.rs (n3 + 19) 0 0 0 1) (byteRows ((d.file i).b ++ []))) ⟨(by first | exact low_up low_refl (by omega) | exact low_up (low_up low_refl (by omega)) (by omega) | exact low_up (low_up (low_up low_refl (by omega)) (by omega)) (by omega)), .inr ⟨n3 + 19, 0, 0, byteRows ((d.file i).b ++ []), by simp [hb], by simp [lk_set, hb, byteRows_app, byteRows_nil], by rw [List.drop_zero]; exact List.take_length, by simp, by omega, by omega⟩⟩ fun ⟨hl, hv⟩ => ?_
              have hD' := hD.low hS3 hl
              refine (c_dset (by omega) k _ _ _ _ _ (.rs (n3 + 19) 0 0 0 1) _ fr i _ _ S (fun j hj => by have := hS3 j hj; omega) hD'.top h.topS hD'.files (by omega) hD.rows2 (by omega) rfl rfl).cW ?_
              rintro _ hp2 n4 ⟨fv', g4, top4, sv4, fr4⟩
              simp
              refine ⟨⟨by kernel_rfl, by simp [dynOk, pairsOk, befOf, Region.binds, Eff.apart, Eff.clear, Eff.wkeys, Ref.key, AV.refs0, List.range, List.range.loop]⟩, ?_⟩
              refine hQ _ _ _ ?_
              rw [hd]
              exact ⟨rfl, set_rep hD' hS (by omega) g4 (by omega) top4 sv4 fr4 (hv.mono (fun j hj => fr4 j (by omega) (by omega)) fun j hj => .inr ⟨by omega, by omega⟩), by omega, fun j hj hjk => (fr4 j (by omega) hjk).trans ((hl j (by omega)).trans (ho.ne hjk))⟩
            · have lf := hS3 kv l4
              have kvk : kv ≠ k := ne_of_lk l1 hg1 (by simp)
              have fv1 : ∀ c, ¬ kv = n3 + c := fun c => by omega
              have fv1' : ∀ c, ¬ n3 + c = kv := fun c => by omega
              have l3' : jv + (d.file i).b.length ≤ allv.length := by simpa using l3
              have l2' : (allv.drop jv).take (d.file i).b.length = byteRows (d.file i).b := by simpa using l2
              by_cases hb : (d.file i).b = []
              · have l6 : jv ≤ allv.length := by omega
                simp [hg1, e2', e3, ci, lk_set, Nat.add_assoc, fk, fk', ff, ff', kfk, kfk.symm, mostB, up_up, shown_nil, hsz, hsz2, hsz3, lenA_sl, hsp, hdd, e4.okc, wz, hh1, hh2, hh3, hhc, hhr, l1, l6, fv1, fv1', kvk, kvk.symm, hb, byteRows_nil]
                refine cW_at (fun H => (∀ j, j < n3 → lk H j = lk hp1 j) ∧ SV 1 H (fun j => n3 ≤ j ∧ j < n3 + 20) (.rs (n3 + 19) 0 0 0 1) (byteRows ((d.file i).b ++ []))) ⟨(by first | exact low_up low_refl (by omega) | exact low_up (low_up low_refl (by omega)) (by omega) | exact low_up (low_up (low_up low_refl (by omega)) (by omega)) (by omega)), .inr ⟨n3 + 19, 0, 0, byteRows ((d.file i).b ++ []), by simp [hb], by simp [lk_set, hb, byteRows_app, byteRows_nil], by rw [List.drop_zero]; exact List.take_length, by simp, by omega, by omega⟩⟩ fun ⟨hl, hv⟩ => ?_
                have hD' := hD.low hS3 hl
                refine (c_dset (by omega) k _ _ _ _ _ (.rs (n3 + 19) 0 0 0 1) _ fr i _ _ S (fun j hj => by have := hS3 j hj; omega) hD'.top h.topS hD'.files (by omega) hD.rows2 (by omega) rfl rfl).cW ?_
                rintro _ hp2 n4 ⟨fv', g4, top4, sv4, fr4⟩
                simp
                refine ⟨⟨by kernel_rfl, by simp [dynOk, pairsOk, befOf, Region.binds, Eff.apart, Eff.clear, Eff.wkeys, Ref.key, AV.refs0, List.range, List.range.loop]⟩, ?_⟩
                refine hQ _ _ _ ?_
                rw [hd]
                exact ⟨rfl, set_rep hD' hS (by omega) g4 (by omega) top4 sv4 fr4 (hv.mono (fun j hj => fr4 j (by omega) (by omega)) fun j hj => .inr ⟨by omega, by omega⟩), by omega, fun j hj hjk => (fr4 j (by omega) hjk).trans ((hl j (by omega)).trans (ho.ne hjk))⟩
              · have hb2 : byteRows (d.file i).b ≠ [] := fun e => hb (by simpa [byteRows] using e)
                simp [hg1, e2', e3, ci, lk_set, Nat.add_assoc, fk, fk', ff, ff', kfk, kfk.symm, mostB, up_up, shown_nil, hsz, hsz2, hsz3, lenA_sl, hsp, hdd, e4.okc, wz, hh1, hh2, hh3, hhc, hhr, l1, l2', l3', fv1, fv1', kvk, kvk.symm, hb2, hsh, hb]
                refine cW_at (fun H => (∀ j, j < n3 → lk H j = lk hp1 j) ∧ SV 1 H (fun j => n3 ≤ j ∧ j < n3 + 20) (.rs (n3 + 19) 1 0 (d.file i).b.length 1) (byteRows ((d.file i).b ++ []))) ⟨(by first | exact low_up low_refl (by omega) | exact low_up (low_up low_refl (by omega)) (by omega) | exact low_up (low_up (low_up low_refl (by omega)) (by omega)) (by omega)), .inr ⟨n3 + 19, 1, 0, byteRows ((d.file i).b ++ []), by simp [hb], by simp [lk_set, hb, byteRows_app, byteRows_nil], by rw [List.drop_zero]; exact List.take_length, by simp, by omega, by omega⟩⟩ fun ⟨hl, hv⟩ => ?_
                have hD' := hD.low hS3 hl
                refine (c_dset (by omega) k _ _ _ _ _ (.rs (n3 + 19) 1 0 (d.file i).b.length 1) _ fr i _ _ S (fun j hj => by have := hS3 j hj; omega) hD'.top h.topS hD'.files (by omega) hD.rows2 (by omega) rfl rfl).cW ?_
                rintro _ hp2 n4 ⟨fv', g4, top4, sv4, fr4⟩
                simp
                refine ⟨⟨by kernel_rfl, by simp [dynOk, pairsOk, befOf, Region.binds, Eff.apart, Eff.clear, Eff.wkeys, Ref.key, AV.refs0, List.range, List.range.loop]⟩, ?_⟩
                refine hQ _ _ _ ?_
                rw [hd]
                exact ⟨rfl, set_rep hD' hS (by omega) g4 (by omega) top4 sv4 fr4 (hv.mono (fun j hj => fr4 j (by omega) (by omega)) fun j hj => .inr ⟨by omega, by omega⟩), by omega, fun j hj hjk => (fr4 j (by omega) hjk).trans ((hl j (by omega)).trans (ho.ne hjk))⟩
          | false =>
            by_cases hbe : bb = []
            · subst hbe
              rcases e4' with ⟨hb0, zv, rfl⟩ | ⟨kv, gv, jv, allv, rfl, l1, l2, l3, l4⟩
              · have hb : (d.file i).b = [] := by simpa [byteRows] using hb0
                simp [hg1, e2', e3, ci, lk_set, Nat.add_assoc, fk, fk', ff, ff', kfk, kfk.symm, mostB, up_up, shown_nil, hsz, hsz2, hsz3, lenA_sl, hsp, hdd, e4.okc, wz, byteRows_nil, hh1, hh2, hh3, hhc, hhr, hb, byteRows_nil]
                refine cW_at (fun H => (∀ j, j < n3 → lk H j = lk hp1 j) ∧ SV 1 H (fun j => n3 ≤ j ∧ j < n3 + 20) (.rs (n3 + 19) 0 0 0 1) (byteRows ((d.file i).b ++ []))) ⟨(by first | exact low_up low_refl (by omega) | exact low_up (low_up low_refl (by omega)) (by omega) | exact low_up (low_up (low_up low_refl (by omega)) (by omega)) (by omega)), .inr ⟨n3 + 19, 0, 0, byteRows ((d.file i).b ++ []), by simp [hb], by simp [lk_set, hb, byteRows_app, byteRows_nil], by rw [List.drop_zero]; exact List.take_length, by simp, by omega, by omega⟩⟩ fun ⟨hl, hv⟩ => ?_
                have hD' := hD.low hS3 hl
                refine (c_dset (by omega) k _ _ _ _ _ (.rs (n3 + 19) 0 0 0 1) _ fr i _ _ S (fun j hj => by have := hS3 j hj; omega) hD'.top h.topS hD'.files (by omega) hD.rows2 (by omega) rfl rfl).cW ?_
                rintro _ hp2 n4 ⟨fv', g4, top4, sv4, fr4⟩
                simp
                refine ⟨⟨by kernel_rfl, by simp [dynOk, pairsOk, befOf, Region.binds, Eff.apart, Eff.clear, Eff.wkeys, Ref.key, AV.refs0, List.range, List.range.loop]⟩, ?_⟩
                refine hQ _ _ _ ?_
                rw [hd]
                exact ⟨rfl, set_rep hD' hS (by omega) g4 (by omega) top4 sv4 fr4 (hv.mono (fun j hj => fr4 j (by omega) (by omega)) fun j hj => .inr ⟨by omega, by omega⟩), by omega, fun j hj hjk => (fr4 j (by omega) hjk).trans ((hl j (by omega)).trans (ho.ne hjk))⟩
              · have lf := hS3 kv l4
                have kvk : kv ≠ k := ne_of_lk l1 hg1 (by simp)
                have fv1 : ∀ c, ¬ kv = n3 + c := fun c => by omega
                have fv1' : ∀ c, ¬ n3 + c = kv := fun c => by omega
                have l3' : jv + (d.file i).b.length ≤ allv.length := by simpa using l3
                have l2' : (allv.drop jv).take (d.file i).b.length = byteRows (d.file i).b := by simpa using l2
                by_cases hb : (d.file i).b = []
                · have l6 : jv ≤ allv.length := by omega
                  simp [hg1, e2', e3, ci, lk_set, Nat.add_assoc, fk, fk', ff, ff', kfk, kfk.symm, mostB, up_up, shown_nil, hsz, hsz2, hsz3, lenA_sl, hsp, hdd, e4.okc, wz, byteRows_nil, hh1, hh2, hh3, hhc, hhr, l1, l6, fv1, fv1', kvk, kvk.symm, hb, byteRows_nil]
                  refine cW_at (fun H => (∀ j, j < n3 → lk H j = lk hp1 j) ∧ SV 1 H (fun j => n3 ≤ j ∧ j < n3 + 20) (.rs (n3 + 19) 0 0 0 1) (byteRows ((d.file i).b ++ []))) ⟨(by first | exact low_up low_refl (by omega) | exact low_up (low_up low_refl (by omega)) (by omega) | exact low_up (low_up (low_up low_refl (by omega)) (by omega)) (by omega)), .inr ⟨n3 + 19, 0, 0, byteRows ((d.file i).b ++ []), by simp [hb], by simp [lk_set, hb, byteRows_app, byteRows_nil], by rw [List.drop_zero]; exact List.take_length, by simp, by omega, by omega⟩⟩ fun ⟨hl, hv⟩ => ?_
                  have hD' := hD.low hS3 hl
                  refine (c_dset (by omega) k _ _ _ _ _ (.rs (n3 + 19) 0 0 0 1) _ fr i _ _ S (fun j hj => by have := hS3 j hj; omega) hD'.top h.topS hD'.files (by omega) hD.rows2 (by omega) rfl rfl).cW ?_
                  rintro _ hp2 n4 ⟨fv', g4, top4, sv4, fr4⟩
                  simp
                  refine ⟨⟨by kernel_rfl, by simp [dynOk, pairsOk, befOf, Region.binds, Eff.apart, Eff.clear, Eff.wkeys, Ref.key, AV.refs0, List.range, List.range.loop]⟩, ?_⟩
                  refine hQ _ _ _ ?_
                  rw [hd]
                  exact ⟨rfl, set_rep hD' hS (by omega) g4 (by omega) top4 sv4 fr4 (hv.mono (fun j hj => fr4 j (by omega) (by omega)) fun j hj => .inr ⟨by omega, by omega⟩), by omega, fun j hj hjk => (fr4 j (by omega) hjk).trans ((hl j (by omega)).trans (ho.ne hjk))⟩
                · have hb2 : byteRows (d.file i).b ≠ [] := fun e => hb (by simpa [byteRows] using e)
                  simp [hg1, e2', e3, ci, lk_set, Nat.add_assoc, fk, fk', ff, ff', kfk, kfk.symm, mostB, up_up, shown_nil, hsz, hsz2, hsz3, lenA_sl, hsp, hdd, e4.okc, wz, byteRows_nil, hh1, hh2, hh3, hhc, hhr, l1, l2', l3', fv1, fv1', kvk, kvk.symm, hb2, hsh, hb]
                  refine cW_at (fun H => (∀ j, j < n3 → lk H j = lk hp1 j) ∧ SV 1 H (fun j => n3 ≤ j ∧ j < n3 + 20) (.rs (n3 + 19) 1 0 (d.file i).b.length 1) (byteRows ((d.file i).b ++ []))) ⟨(by first | exact low_up low_refl (by omega) | exact low_up (low_up low_refl (by omega)) (by omega) | exact low_up (low_up (low_up low_refl (by omega)) (by omega)) (by omega)), .inr ⟨n3 + 19, 1, 0, byteRows ((d.file i).b ++ []), by simp [hb], by simp [lk_set, hb, byteRows_app, byteRows_nil], by rw [List.drop_zero]; exact List.take_length, by simp, by omega, by omega⟩⟩ fun ⟨hl, hv⟩ => ?_
                  have hD' := hD.low hS3 hl
                  refine (c_dset (by omega) k _ _ _ _ _ (.rs (n3 + 19) 1 0 (d.file i).b.length 1) _ fr i _ _ S (fun j hj => by have := hS3 j hj; omega) hD'.top h.topS hD'.files (by omega) hD.rows2 (by omega) rfl rfl).cW ?_
                  rintro _ hp2 n4 ⟨fv', g4, top4, sv4, fr4⟩
                  simp
                  refine ⟨⟨by kernel_rfl, by simp [dynOk, pairsOk, befOf, Region.binds, Eff.apart, Eff.clear, Eff.wkeys, Ref.key, AV.refs0, List.range, List.range.loop]⟩, ?_⟩
                  refine hQ _ _ _ ?_
                  rw [hd]
                  exact ⟨rfl, set_rep hD' hS (by omega) g4 (by omega) top4 sv4 fr4 (hv.mono (fun j hj => fr4 j (by omega) (by omega)) fun j hj => .inr ⟨by omega, by omega⟩), by omega, fun j hj hjk => (fr4 j (by omega) hjk).trans ((hl j (by omega)).trans (ho.ne hjk))⟩
            · have hbe2 : byteRows bb ≠ [] := fun e => hbe (by simpa [byteRows] using e)
              have hbl3 : ¬ bb.length = 0 := fun e => hbe (List.length_eq_zero_iff.1 e)
              rcases e4' with ⟨hb0, zv, rfl⟩ | ⟨kv, gv, jv, allv, rfl, l1, l2, l3, l4⟩
              · have hb : (d.file i).b = [] := by simpa [byteRows] using hb0
                simp [hg1, e2', e3, ci, lk_set, Nat.add_assoc, fk, fk', ff, ff', kfk, kfk.symm, mostB, up_up, shown_nil, hsz, hsz2, hsz3, lenA_sl, hsp, hdd, e4.okc, wz, hbe, hbe2, hbl3, hh1, hh2, hh3, hhc, hhr, hb, byteRows_nil]
                refine cW_at (fun H => (∀ j, j < n3 → lk H j = lk hp1 j) ∧ SV 1 H (fun j => n3 ≤ j ∧ j < n3 + 20) (.rs (n3 + 19) 1 0 bb.length 1) (byteRows ((d.file i).b ++ bb))) ⟨(by first | exact low_up low_refl (by omega) | exact low_up (low_up low_refl (by omega)) (by omega) | exact low_up (low_up (low_up low_refl (by omega)) (by omega)) (by omega)), .inr ⟨n3 + 19, 1, 0, byteRows ((d.file i).b ++ bb), by simp [hb], by simp [lk_set, hb, byteRows_app, byteRows_nil], by rw [List.drop_zero]; exact List.take_length, by simp, by omega, by omega⟩⟩ fun ⟨hl, hv⟩ => ?_
                have hD' := hD.low hS3 hl
                refine (c_dset (by omega) k _ _ _ _ _ (.rs (n3 + 19) 1 0 bb.length 1) _ fr i _ _ S (fun j hj => by have := hS3 j hj; omega) hD'.top h.topS hD'.files (by omega) hD.rows2 (by omega) rfl rfl).cW ?_
                rintro _ hp2 n4 ⟨fv', g4, top4, sv4, fr4⟩
                simp
                refine ⟨⟨by kernel_rfl, by simp [dynOk, pairsOk, befOf, Region.binds, Eff.apart, Eff.clear, Eff.wkeys, Ref.key, AV.refs0, List.range, List.range.loop]⟩, ?_⟩
                refine hQ _ _ _ ?_
                rw [hd]
                exact ⟨rfl, set_rep hD' hS (by omega) g4 (by omega) top4 sv4 fr4 (hv.mono (fun j hj => fr4 j (by omega) (by omega)) fun j hj => .inr ⟨by omega, by omega⟩), by omega, fun j hj hjk => (fr4 j (by omega) hjk).trans ((hl j (by omega)).trans (ho.ne hjk))⟩
              · have lf := hS3 kv l4
                have kvk : kv ≠ k := ne_of_lk l1 hg1 (by simp)
                have fv1 : ∀ c, ¬ kv = n3 + c := fun c => by omega
                have fv1' : ∀ c, ¬ n3 + c = kv := fun c => by omega
                have l3' : jv + (d.file i).b.length ≤ allv.length := by simpa using l3
                have l2' : (allv.drop jv).take (d.file i).b.length = byteRows (d.file i).b := by simpa using l2
                by_cases hb : (d.file i).b = []
                · have l6 : jv ≤ allv.length := by omega
                  simp [hg1, e2', e3, ci, lk_set, Nat.add_assoc, fk, fk', ff, ff', kfk, kfk.symm, mostB, up_up, shown_nil, hsz, hsz2, hsz3, lenA_sl, hsp, hdd, e4.okc, wz, hbe, hbe2, hbl3, hh1, hh2, hh3, hhc, hhr, l1, l6, fv1, fv1', kvk, kvk.symm, hb, byteRows_nil]
                  refine cW_at (fun H => (∀ j, j < n3 → lk H j = lk hp1 j) ∧ SV 1 H (fun j => n3 ≤ j ∧ j < n3 + 20) (.rs (n3 + 19) 1 0 bb.length 1) (byteRows ((d.file i).b ++ bb))) ⟨(by first | exact low_up low_refl (by omega) | exact low_up (low_up low_refl (by omega)) (by omega) | exact low_up (low_up (low_up low_refl (by omega)) (by omega)) (by omega)), .inr ⟨n3 + 19, 1, 0, byteRows ((d.file i).b ++ bb), by simp [hb], by simp [lk_set, hb, byteRows_app, byteRows_nil], by rw [List.drop_zero]; exact List.take_length, by simp, by omega, by omega⟩⟩ fun ⟨hl, hv⟩ => ?_
                  have hD' := hD.low hS3 hl
                  refine (c_dset (by omega) k _ _ _ _ _ (.rs (n3 + 19) 1 0 bb.length 1) _ fr i _ _ S (fun j hj => by have := hS3 j hj; omega) hD'.top h.topS hD'.files (by omega) hD.rows2 (by omega) rfl rfl).cW ?_
                  rintro _ hp2 n4 ⟨fv', g4, top4, sv4, fr4⟩
                  simp
                  refine ⟨⟨by kernel_rfl, by simp [dynOk, pairsOk, befOf, Region.binds, Eff.apart, Eff.clear, Eff.wkeys, Ref.key, AV.refs0, List.range, List.range.loop]⟩, ?_⟩
                  refine hQ _ _ _ ?_
                  rw [hd]
                  exact ⟨rfl, set_rep hD' hS (by omega) g4 (by omega) top4 sv4 fr4 (hv.mono (fun j hj => fr4 j (by omega) (by omega)) fun j hj => .inr ⟨by omega, by omega⟩), by omega, fun j hj hjk => (fr4 j (by omega) hjk).trans ((hl j (by omega)).trans (ho.ne hjk))⟩
                · have hb2 : byteRows (d.file i).b ≠ [] := fun e => hb (by simpa [byteRows] using e)
                  simp [hg1, e2', e3, ci, lk_set, Nat.add_assoc, fk, fk', ff, ff', kfk, kfk.symm, mostB, up_up, shown_nil, hsz, hsz2, hsz3, lenA_sl, hsp, hdd, e4.okc, wz, hbe, hbe2, hbl3, hh1, hh2, hh3, hhc, hhr, l1, l2', l3', fv1, fv1', kvk, kvk.symm, hb2, hsh, hb]
                  refine cW_at (fun H => (∀ j, j < n3 → lk H j = lk hp1 j) ∧ SV 1 H (fun j => n3 ≤ j ∧ j < n3 + 20) (.rs (n3 + 19) 2 0 ((d.file i).b.length + bb.length) 1) (byteRows ((d.file i).b ++ bb))) ⟨(by first | exact low_up low_refl (by omega) | exact low_up (low_up low_refl (by omega)) (by omega) | exact low_up (low_up (low_up low_refl (by omega)) (by omega)) (by omega)), .inr ⟨n3 + 19, 2, 0, byteRows ((d.file i).b ++ bb), by simp [hb], by simp [lk_set, hb, byteRows_app, byteRows_nil], by rw [List.drop_zero]; exact List.take_length, by simp, by omega, by omega⟩⟩ fun ⟨hl, hv⟩ => ?_
                  have hD' := hD.low hS3 hl
                  refine (c_dset (by omega) k _ _ _ _ _ (.rs (n3 + 19) 2 0 ((d.file i).b.length + bb.length) 1) _ fr i _ _ S (fun j hj => by have := hS3 j hj; omega) hD'.top h.topS hD'.files (by omega) hD.rows2 (by omega) rfl rfl).cW ?_
                  rintro _ hp2 n4 ⟨fv', g4, top4, sv4, fr4⟩
                  simp
                  refine ⟨⟨by kernel_rfl, by simp [dynOk, pairsOk, befOf, Region.binds, Eff.apart, Eff.clear, Eff.wkeys, Ref.key, AV.refs0, List.range, List.range.loop]⟩, ?_⟩
                  refine hQ _ _ _ ?_
                  rw [hd]
                  exact ⟨rfl, set_rep hD' hS (by omega) g4 (by omega) top4 sv4 fr4 (hv.mono (fun j hj => fr4 j (by omega) (by omega)) fun j hj => .inr ⟨by omega, by omega⟩), by omega, fun j hj hjk => (fr4 j (by omega) hjk).trans ((hl j (by omega)).trans (ho.ne hjk))⟩
        · have hsp : d.stops = false := by simp [Dk.stops, hl1, hdd]
          have hd : d.append s b = (0, d.stop1.setF i ⟨(d.file i).b ++ b, (d.file i).fast⟩) := by simp [Dk.append, Dk.at, hn, hi, hq, hdd, hl1, Dk.put]
          have hsz2 : b.length * 2 ≤ 68719476736 := by omega
          have hsz3 : ((d.file i).b.length + b.length) * 2 ≤ 68719476736 := by omega
          cases z with
          | true =>
            obtain rfl := hz rfl
            rcases e4' with ⟨hb0, zv, rfl⟩ | ⟨kv, gv, jv, allv, rfl, l1, l2, l3, l4⟩
            · have hb : (d.file i).b = [] := by simpa [byteRows] using hb0
              simp [hg1, e2', e3, ci, lk_set, Nat.add_assoc, fk, fk', ff, ff', kfk, kfk.symm, mostB, up_up, shown_nil, hsz, hsz2, hsz3, lenA_sl, hsp, hdd, e4.okc, wz, hb, byteRows_nil]
              refine cW_at (fun H => (∀ j, j < n3 → lk H j = lk hp1 j) ∧ SV 1 H (fun j => n3 ≤ j ∧ j < n3 + 12) (.rs (n3 + 11) 0 0 0 1) (byteRows ((d.file i).b ++ []))) ⟨(by first | exact low_up low_refl (by omega) | exact low_up (low_up low_refl (by omega)) (by omega) | exact low_up (low_up (low_up low_refl (by omega)) (by omega)) (by omega)), .inr ⟨n3 + 11, 0, 0, byteRows ((d.file i).b ++ []), by simp [hb], by simp [lk_set, hb, byteRows_app, byteRows_nil], by rw [List.drop_zero]; exact List.take_length, by simp, by omega, by omega⟩⟩ fun ⟨hl, hv⟩ => ?_
              have hD' := hD.low hS3 hl
              refine (c_dset (by omega) k _ _ _ _ _ (.rs (n3 + 11) 0 0 0 1) _ fr i _ _ S (fun j hj => by have := hS3 j hj; omega) hD'.top h.topS hD'.files (by omega) hD.rows2 (by omega) rfl rfl).cW ?_
              rintro _ hp2 n4 ⟨fv', g4, top4, sv4, fr4⟩
              simp
              refine ⟨⟨by kernel_rfl, by simp [dynOk, pairsOk, befOf, Region.binds, Eff.apart, Eff.clear, Eff.wkeys, Ref.key, AV.refs0, List.range, List.range.loop]⟩, ?_⟩
              refine hQ _ _ _ ?_
              rw [hd]
              exact ⟨rfl, set_rep hD' hS (by omega) g4 (by omega) top4 sv4 fr4 (hv.mono (fun j hj => fr4 j (by omega) (by omega)) fun j hj => .inr ⟨by omega, by omega⟩), by omega, fun j hj hjk => (fr4 j (by omega) hjk).trans ((hl j (by omega)).trans (ho.ne hjk))⟩
            · have lf := hS3 kv l4
              have kvk : kv ≠ k := ne_of_lk l1 hg1 (by simp)
              have fv1 : ∀ c, ¬ kv = n3 + c := fun c => by omega
              have fv1' : ∀ c, ¬ n3 + c = kv := fun c => by omega
              have l3' : jv + (d.file i).b.length ≤ allv.length := by simpa using l3
              have l2' : (allv.drop jv).take (d.file i).b.length = byteRows (d.file i).b := by simpa using l2
              by_cases hb : (d.file i).b = []
              · have l6 : jv ≤ allv.length := by omega
                simp [hg1, e2', e3, ci, lk_set, Nat.add_assoc, fk, fk', ff, ff', kfk, kfk.symm, mostB, up_up, shown_nil, hsz, hsz2, hsz3, lenA_sl, hsp, hdd, e4.okc, wz, l1, l6, fv1, fv1', kvk, kvk.symm, hb, byteRows_nil]
                refine cW_at (fun H => (∀ j, j < n3 → lk H j = lk hp1 j) ∧ SV 1 H (fun j => n3 ≤ j ∧ j < n3 + 12) (.rs (n3 + 11) 0 0 0 1) (byteRows ((d.file i).b ++ []))) ⟨(by first | exact low_up low_refl (by omega) | exact low_up (low_up low_refl (by omega)) (by omega) | exact low_up (low_up (low_up low_refl (by omega)) (by omega)) (by omega)), .inr ⟨n3 + 11, 0, 0, byteRows ((d.file i).b ++ []), by simp [hb], by simp [lk_set, hb, byteRows_app, byteRows_nil], by rw [List.drop_zero]; exact List.take_length, by simp, by omega, by omega⟩⟩ fun ⟨hl, hv⟩ => ?_
                have hD' := hD.low hS3 hl
                refine (c_dset (by omega) k _ _ _ _ _ (.rs (n3 + 11) 0 0 0 1) _ fr i _ _ S (fun j hj => by have := hS3 j hj; omega) hD'.top h.topS hD'.files (by omega) hD.rows2 (by omega) rfl rfl).cW ?_
                rintro _ hp2 n4 ⟨fv', g4, top4, sv4, fr4⟩
                simp
                refine ⟨⟨by kernel_rfl, by simp [dynOk, pairsOk, befOf, Region.binds, Eff.apart, Eff.clear, Eff.wkeys, Ref.key, AV.refs0, List.range, List.range.loop]⟩, ?_⟩
                refine hQ _ _ _ ?_
                rw [hd]
                exact ⟨rfl, set_rep hD' hS (by omega) g4 (by omega) top4 sv4 fr4 (hv.mono (fun j hj => fr4 j (by omega) (by omega)) fun j hj => .inr ⟨by omega, by omega⟩), by omega, fun j hj hjk => (fr4 j (by omega) hjk).trans ((hl j (by omega)).trans (ho.ne hjk))⟩
              · have hb2 : byteRows (d.file i).b ≠ [] := fun e => hb (by simpa [byteRows] using e)
                simp [hg1, e2', e3, ci, lk_set, Nat.add_assoc, fk, fk', ff, ff', kfk, kfk.symm, mostB, up_up, shown_nil, hsz, hsz2, hsz3, lenA_sl, hsp, hdd, e4.okc, wz, l1, l2', l3', fv1, fv1', kvk, kvk.symm, hb2, hsh, hb]
                refine cW_at (fun H => (∀ j, j < n3 → lk H j = lk hp1 j) ∧ SV 1 H (fun j => n3 ≤ j ∧ j < n3 + 12) (.rs (n3 + 11) 1 0 (d.file i).b.length 1) (byteRows ((d.file i).b ++ []))) ⟨(by first | exact low_up low_refl (by omega) | exact low_up (low_up low_refl (by omega)) (by omega) | exact low_up (low_up (low_up low_refl (by omega)) (by omega)) (by omega)), .inr ⟨n3 + 11, 1, 0, byteRows ((d.file i).b ++ []), by simp [hb], by simp [lk_set, hb, byteRows_app, byteRows_nil], by rw [List.drop_zero]; exact List.take_length, by simp, by omega, by omega⟩⟩ fun ⟨hl, hv⟩ => ?_
                have hD' := hD.low hS3 hl
                refine (c_dset (by omega) k _ _ _ _ _ (.rs (n3 + 11) 1 0 (d.file i).b.length 1) _ fr i _ _ S (fun j hj => by have := hS3 j hj; omega) hD'.top h.topS hD'.files (by omega) hD.rows2 (by omega) rfl rfl).cW ?_
                rintro _ hp2 n4 ⟨fv', g4, top4, sv4, fr4⟩
                simp
                refine ⟨⟨by kernel_rfl, by simp [dynOk, pairsOk, befOf, Region.binds, Eff.apart, Eff.clear, Eff.wkeys, Ref.key, AV.refs0, List.range, List.range.loop]⟩, ?_⟩
                refine hQ _ _ _ ?_
                rw [hd]
                exact ⟨rfl, set_rep hD' hS (by omega) g4 (by omega) top4 sv4 fr4 (hv.mono (fun j hj => fr4 j (by omega) (by omega)) fun j hj => .inr ⟨by omega, by omega⟩), by omega, fun j hj hjk => (fr4 j (by omega) hjk).trans ((hl j (by omega)).trans (ho.ne hjk))⟩
          | false =>
            by_cases hbe : b = []
            · subst hbe
              rcases e4' with ⟨hb0, zv, rfl⟩ | ⟨kv, gv, jv, allv, rfl, l1, l2, l3, l4⟩
              · have hb : (d.file i).b = [] := by simpa [byteRows] using hb0
                simp [hg1, e2', e3, ci, lk_set, Nat.add_assoc, fk, fk', ff, ff', kfk, kfk.symm, mostB, up_up, shown_nil, hsz, hsz2, hsz3, lenA_sl, hsp, hdd, e4.okc, wz, byteRows_nil, hb, byteRows_nil]
                refine cW_at (fun H => (∀ j, j < n3 → lk H j = lk hp1 j) ∧ SV 1 H (fun j => n3 ≤ j ∧ j < n3 + 12) (.rs (n3 + 11) 0 0 0 1) (byteRows ((d.file i).b ++ []))) ⟨(by first | exact low_up low_refl (by omega) | exact low_up (low_up low_refl (by omega)) (by omega) | exact low_up (low_up (low_up low_refl (by omega)) (by omega)) (by omega)), .inr ⟨n3 + 11, 0, 0, byteRows ((d.file i).b ++ []), by simp [hb], by simp [lk_set, hb, byteRows_app, byteRows_nil], by rw [List.drop_zero]; exact List.take_length, by simp, by omega, by omega⟩⟩ fun ⟨hl, hv⟩ => ?_
                have hD' := hD.low hS3 hl
                refine (c_dset (by omega) k _ _ _ _ _ (.rs (n3 + 11) 0 0 0 1) _ fr i _ _ S (fun j hj => by have := hS3 j hj; omega) hD'.top h.topS hD'.files (by omega) hD.rows2 (by omega) rfl rfl).cW ?_
                rintro _ hp2 n4 ⟨fv', g4, top4, sv4, fr4⟩
                simp
                refine ⟨⟨by kernel_rfl, by simp [dynOk, pairsOk, befOf, Region.binds, Eff.apart, Eff.clear, Eff.wkeys, Ref.key, AV.refs0, List.range, List.range.loop]⟩, ?_⟩
                refine hQ _ _ _ ?_
                rw [hd]
                exact ⟨rfl, set_rep hD' hS (by omega) g4 (by omega) top4 sv4 fr4 (hv.mono (fun j hj => fr4 j (by omega) (by omega)) fun j hj => .inr ⟨by omega, by omega⟩), by omega, fun j hj hjk => (fr4 j (by omega) hjk).trans ((hl j (by omega)).trans (ho.ne hjk))⟩
              · have lf := hS3 kv l4
                have kvk : kv ≠ k := ne_of_lk l1 hg1 (by simp)
                have fv1 : ∀ c, ¬ kv = n3 + c := fun c => by omega
                have fv1' : ∀ c, ¬ n3 + c = kv := fun c => by omega
                have l3' : jv + (d.file i).b.length ≤ allv.length := by simpa using l3
                have l2' : (allv.drop jv).take (d.file i).b.length = byteRows (d.file i).b := by simpa using l2
                by_cases hb : (d.file i).b = []
                · have l6 : jv ≤ allv.length := by omega
                  simp [hg1, e2', e3, ci, lk_set, Nat.add_assoc, fk, fk', ff, ff', kfk, kfk.symm, mostB, up_up, shown_nil, hsz, hsz2, hsz3, lenA_sl, hsp, hdd, e4.okc, wz, byteRows_nil, l1, l6, fv1, fv1', kvk, kvk.symm, hb, byteRows_nil]
                  refine cW_at (fun H => (∀ j, j < n3 → lk H j = lk hp1 j) ∧ SV 1 H (fun j => n3 ≤ j ∧ j < n3 + 12) (.rs (n3 + 11) 0 0 0 1) (byteRows ((d.file i).b ++ []))) ⟨(by first | exact low_up low_refl (by omega) | exact low_up (low_up low_refl (by omega)) (by omega) | exact low_up (low_up (low_up low_refl (by omega)) (by omega)) (by omega)), .inr ⟨n3 + 11, 0, 0, byteRows ((d.file i).b ++ []), by simp [hb], by simp [lk_set, hb, byteRows_app, byteRows_nil], by rw [List.drop_zero]; exact List.take_length, by simp, by omega, by omega⟩⟩ fun ⟨hl, hv⟩ => ?_
                  have hD' := hD.low hS3 hl
                  refine (c_dset (by omega) k _ _ _ _ _ (.rs (n3 + 11) 0 0 0 1) _ fr i _ _ S (fun j hj => by have := hS3 j hj; omega) hD'.top h.topS hD'.files (by omega) hD.rows2 (by omega) rfl rfl).cW ?_
                  rintro _ hp2 n4 ⟨fv', g4, top4, sv4, fr4⟩
                  simp
                  refine ⟨⟨by kernel_rfl, by simp [dynOk, pairsOk, befOf, Region.binds, Eff.apart, Eff.clear, Eff.wkeys, Ref.key, AV.refs0, List.range, List.range.loop]⟩, ?_⟩
                  refine hQ _ _ _ ?_
                  rw [hd]
                  exact ⟨rfl, set_rep hD' hS (by omega) g4 (by omega) top4 sv4 fr4 (hv.mono (fun j hj => fr4 j (by omega) (by omega)) fun j hj => .inr ⟨by omega, by omega⟩), by omega, fun j hj hjk => (fr4 j (by omega) hjk).trans ((hl j (by omega)).trans (ho.ne hjk))⟩
                · have hb2 : byteRows (d.file i).b ≠ [] := fun e => hb (by simpa [byteRows] using e)
                  simp [hg1, e2', e3, ci, lk_set, Nat.add_assoc, fk, fk', ff, ff', kfk, kfk.symm, mostB, up_up, shown_nil, hsz, hsz2, hsz3, lenA_sl, hsp, hdd, e4.okc, wz, byteRows_nil, l1, l2', l3', fv1, fv1', kvk, kvk.symm, hb2, hsh, hb]
                  refine cW_at (fun H => (∀ j, j < n3 → lk H j = lk hp1 j) ∧ SV 1 H (fun j => n3 ≤ j ∧ j < n3 + 12) (.rs (n3 + 11) 1 0 (d.file i).b.length 1) (byteRows ((d.file i).b ++ []))) ⟨(by first | exact low_up low_refl (by omega) | exact low_up (low_up low_refl (by omega)) (by omega) | exact low_up (low_up (low_up low_refl (by omega)) (by omega)) (by omega)), .inr ⟨n3 + 11, 1, 0, byteRows ((d.file i).b ++ []), by simp [hb], by simp [lk_set, hb, byteRows_app, byteRows_nil], by rw [List.drop_zero]; exact List.take_length, by simp, by omega, by omega⟩⟩ fun ⟨hl, hv⟩ => ?_
                  have hD' := hD.low hS3 hl
                  refine (c_dset (by omega) k _ _ _ _ _ (.rs (n3 + 11) 1 0 (d.file i).b.length 1) _ fr i _ _ S (fun j hj => by have := hS3 j hj; omega) hD'.top h.topS hD'.files (by omega) hD.rows2 (by omega) rfl rfl).cW ?_
                  rintro _ hp2 n4 ⟨fv', g4, top4, sv4, fr4⟩
                  simp
                  refine ⟨⟨by kernel_rfl, by simp [dynOk, pairsOk, befOf, Region.binds, Eff.apart, Eff.clear, Eff.wkeys, Ref.key, AV.refs0, List.range, List.range.loop]⟩, ?_⟩
                  refine hQ _ _ _ ?_
                  rw [hd]
                  exact ⟨rfl, set_rep hD' hS (by omega) g4 (by omega) top4 sv4 fr4 (hv.mono (fun j hj => fr4 j (by omega) (by omega)) fun j hj => .inr ⟨by omega, by omega⟩), by omega, fun j hj hjk => (fr4 j (by omega) hjk).trans ((hl j (by omega)).trans (ho.ne hjk))⟩
            · have hbe2 : byteRows b ≠ [] := fun e => hbe (by simpa [byteRows] using e)
              have hbl3 : ¬ b.length = 0 := fun e => hbe (List.length_eq_zero_iff.1 e)
              rcases e4' with ⟨hb0, zv, rfl⟩ | ⟨kv, gv, jv, allv, rfl, l1, l2, l3, l4⟩
              · have hb : (d.file i).b = [] := by simpa [byteRows] using hb0
                simp [hg1, e2', e3, ci, lk_set, Nat.add_assoc, fk, fk', ff, ff', kfk, kfk.symm, mostB, up_up, shown_nil, hsz, hsz2, hsz3, lenA_sl, hsp, hdd, e4.okc, wz, hbe, hbe2, hbl3, hb, byteRows_nil]
                refine cW_at (fun H => (∀ j, j < n3 → lk H j = lk hp1 j) ∧ SV 1 H (fun j => n3 ≤ j ∧ j < n3 + 12) (.rs (n3 + 11) 1 0 b.length 1) (byteRows ((d.file i).b ++ b))) ⟨(by first | exact low_up low_refl (by omega) | exact low_up (low_up low_refl (by omega)) (by omega) | exact low_up (low_up (low_up low_refl (by omega)) (by omega)) (by omega)), .inr ⟨n3 + 11, 1, 0, byteRows ((d.file i).b ++ b), by simp [hb], by simp [lk_set, hb, byteRows_app, byteRows_nil], by rw [List.drop_zero]; exact List.take_length, by simp, by omega, by omega⟩⟩ fun ⟨hl, hv⟩ => ?_
                have hD' := hD.low hS3 hl
                refine (c_dset (by omega) k _ _ _ _ _ (.rs (n3 + 11) 1 0 b.length 1) _ fr i _ _ S (fun j hj => by have := hS3 j hj; omega) hD'.top h.topS hD'.files (by omega) hD.rows2 (by omega) rfl rfl).cW ?_
                rintro _ hp2 n4 ⟨fv', g4, top4, sv4, fr4⟩
                simp
                refine ⟨⟨by kernel_rfl, by simp [dynOk, pairsOk, befOf, Region.binds, Eff.apart, Eff.clear, Eff.wkeys, Ref.key, AV.refs0, List.range, List.range.loop]⟩, ?_⟩
                refine hQ _ _ _ ?_
                rw [hd]
                exact ⟨rfl, set_rep hD' hS (by omega) g4 (by omega) top4 sv4 fr4 (hv.mono (fun j hj => fr4 j (by omega) (by omega)) fun j hj => .inr ⟨by omega, by omega⟩), by omega, fun j hj hjk => (fr4 j (by omega) hjk).trans ((hl j (by omega)).trans (ho.ne hjk))⟩
              · have lf := hS3 kv l4
                have kvk : kv ≠ k := ne_of_lk l1 hg1 (by simp)
                have fv1 : ∀ c, ¬ kv = n3 + c := fun c => by omega
                have fv1' : ∀ c, ¬ n3 + c = kv := fun c => by omega
                have l3' : jv + (d.file i).b.length ≤ allv.length := by simpa using l3
                have l2' : (allv.drop jv).take (d.file i).b.length = byteRows (d.file i).b := by simpa using l2
                by_cases hb : (d.file i).b = []
                · have l6 : jv ≤ allv.length := by omega
                  simp [hg1, e2', e3, ci, lk_set, Nat.add_assoc, fk, fk', ff, ff', kfk, kfk.symm, mostB, up_up, shown_nil, hsz, hsz2, hsz3, lenA_sl, hsp, hdd, e4.okc, wz, hbe, hbe2, hbl3, l1, l6, fv1, fv1', kvk, kvk.symm, hb, byteRows_nil]
                  refine cW_at (fun H => (∀ j, j < n3 → lk H j = lk hp1 j) ∧ SV 1 H (fun j => n3 ≤ j ∧ j < n3 + 12) (.rs (n3 + 11) 1 0 b.length 1) (byteRows ((d.file i).b ++ b))) ⟨(by first | exact low_up low_refl (by omega) | exact low_up (low_up low_refl (by omega)) (by omega) | exact low_up (low_up (low_up low_refl (by omega)) (by omega)) (by omega)), .inr ⟨n3 + 11, 1, 0, byteRows ((d.file i).b ++ b), by simp [hb], by simp [lk_set, hb, byteRows_app, byteRows_nil], by rw [List.drop_zero]; exact List.take_length, by simp, by omega, by omega⟩⟩ fun ⟨hl, hv⟩ => ?_
                  have hD' := hD.low hS3 hl
                  refine (c_dset (by omega) k _ _ _ _ _ (.rs (n3 + 11) 1 0 b.length 1) _ fr i _ _ S (fun j hj => by have := hS3 j hj; omega) hD'.top h.topS hD'.files (by omega) hD.rows2 (by omega) rfl rfl).cW ?_
                  rintro _ hp2 n4 ⟨fv', g4, top4, sv4, fr4⟩
                  simp
                  refine ⟨⟨by kernel_rfl, by simp [dynOk, pairsOk, befOf, Region.binds, Eff.apart, Eff.clear, Eff.wkeys, Ref.key, AV.refs0, List.range, List.range.loop]⟩, ?_⟩
                  refine hQ _ _ _ ?_
                  rw [hd]
                  exact ⟨rfl, set_rep hD' hS (by omega) g4 (by omega) top4 sv4 fr4 (hv.mono (fun j hj => fr4 j (by omega) (by omega)) fun j hj => .inr ⟨by omega, by omega⟩), by omega, fun j hj hjk => (fr4 j (by omega) hjk).trans ((hl j (by omega)).trans (ho.ne hjk))⟩
                · have hb2 : byteRows (d.file i).b ≠ [] := fun e => hb (by simpa [byteRows] using e)
                  simp [hg1, e2', e3, ci, lk_set, Nat.add_assoc, fk, fk', ff, ff', kfk, kfk.symm, mostB, up_up, shown_nil, hsz, hsz2, hsz3, lenA_sl, hsp, hdd, e4.okc, wz, hbe, hbe2, hbl3, l1, l2', l3', fv1, fv1', kvk, kvk.symm, hb2, hsh, hb]
                  refine cW_at (fun H => (∀ j, j < n3 → lk H j = lk hp1 j) ∧ SV 1 H (fun j => n3 ≤ j ∧ j < n3 + 12) (.rs (n3 + 11) 2 0 ((d.file i).b.length + b.length) 1) (byteRows ((d.file i).b ++ b))) ⟨(by first | exact low_up low_refl (by omega) | exact low_up (low_up low_refl (by omega)) (by omega) | exact low_up (low_up (low_up low_refl (by omega)) (by omega)) (by omega)), .inr ⟨n3 + 11, 2, 0, byteRows ((d.file i).b ++ b), by simp [hb], by simp [lk_set, hb, byteRows_app, byteRows_nil], by rw [List.drop_zero]; exact List.take_length, by simp, by omega, by omega⟩⟩ fun ⟨hl, hv⟩ => ?_
                  have hD' := hD.low hS3 hl
                  refine (c_dset (by omega) k _ _ _ _ _ (.rs (n3 + 11) 2 0 ((d.file i).b.length + b.length) 1) _ fr i _ _ S (fun j hj => by have := hS3 j hj; omega) hD'.top h.topS hD'.files (by omega) hD.rows2 (by omega) rfl rfl).cW ?_
                  rintro _ hp2 n4 ⟨fv', g4, top4, sv4, fr4⟩
                  simp
                  refine ⟨⟨by kernel_rfl, by simp [dynOk, pairsOk, befOf, Region.binds, Eff.apart, Eff.clear, Eff.wkeys, Ref.key, AV.refs0, List.range, List.range.loop]⟩, ?_⟩
                  refine hQ _ _ _ ?_
                  rw [hd]
                  exact ⟨rfl, set_rep hD' hS (by omega) g4 (by omega) top4 sv4 fr4 (hv.mono (fun j hj => fr4 j (by omega) (by omega)) fun j hj => .inr ⟨by omega, by omega⟩), by omega, fun j hj hjk => (fr4 j (by omega) hjk).trans ((hl j (by omega)).trans (ho.ne hjk))⟩

end Ab
end Go.Proofs.Ytecjchghapgdeaa


/-
  DERIVED. The document's disk: Cut, Append.
  Conditions: enough rounds, enough depth; a disk of bounded size.
-/
import Derived.Test.YtecjchghapgdeaaG2
set_option linter.all false
set_option maxHeartbeats 4000000
namespace Go.Proofs.Ytecjchghapgdeaa
namespace Ab
set_option maxRecDepth 100000
set_option maxHeartbeats 8000000
set_option linter.all false
attribute [local simp] wp_regW opsW_nil opsW_cons opsK_eq regK_no regK_draw oW_n oW_h oW_r oW_pn appendA appRow newsA rowsSz rowsOf isIntD makeSliceA elemOf rowsBuilt eqA eq1

theorem c_dCut {K n N0 : Nat} (hK : big K) (hn : 3 ≤ n) {d : Dk} {k : Nat} {hp : Hp} {nx : Nat} {S : Nat → Prop} (hI : d.Inv N0) (hN0 : N0 ≤ 2 ^ 20) (h : DRep hp nx k d S) (s : Bs) (hs : s.length ≤ 2 ^ 40) (x : Int) :
    Sp K n 44 [.ptr k 0 0, .s (ba s), .i .i64 x] hp nx fun r hp' nx' => r = .i .i64 (d.cut s x).1 ∧ DEnd k hp nx S (d.cut s x).2 hp' nx' := by
  refine sp_cps fun Q hQ => ?_
  obtain ⟨n, rfl⟩ : ∃ m, n = m + 1 := ⟨n - 1, by omega⟩
  have hR := h
  obtain ⟨hS, fv, wv, fr, wr, h⟩ := h
  have hg := h.top
  have hnl := hI.nfiles
  refine sp_of rfl (run_wp Try.func44 rfl (by simp [Try.f44]) ?_)
  simp
  refine (c_dat hK (by omega) hI (by omega) h s hs).cW ?_
  rintro _ hp0 n1 ⟨rfl, rfl, g1⟩
  cases hn : nameOk s with
  | false =>
    have hd : d.cut s x = (6, d) := by simp [Dk.cut, Dk.at, hn]
    simp [datR, hn]
    refine hQ _ _ _ ?_
    rw [hd]
    exact ⟨rfl, hR.same (by omega), by omega, fun _ _ _ => rfl⟩
  | true =>
    cases hi : findW d.now s with
    | none =>
      have hd : d.cut s x = (40, d) := by simp [Dk.cut, Dk.at, hn, hi]
      simp [datR, hn, hi]
      refine hQ _ _ _ ?_
      rw [hd]
      exact ⟨rfl, hR.same (by omega), by omega, fun _ _ _ => rfl⟩
    | some i =>
      have hil := (hI.found hi).2
      obtain ⟨kf, g, i0, all, v, rfl, e2, e3, e4, e5, e6⟩ := file_at (N := N0) h (i := i) hil
      have ci : ((i : Nat) : Int) < d.files.length := by omega
      have hvl := e4.len'
      have hfi := hI.filelen (i := i)
      simp [datR, hn, hi]
      by_cases hx0 : x < 0
      · have hd : d.cut s x = (1, d) := by simp [Dk.cut, Dk.at, hn, hi, hx0]
        simp [hg, e2, e3, ci, lenA_sl, hvl, e4.okc, hx0]
        refine hQ _ _ _ ?_
        rw [hd]
        exact ⟨rfl, hR.same (by omega), by omega, fun _ _ _ => rfl⟩
      by_cases hx1 : ((d.file i).b.length : Int) < x
      · have hd : d.cut s x = (1, d) := by simp [Dk.cut, Dk.at, hn, hi, hx1]
        simp [hg, e2, e3, ci, lenA_sl, hvl, e4.okc, hx0, hx1]
        refine hQ _ _ _ ?_
        rw [hd]
        exact ⟨rfl, hR.same (by omega), by omega, fun _ _ _ => rfl⟩
      simp [hg, e2, e3, ci, lenA_sl, hvl, e4.okc, hx0, hx1]
      refine (c_dstops (by omega) hI hg).cW ?_
      rintro _ hp1 n3 ⟨rfl, g3, ho⟩
      have hD := h.stopped ho
      cases hsp : d.stops with
      | true =>
        have hd : d.cut s x = (44, d.stop1) := by simp [Dk.cut, Dk.at, hn, hi, Dk.goes, hsp, hx0, hx1]
        simp
        refine hQ _ _ _ ?_
        rw [hd]
        exact ⟨rfl, hD.rep hS (by omega), by omega, fun j _ hj => ho.ne hj⟩
      | false =>
        obtain ⟨c, rfl⟩ : ∃ c : Nat, x = c := ⟨x.toNat, by omega⟩
        have hc : c ≤ (d.file i).b.length := by omega
        have hd : d.cut s (c : Nat) = (0, d.stop1.setF i ⟨(d.file i).b.take c, min (d.file i).fast c⟩) := by simp [Dk.cut, Dk.at, hn, hi, Dk.goes, hsp, hx0, hx1]
        have hg1 := hD.top
        have hfl : fr.length = d.files.length := by have := hD.nfl; simpa using this
        have hS3 : ∀ j, S j → j < n3 := fun j hj => by have := hS j hj; omega
        have e4' : SV 1 hp1 S v (byteRows (d.file i).b) := e4.of hg (fun j hj hjk => ho.ne hjk) fun _ h => h
        have k3 := hS3 k h.topS
        have fk : ∀ c, ¬ k = n3 + c := fun c => by omega
        have fk0 : ¬ k = n3 := by omega
        have fk' : ∀ c, ¬ n3 + c = k := fun c => by omega
        have fk0' : ¬ n3 = k := by omega
        rcases e4' with ⟨hb0, z, rfl⟩ | ⟨kv, gv, jv, allv, rfl, l1, l2, l3, l4⟩
        · have hb : (d.file i).b = [] := by simpa [byteRows] using hb0
          rw [hb] at hc hfi
          obtain rfl : c = 0 := by simpa using hc
          have hf0 : (d.file i).fast = 0 := by have := hfi.2; simpa using this
          simp [hg1, hf0]
          refine cW_at (fun H => (∀ j, j < n3 → lk H j = lk hp1 j) ∧ SV 1 H (fun j => n3 ≤ j ∧ j < n3 + 8) (.rs n3 0 0 0 1) (byteRows ((d.file i).b.take 0))) ⟨low_up low_refl (by omega), .inr ⟨n3, 0, 0, [], rfl, by simp [lk_set], by simp [byteRows], by simp, by omega, by omega⟩⟩ fun ⟨hl, hv⟩ => ?_
          have hD' := hD.low hS3 hl
          refine (c_dset (by omega) k _ _ _ _ _ (.rs n3 0 0 0 1) _ fr i _ _ S (fun j hj => by have := hS3 j hj; omega) hD'.top h.topS hD'.files (by omega) hD.rows2 (by omega) rfl rfl).cW ?_
          rintro _ hp2 n4 ⟨fv', g4, top4, sv4, fr4⟩
          simp
          refine hQ _ _ _ ?_
          rw [hd]
          rw [show min (d.file i).fast 0 = 0 by omega]
          exact ⟨rfl, set_rep hD' hS (by omega) g4 (by omega) top4 sv4 fr4 (hv.mono (fun j hj => fr4 j (by omega) (by omega)) fun j hj => .inr ⟨by omega, by omega⟩), by omega, fun j hj hjk => (fr4 j (by omega) hjk).trans ((hl j (by omega)).trans (ho.ne hjk))⟩
        · have lf := hS3 kv l4
          have kvk : kv ≠ k := ne_of_lk l1 hg1 (by simp)
          have fv0 : ¬ kv = n3 := by omega
          have fv1 : ∀ c, ¬ kv = n3 + c := fun c => by omega
          have fv0' : ¬ n3 = kv := by omega
          have fv1' : ∀ c, ¬ n3 + c = kv := fun c => by omega
          have l3' : jv + (d.file i).b.length ≤ allv.length := by simpa using l3
          have l5 : (allv.drop jv).take c = byteRows ((d.file i).b.take c) := by
            rw [byteRows_take, ← l2, List.take_take, Nat.min_eq_left (by simpa using hc)]
          have l6 : jv + c ≤ allv.length := by omega
          have l6' : jv ≤ allv.length := by omega
          have c1 : ((c : Nat) : Int) ≤ (d.file i).b.length := by omega
          have l7 : (byteRows ((d.file i).b.take c)).length = c := by simp [hc]
          have l8 : ((d.file i).b.take c).length = c := by simp [hc]
          have d0 : c * 2 ≤ 68719476736 := by omega
          have d1 : shown (byteRows []) 0 0 = [] := shown_all rfl
          by_cases hc0 : c = 0
          · subst hc0
            by_cases hfx : 0 < (d.file i).fast
            · simp [hg1, l1, l3', l5, l6, l6', l7, c1, hc, lk_set, fk, fk', fk0, fk0', fv0, fv1, fv0', fv1', kvk, kvk.symm, mostB, d0, hfx, up_up, byteRows]
              refine cW_at (fun H => (∀ j, j < n3 → lk H j = lk hp1 j) ∧ SV 1 H (fun j => n3 ≤ j ∧ j < n3 + 8) (.rs n3 0 0 0 1) (byteRows ((d.file i).b.take 0))) ⟨(by first | exact low_up low_refl (by omega) | exact low_up (low_up low_refl (by omega)) (by omega)), .inr ⟨n3, 0, 0, [], rfl, by simp [lk_set], by simp [byteRows], by simp, by omega, by omega⟩⟩ fun ⟨hl, hv⟩ => ?_
              have hD' := hD.low hS3 hl
              refine (c_dset (by omega) k _ _ _ _ _ (.rs n3 0 0 0 1) _ fr i _ _ S (fun j hj => by have := hS3 j hj; omega) hD'.top h.topS hD'.files (by omega) hD.rows2 (by omega) rfl rfl).cW ?_
              rintro _ hp2 n4 ⟨fv', g4, top4, sv4, fr4⟩
              simp
              refine hQ _ _ _ ?_
              rw [hd]
              rw [show min (d.file i).fast 0 = 0 by omega]
              exact ⟨rfl, set_rep hD' hS (by omega) g4 (by omega) top4 sv4 fr4 (hv.mono (fun j hj => fr4 j (by omega) (by omega)) fun j hj => .inr ⟨by omega, by omega⟩), by omega, fun j hj hjk => (fr4 j (by omega) hjk).trans ((hl j (by omega)).trans (ho.ne hjk))⟩
            · simp [hg1, l1, l3', l5, l6, l6', l7, c1, hc, lk_set, fk, fk', fk0, fk0', fv0, fv1, fv0', fv1', kvk, kvk.symm, mostB, d0, hfx, up_up, byteRows]
              refine cW_at (fun H => (∀ j, j < n3 → lk H j = lk hp1 j) ∧ SV 1 H (fun j => n3 ≤ j ∧ j < n3 + 8) (.rs n3 0 0 0 1) (byteRows ((d.file i).b.take 0))) ⟨(by first | exact low_up low_refl (by omega) | exact low_up (low_up low_refl (by omega)) (by omega)), .inr ⟨n3, 0, 0, [], rfl, by simp [lk_set], by simp [byteRows], by simp, by omega, by omega⟩⟩ fun ⟨hl, hv⟩ => ?_
              have hD' := hD.low hS3 hl
              refine (c_dset (by omega) k _ _ _ _ _ (.rs n3 0 0 0 1) _ fr i _ _ S (fun j hj => by have := hS3 j hj; omega) hD'.top h.topS hD'.files (by omega) hD.rows2 (by omega) rfl rfl).cW ?_
              rintro _ hp2 n4 ⟨fv', g4, top4, sv4, fr4⟩
              simp
              refine hQ _ _ _ ?_
              rw [hd]
              rw [show min (d.file i).fast 0 = (d.file i).fast by omega]
              exact ⟨rfl, set_rep hD' hS (by omega) g4 (by omega) top4 sv4 fr4 (hv.mono (fun j hj => fr4 j (by omega) (by omega)) fun j hj => .inr ⟨by omega, by omega⟩), by omega, fun j hj hjk => (fr4 j (by omega) hjk).trans ((hl j (by omega)).trans (ho.ne hjk))⟩
          · have hc0' : byteRows ((d.file i).b.take c) ≠ [] := fun e => by rw [e] at l7; exact hc0 l7.symm
            by_cases hfx : c < (d.file i).fast
            · simp [hg1, l1, l3', l5, l6, l6', l7, c1, hc, lk_set, fk, fk', fk0, fk0', fv0, fv1, fv0', fv1', kvk, kvk.symm, mostB, d0, hfx, hc0, hc0', l8, shown_nil, up_up]
              refine cW_at (fun H => (∀ j, j < n3 → lk H j = lk hp1 j) ∧ SV 1 H (fun j => n3 ≤ j ∧ j < n3 + 8) (.rs n3 1 0 c 1) (byteRows ((d.file i).b.take c))) ⟨(by first | exact low_up low_refl (by omega) | exact low_up (low_up low_refl (by omega)) (by omega)), .inr ⟨n3, 1, 0, byteRows ((d.file i).b.take c), by rw [l7], by simp [lk_set], by rw [List.drop_zero]; exact List.take_length, by simp, by omega, by omega⟩⟩ fun ⟨hl, hv⟩ => ?_
              have hD' := hD.low hS3 hl
              refine (c_dset (by omega) k _ _ _ _ _ (.rs n3 1 0 c 1) _ fr i _ _ S (fun j hj => by have := hS3 j hj; omega) hD'.top h.topS hD'.files (by omega) hD.rows2 (by omega) rfl rfl).cW ?_
              rintro _ hp2 n4 ⟨fv', g4, top4, sv4, fr4⟩
              simp
              refine hQ _ _ _ ?_
              rw [hd]
              rw [show min (d.file i).fast c = c by omega]
              exact ⟨rfl, set_rep hD' hS (by omega) g4 (by omega) top4 sv4 fr4 (hv.mono (fun j hj => fr4 j (by omega) (by omega)) fun j hj => .inr ⟨by omega, by omega⟩), by omega, fun j hj hjk => (fr4 j (by omega) hjk).trans ((hl j (by omega)).trans (ho.ne hjk))⟩
            · simp [hg1, l1, l3', l5, l6, l6', l7, c1, hc, lk_set, fk, fk', fk0, fk0', fv0, fv1, fv0', fv1', kvk, kvk.symm, mostB, d0, hfx, hc0, hc0', l8, shown_nil, up_up]
              refine cW_at (fun H => (∀ j, j < n3 → lk H j = lk hp1 j) ∧ SV 1 H (fun j => n3 ≤ j ∧ j < n3 + 8) (.rs n3 1 0 c 1) (byteRows ((d.file i).b.take c))) ⟨(by first | exact low_up low_refl (by omega) | exact low_up (low_up low_refl (by omega)) (by omega)), .inr ⟨n3, 1, 0, byteRows ((d.file i).b.take c), by rw [l7], by simp [lk_set], by rw [List.drop_zero]; exact List.take_length, by simp, by omega, by omega⟩⟩ fun ⟨hl, hv⟩ => ?_
              have hD' := hD.low hS3 hl
              refine (c_dset (by omega) k _ _ _ _ _ (.rs n3 1 0 c 1) _ fr i _ _ S (fun j hj => by have := hS3 j hj; omega) hD'.top h.topS hD'.files (by omega) hD.rows2 (by omega) rfl rfl).cW ?_
              rintro _ hp2 n4 ⟨fv', g4, top4, sv4, fr4⟩
              simp
              refine hQ _ _ _ ?_
              rw [hd]
              rw [show min (d.file i).fast c = (d.file i).fast by omega]
              exact ⟨rfl, set_rep hD' hS (by omega) g4 (by omega) top4 sv4 fr4 (hv.mono (fun j hj => fr4 j (by omega) (by omega)) fun j hj => .inr ⟨by omega, by omega⟩), by omega, fun j hj hjk => (fr4 j (by omega) hjk).trans ((hl j (by omega)).trans (ho.ne hjk))⟩

end Ab
end Go.Proofs.Ytecjchghapgdeaa

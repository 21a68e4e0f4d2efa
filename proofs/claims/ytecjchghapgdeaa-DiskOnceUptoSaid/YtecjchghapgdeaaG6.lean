/-
  DERIVED. The document's disk: Crash.
  Conditions: enough rounds, enough depth; a disk of bounded size.
-/
import Derived.Test.YtecjchghapgdeaaG2
set_option linter.all false
set_option maxHeartbeats 4000000
namespace Go.Proofs.Ytecjchghapgdeaa
namespace Ab
set_option maxRecDepth 100000
set_option maxHeartbeats 8000000
set_option linter.all false
attribute [local simp] wp_regW opsW_nil opsW_cons opsK_eq regK_no regK_draw oW_n oW_h oW_r oW_pn appendA appRow newsA rowsSz rowsOf isIntD makeSliceA elemOf rowsBuilt eqA eq1

theorem c_dCrash {K n N0 : Nat} (hK : big K) (hn : 2 ≤ n) {d : Dk} {k : Nat} {hp : Hp} {nx : Nat} {S : Nat → Prop} (hI : d.Inv N0) (hN0 : N0 ≤ 2 ^ 20) (h : DRep hp nx k d S) (z : Bool) (keeps : List Int) (hz : z = true → keeps = []) (hkl : keeps.length ≤ 2 ^ 30) (names : Int) :
    Sp K n 29 [.ptr k 0 0, .vs z 1 (intRows keeps), .i .i64 names] hp nx fun _ hp' nx' => DEnd k hp nx S (d.crash keeps names) hp' nx' := by
  refine sp_cps fun Q hQ => ?_
  obtain ⟨n, rfl⟩ : ∃ m, n = m + 1 := ⟨n - 1, by omega⟩
  have hS := h.1
  have hIs : (d.stop 0).Inv (N0 + 1) := hI.stop 0 (by omega)
  have hnw := hI.nways
  have hne : 0 < d.ways.length := List.length_pos_iff.2 hI.ne
  refine sp_of rfl (run_wp Try.func29 rfl (by simp [Try.f29]) ?_)
  simp
  have hn1 : 1 ≤ n := by omega
  refine (c_dStop hn1 hI (h.frame (fun _ _ => rfl) (by omega)) 0).cW ?_
  rintro _ hp1 n1 ⟨⟨hS1, fv, wv, fr, wr, hD⟩, g1, fr1⟩
  have hg := hD.top
  have hwl : wr.length = d.ways.length := hD.wr.1
  have hlt : leftN names d.ways.length < d.ways.length := leftN_lt names hne
  obtain ⟨w, hw⟩ : ∃ w, d.ways[leftN names d.ways.length]? = some w := ⟨_, List.getElem?_eq_getElem hlt⟩
  obtain ⟨row, hrow, a, b, rfl, h2, h3⟩ := hD.wr.get (show (d.stop 0).ways[leftN names d.ways.length]? = some w from hw)
  obtain ⟨kw, gw, iw, allw, rfl, e2, e3, e4, e5, e6⟩ := hD.ways.at hrow
  have hc := c_dleft (K := K) (n := n) (by omega) names d.ways.length hne (by omega)
  have cl : ((leftN names d.ways.length : Nat) : Int) < d.ways.length := by omega
  have hkn := hS1 k hD.topS
  have kwk : kw ≠ k := ne_of_lk e2 hg (by simp)
  have fk : ∀ c, ¬ k = n1 + c := fun c => by omega
  have fk' : ∀ c, ¬ n1 + c = k := fun c => by omega
  have d0 : (32 + 1) ≤ mostBytes := by rw [mostB]; omega
  simp [hg, lenA_sl, hwl, hc, e2, e3, cl, h2.okc, h3.okc, lk_set, fk, fk', Nat.add_assoc]
  refine ⟨⟨by kernel_rfl, by simp [dynOk, pairsOk, befOf, Region.binds, Eff.apart, Eff.clear, Eff.wkeys, Ref.key, AV.refs0, List.range, List.range.loop]⟩, ?_⟩
  have hIw := hI.way w (List.mem_of_getElem? hw)
  obtain ⟨dk, hdk⟩ : ∃ dk : List Fl → Dk, dk = fun fs => { d with ways := [w], left := 0, dead := false, files := fs } := ⟨_, rfl⟩
  have hcr : d.crash keeps names = dk (crashF keeps w 0 d.files) := by subst hdk; simp [Dk.crash, hw]
  rw [hcr] at hQ
  have hlow : ∀ j, j < nx → j ≠ k → lk (up (up hp1 (n1 + 17) (0, .arr 2 [[a, b]])) k (0, .cells [.i .i64 ((d.stop 0).quota : Nat), fv, .rs (n1 + 17) 0 0 1 2, .i .i64 (d.stop 0).left, .b (d.stop 0).dead])) j = lk hp j := fun j hj hjk => by
    rw [lk_set, if_neg hjk, lk_set, if_neg (by omega)]
    exact fr1 j (by omega) hjk
  have hS2 : ∀ j, grw S (nx + 2) n1 j → j < n1 := hS1
  have hE : DDk (up (up hp1 (n1 + 17) (0, .arr 2 [[a, b]])) k (0, .cells [.i .i64 ((d.stop 0).quota : Nat), fv, .rs (n1 + 17) 0 0 1 2, .i .i64 (d.stop 0).left, .b (d.stop 0).dead])) k fv (.rs (n1 + 17) 0 0 1 2) fr [[a, b]] (dk d.files) (grw S nx (n1 + 23)) := by
    subst hdk
    have hf : ∀ j, grw S (nx + 2) n1 j → j ≠ k → lk (up (up hp1 (n1 + 17) (0, .arr 2 [[a, b]])) k (0, .cells [.i .i64 ((d.stop 0).quota : Nat), fv, .rs (n1 + 17) 0 0 1 2, .i .i64 (d.stop 0).left, .b (d.stop 0).dead])) j = lk hp1 j := fun j hj hjk => by
      have := hS2 j hj
      rw [lk_set, if_neg hjk, lk_set, if_neg (by omega)]
    have hs : ∀ j, grw S (nx + 2) n1 j → grw S nx (n1 + 23) j := fun j hj => hj.elim .inl fun hj => .inr ⟨by omega, by omega⟩
    refine hD.turn hf hs (by simp [lk_set, Dk.stop]) (.inl ⟨rfl, rfl, rfl⟩) (.inr ⟨.inr ⟨n1 + 17, 0, 0, [[a, b]], rfl, by rw [lk_set, if_neg (fun e => fk 17 e.symm), lk_set, if_pos rfl], rfl, by simp, .inr ⟨by omega, by omega⟩⟩, rfl, fun i r w' p1 p2 => ?_⟩)
    cases i with
    | succ i => cases p1
    | zero =>
      cases p1; cases p2
      exact ⟨a, b, rfl, h2.of hg hf hs, h3.of hg hf hs⟩
  refine loop_wp (ι := Nat × Nat × AV × List (List AV) × List Fl × Hp × Nat) (fun i => { env := [(0, .ptr k 0 0), (1, .vs z 1 (intRows keeps)), (6, .lp 6 (n1 + 13) 0), (7, .i .i64 (i.2.1 : Nat)), (8, .i .i64 (i.1 : Nat))], loc := [(6, n1 + 13, .cells [a, b])], hp := i.2.2.2.2.2.1, nx := i.2.2.2.2.2.2 }) (fun i => w.length - i.1)
    (fun i => i.1 ≤ w.length ∧ i.2.1 ≤ i.1 ∧ n1 + 23 ≤ i.2.2.2.2.2.2 ∧ DDk i.2.2.2.2.2.1 k i.2.2.1 (.rs (n1 + 17) 0 0 1 2) i.2.2.2.1 [[a, b]] (dk i.2.2.2.2.1) (grw S nx i.2.2.2.2.2.2) ∧ i.2.2.2.2.1.length = d.files.length ∧ (∀ x ∈ i.2.2.2.2.1, x.b.length ≤ 2 ^ 24 ∧ x.fast ≤ x.b.length) ∧
      crashF keeps (w.drop i.1) i.2.1 i.2.2.2.2.1 = crashF keeps w 0 d.files ∧ ∀ j, j < nx → j ≠ k → lk i.2.2.2.2.2.1 j = lk hp j) (0, 0, fv, fr, d.files, _, _) rfl ⟨Nat.zero_le _, Nat.le_refl _, Nat.le_refl _, hE, rfl, hI.file, rfl, hlow⟩ (by simp; have := hIw.1; unfold big at hK; omega) ?_
  rintro Next ⟨i, at_, fv, fr, fs, H, N⟩ ⟨hi, hat, hN, hD, hfl, hfs, hcf, hfr⟩ hnext
  simp only at hi hat hN hD hfl hfs hcf hfr hnext ⊢
  have hwb := hIw.1
  obtain ⟨row, p1, a', b', rfl, h2, h3⟩ := hD.wr.get (show (dk fs).ways[0]? = some w by subst hdk; rfl)
  cases p1
  have hbl := h3.len'
  by_cases hlt : i < w.length
  · have c1 : (i : Int) < w.length := by omega
    have c3 : IntKind.i64.wrap ((i : Int) + 1) = ((i + 1 : Nat) : Int) := by rw [wrap_i64 (by omega) (by omega)]; omega
    obtain ⟨e, he⟩ : ∃ e, w[i]? = some e := ⟨w[i], List.getElem?_eq_getElem hlt⟩
    have hd : w.drop i = e :: w.drop (i + 1) := by
      rw [List.drop_eq_getElem_cons hlt, (List.getElem?_eq_some_iff.1 he).2]
    obtain ⟨kb, gb, jb, allb, rfl, b1, b2, b3, _⟩ := fi_at h3 he
    have hel : e.2 < fs.length := by rw [hfl]; exact (hIw.2.2 e (List.mem_of_getElem? he)).1
    have hdf : (dk fs).files = fs := by subst hdk; rfl
    obtain ⟨kf, gf, jf, allf, v, rfl, f1, f2, f3, f4, _⟩ := file_at (N := N0) hD (i := e.2) (by rw [hdf]; exact hel)
    obtain ⟨X, hX⟩ : ∃ X, fs[e.2]? = some X := ⟨_, List.getElem?_eq_getElem hel⟩
    have hXf : (dk fs).file e.2 = X := by simp [Dk.file, hdf, hX]
    rw [hXf] at f2 f3
    have hXl := hfs X (List.mem_of_getElem? hX)
    have hfrl : fr.length = fs.length := by have := hD.nfl; rwa [hdf] at this
    have hnf := hI.nfiles
    have hg := hD.top
    rw [hdf] at hg
    have ce : ((e.2 : Nat) : Int) < fs.length := by omega
    have hvl := f3.len'
    rw [hd] at hcf
    have w1 : IntKind.i64.wrap ((X.b.length : Int) - X.fast) = ((X.b.length - X.fast : Nat) : Int) := by rw [wrap_i64 (by omega) (by omega)]; omega
    by_cases hop : X.fast < X.b.length
    · have hgt : (0 : Int) < ((X.b.length - X.fast : Nat) : Int) := by omega
      have hgt' : X.fast < X.b.length := hop
      rcases f3 with ⟨hb0, zv, rfl⟩ | ⟨kv, gv, jv, allv, rfl, l1, l2, l3, l4⟩
      · have : X.b = [] := by simpa [byteRows] using hb0
        rw [this] at hop
        simp at hop
      obtain ⟨q, hq⟩ : ∃ q, q = X.b.length - X.fast := ⟨_, rfl⟩
      have w1' : IntKind.i64.wrap ((X.b.length : Int) - X.fast) = (q : Nat) := by rw [w1, hq]
      have hgt : (0 : Int) < (q : Nat) := by omega
      have hgt0 : 0 < q := by omega
      have wa : IntKind.i64.wrap ((at_ : Int) + 1) = ((at_ + 1 : Nat) : Int) := by rw [wrap_i64 (by omega) (by omega)]; omega
      have wq : IntKind.i64.wrap ((q : Int) + 1) = (q : Int) + 1 := wrap_i64 (by omega) (by omega)
      have lkv := grw_lt hS (by omega) kv l4
      have l2' : (allv.drop jv).take X.b.length = byteRows X.b := by simpa using l2
      have l3' : jv + X.b.length ≤ allv.length := by simpa using l3
      by_cases hk0 : keeps = []
      · subst hk0
        have hcl := c_dleft (K := K) (n := n) hn1 0 (q + 1) (by omega) (by omega)
        have hll := leftN_lt 0 (n := q + 1) (by omega)
        obtain ⟨r, hr⟩ : ∃ r, r = leftN 0 (q + 1) := ⟨_, rfl⟩
        rw [← hr] at hcl hll
        push_cast at hcl
        have wr' : IntKind.i64.wrap ((X.fast : Int) + r) = ((X.fast + r : Nat) : Int) := by rw [wrap_i64 (by omega) (by omega)]; omega
        have cr : X.fast + r ≤ X.b.length := by omega
        have cr' : (X.fast : Int) + r ≤ X.b.length := by omega
        have cr0 : (0 : Int) ≤ (X.fast : Int) + r := by omega
        have ct : ((X.fast : Int) + r).toNat = X.fast + r := by omega
        have hnb : (X.b.take (X.fast + r)).length = X.fast + r := by simp; omega
        have e0 : (intRows ([] : List Int)) = [] := rfl
        simp [hg, b1, b2, f1, f2, lenA_sl, c1, ce, w1', hgt, hgt0, e0, wa, wq, hcl, wr', l1, cr, cr', cr0, ct, l3']
        refine ⟨⟨by kernel_rfl, by simp [dynOk, pairsOk, befOf, Region.binds, Eff.apart, Eff.clear, Eff.wkeys, Ref.key, AV.refs0, List.range, List.range.loop]⟩, ?_⟩
        refine ⟨⟨by kernel_rfl, by simp [dynOk, pairsOk, befOf, Region.binds, Eff.apart, Eff.clear, Eff.wkeys, Ref.key, AV.refs0, List.range, List.range.loop]⟩, ?_⟩
        refine (c_dset hn1 k _ _ _ _ _ (.rs kv gv jv (X.fast + r) 1) _ fr e.2 H _ (grw S nx N) (fun j hj => by have := grw_lt hS (by omega) j hj; omega) hD.top hD.topS hD.files (by omega) hD.rows2 (by omega) rfl rfl).cW ?_
        rintro _ hp2 n4 ⟨fv', g4, top4, sv4, fr4⟩
        simp [c3]
        refine ⟨⟨by kernel_rfl, by simp [dynOk, pairsOk, befOf, Region.binds, Eff.apart, Eff.clear, Eff.wkeys, Ref.key, AV.refs0, List.range, List.range.loop]⟩, ?_⟩
        have hE2 := set_end (b := X.b.take (X.fast + r)) (x := X.fast + r) hD (fun j hj => by have := grw_lt hS (by omega) j hj; omega) (by omega) top4 (by simpa using sv4) fr4 (.inr ⟨kv, gv, jv, allv, by simp [hnb], (fr4 kv (by omega) (ne_of_lk l1 hD.top (by simp))).trans l1, by rw [byteRows_len, hnb, byteRows_take, ← l2', List.take_take, Nat.min_eq_left cr], by rw [byteRows_len, hnb]; omega, .inl l4⟩)
        refine hnext (i + 1, at_ + 1, fv', fr.set e.2 [(.rs kv gv jv (X.fast + r) 1), .i .i64 ((X.fast + r : Nat) : Int)], fs.set e.2 ⟨X.b.take (X.fast + r), X.fast + r⟩, hp2, _) (by simp only; omega) ⟨by simp only; omega, by simp only; omega, by simp only; omega, ?_, by simpa using hfl, fun x hx => ?_, ?_, fun j hj hjk => (fr4 j (by omega) hjk).trans (hfr j hj hjk)⟩
        · have hx : (dk fs).setF e.2 ⟨X.b.take (X.fast + r), X.fast + r⟩ = dk (fs.set e.2 ⟨X.b.take (X.fast + r), X.fast + r⟩) := by subst hdk; rfl
          rw [hx] at hE2
          refine hE2.widen fun j hj => ?_
          rcases hj with (hj | hj) | hj
          · exact .inl hj
          · exact .inr ⟨hj.1, by simp only; omega⟩
          · exact .inr ⟨by omega, by simp only; omega⟩
        · rcases List.mem_or_eq_of_mem_set hx with hx | hx
          · exact hfs x hx
          · subst hx
            simp only [hnb]
            exact ⟨by omega, Nat.le_refl _⟩
        · rw [← hcf]
          simp only [crashF, hX, Option.getD_some]
          simp [hop, Fl.crash, ← hq, ← hr, hnb]
      · have hkp : 0 < keeps.length := List.length_pos_iff.2 hk0
        have hzf : z = false := by
          cases z with
          | false => rfl
          | true => exact absurd (hz rfl) hk0
        subst hzf
        obtain ⟨kk, hkk⟩ : ∃ kk, keeps[at_ % keeps.length]? = some kk := ⟨_, List.getElem?_eq_getElem (Nat.mod_lt _ hkp)⟩
        have hcl := c_dleft (K := K) (n := n) hn1 kk (q + 1) (by omega) (by omega)
        have hll := leftN_lt kk (n := q + 1) (by omega)
        obtain ⟨r, hr⟩ : ∃ r, r = leftN kk (q + 1) := ⟨_, rfl⟩
        rw [← hr] at hcl hll
        push_cast at hcl
        have wr' : IntKind.i64.wrap ((X.fast : Int) + r) = ((X.fast + r : Nat) : Int) := by rw [wrap_i64 (by omega) (by omega)]; omega
        have cr : X.fast + r ≤ X.b.length := by omega
        have cr' : (X.fast : Int) + r ≤ X.b.length := by omega
        have cr0 : (0 : Int) ≤ (X.fast : Int) + r := by omega
        have ct : ((X.fast : Int) + r).toNat = X.fast + r := by omega
        have hnb : (X.b.take (X.fast + r)).length = X.fast + r := by simp; omega
        have m1 : (at_ : Int).tmod keeps.length = ((at_ % keeps.length : Nat) : Int) := rfl
        have m2 : (0 : Int) ≤ (at_ : Int).tmod keeps.length := by rw [m1]; omega
        have m3 : ((at_ : Int).tmod keeps.length).toNat = at_ % keeps.length := by rw [m1]; rfl
        have m4 : (intRows keeps)[at_ % keeps.length]? = some [.i .i64 kk] := by simp [intRows, hkk]
        have m5 : ¬ keeps.length = 0 := by omega
        have m6 : (0 : Int) < keeps.length := by omega
        simp [hg, b1, b2, f1, f2, lenA_sl, c1, ce, w1', hgt, hgt0, hk0, wa, wq, hcl, wr', l1, cr, cr', cr0, ct, l3', m2, m3, m4, m5, m6, hkp]
        refine ⟨⟨by kernel_rfl, by simp [dynOk, pairsOk, befOf, Region.binds, Eff.apart, Eff.clear, Eff.wkeys, Ref.key, AV.refs0, List.range, List.range.loop]⟩, ?_⟩
        refine ⟨⟨by kernel_rfl, by simp [dynOk, pairsOk, befOf, Region.binds, Eff.apart, Eff.clear, Eff.wkeys, Ref.key, AV.refs0, List.range, List.range.loop]⟩, ?_⟩
        refine (c_dset hn1 k _ _ _ _ _ (.rs kv gv jv (X.fast + r) 1) _ fr e.2 H _ (grw S nx N) (fun j hj => by have := grw_lt hS (by omega) j hj; omega) hD.top hD.topS hD.files (by omega) hD.rows2 (by omega) rfl rfl).cW ?_
        rintro _ hp2 n4 ⟨fv', g4, top4, sv4, fr4⟩
        simp [c3]
        refine ⟨⟨by kernel_rfl, by simp [dynOk, pairsOk, befOf, Region.binds, Eff.apart, Eff.clear, Eff.wkeys, Ref.key, AV.refs0, List.range, List.range.loop]⟩, ?_⟩
        have hE2 := set_end (b := X.b.take (X.fast + r)) (x := X.fast + r) hD (fun j hj => by have := grw_lt hS (by omega) j hj; omega) (by omega) top4 (by simpa using sv4) fr4 (.inr ⟨kv, gv, jv, allv, by simp [hnb], (fr4 kv (by omega) (ne_of_lk l1 hD.top (by simp))).trans l1, by rw [byteRows_len, hnb, byteRows_take, ← l2', List.take_take, Nat.min_eq_left cr], by rw [byteRows_len, hnb]; omega, .inl l4⟩)
        refine hnext (i + 1, at_ + 1, fv', fr.set e.2 [(.rs kv gv jv (X.fast + r) 1), .i .i64 ((X.fast + r : Nat) : Int)], fs.set e.2 ⟨X.b.take (X.fast + r), X.fast + r⟩, hp2, _) (by simp only; omega) ⟨by simp only; omega, by simp only; omega, by simp only; omega, ?_, by simpa using hfl, fun x hx => ?_, ?_, fun j hj hjk => (fr4 j (by omega) hjk).trans (hfr j hj hjk)⟩
        · have hx : (dk fs).setF e.2 ⟨X.b.take (X.fast + r), X.fast + r⟩ = dk (fs.set e.2 ⟨X.b.take (X.fast + r), X.fast + r⟩) := by subst hdk; rfl
          rw [hx] at hE2
          refine hE2.widen fun j hj => ?_
          rcases hj with (hj | hj) | hj
          · exact .inl hj
          · exact .inr ⟨hj.1, by simp only; omega⟩
          · exact .inr ⟨by omega, by simp only; omega⟩
        · rcases List.mem_or_eq_of_mem_set hx with hx | hx
          · exact hfs x hx
          · subst hx
            simp only [hnb]
            exact ⟨by omega, Nat.le_refl _⟩
        · rw [← hcf]
          simp only [crashF, hX, Option.getD_some]
          simp [hop, Fl.crash, hk0, hkk, ← hq, ← hr, hnb]
    · have hz0 : X.b.length - X.fast = 0 := by omega
      simp [hg, b1, b2, f1, f2, lenA_sl, c1, ce, hvl, f3.okc, w1, hz0]
      refine ⟨⟨by kernel_rfl, by simp [dynOk, pairsOk, befOf, Region.binds, Eff.apart, Eff.clear, Eff.wkeys, Ref.key, AV.refs0, List.range, List.range.loop]⟩, ?_⟩
      refine (c_dset hn1 k _ _ _ _ _ v _ fr e.2 H _ (grw S nx N) (fun j hj => by have := grw_lt hS (by omega) j hj; omega) hD.top hD.topS hD.files (by omega) hD.rows2 (by omega) f3.okc f3.mv).cW ?_
      rintro _ hp2 n4 ⟨fv', g4, top4, sv4, fr4⟩
      simp [c3]
      refine ⟨⟨by kernel_rfl, by simp [dynOk, pairsOk, befOf, Region.binds, Eff.apart, Eff.clear, Eff.wkeys, Ref.key, AV.refs0, List.range, List.range.loop]⟩, ?_⟩
      have hE2 := set_end (b := X.b) (x := X.b.length) hD (fun j hj => by have := grw_lt hS (by omega) j hj; omega) (by omega) top4 (by simpa using sv4) fr4 (f3.of hD.top (fun j hj hjk => fr4 j (by have := grw_lt hS (by omega) j hj; omega) hjk) fun j hj => .inl hj)
      refine hnext (i + 1, at_, fv', fr.set e.2 [v, .i .i64 (X.b.length : Nat)], fs.set e.2 ⟨X.b, X.b.length⟩, hp2, _) (by simp only; omega) ⟨by simp only; omega, by simp only; omega, by simp only; omega, ?_, by simpa using hfl, fun x hx => ?_, ?_, fun j hj hjk => (fr4 j (by omega) hjk).trans (hfr j hj hjk)⟩
      · have hx : (dk fs).setF e.2 ⟨X.b, X.b.length⟩ = dk (fs.set e.2 ⟨X.b, X.b.length⟩) := by subst hdk; rfl
        rw [hx] at hE2
        refine hE2.widen fun j hj => ?_
        rcases hj with (hj | hj) | hj
        · exact .inl hj
        · exact .inr ⟨hj.1, by simp only; omega⟩
        · exact .inr ⟨by omega, by simp only; omega⟩
      · rcases List.mem_or_eq_of_mem_set hx with hx | hx
        · exact hfs x hx
        · subst hx
          simp only
          exact ⟨hXl.1, Nat.le_refl _⟩
      · rw [← hcf]
        simp only [crashF, hX, Option.getD_some]
        simp only [if_neg hop, Fl.crash]
  · obtain rfl : i = w.length := by omega
    simp only [List.drop_length, crashF] at hcf
    simp [lenA_sl, hbl]
    refine hQ _ _ _ ?_
    rw [← hcf]
    exact ⟨⟨grw_lt hS (by omega), _, _, _, _, hD.widen fun j hj => hj.elim .inl fun hj => .inr ⟨hj.1, by omega⟩⟩, by omega, hfr⟩

end Ab
end Go.Proofs.Ytecjchghapgdeaa

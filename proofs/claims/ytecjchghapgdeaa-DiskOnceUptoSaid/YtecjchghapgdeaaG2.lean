/-
  DERIVED. The document's disk: Remove, Rename, Stop, SyncNames.
  Conditions: enough rounds, enough depth; a disk of bounded size.
-/
import Derived.Test.YtecjchghapgdeaaG0
import Derived.Test.YtecjchghapgdeaaF8
set_option linter.all false
set_option maxHeartbeats 4000000
namespace Go.Proofs.Ytecjchghapgdeaa
namespace Ab
set_option maxRecDepth 100000
set_option maxHeartbeats 8000000
set_option linter.all false
attribute [local simp] wp_regW opsW_nil opsW_cons opsK_eq regK_no regK_draw oW_n oW_h oW_r oW_pn appendA appRow newsA rowsSz rowsOf isIntD makeSliceA elemOf rowsBuilt eqA eq1

/-- What a call on the document's disk leaves. -/
abbrev DEnd (k : Nat) (hp : Hp) (nx : Nat) (S : Nat → Prop) (d' : Dk) (hp' : Hp) (nx' : Nat) : Prop := DRep hp' nx' k d' (grw S nx nx') ∧ nx ≤ nx' ∧ ∀ j, j < nx → j ≠ k → lk hp' j = lk hp j

theorem c_dRemove {K n N0 : Nat} (hK : big K) (hn : 3 ≤ n) {d : Dk} {k : Nat} {hp : Hp} {nx : Nat} {S : Nat → Prop} (hI : d.Inv N0) (hN0 : N0 ≤ 2 ^ 20) (h : DRep hp nx k d S) (s : Bs) (hs : s.length ≤ 2 ^ 40) :
    Sp K n 47 [.ptr k 0 0, .s (ba s)] hp nx fun r hp' nx' => r = .i .i64 (d.remove s).1 ∧ DEnd k hp nx S (d.remove s).2 hp' nx' := by
  refine sp_cps fun Q hQ => ?_
  obtain ⟨n, rfl⟩ : ∃ m, n = m + 1 := ⟨n - 1, by omega⟩
  have hR := h
  obtain ⟨hS, fv, wv, fr, wr, h⟩ := h
  have hg := h.top
  have hnl := hI.nowlen
  have hnw := hI.nways
  refine sp_of rfl (run_wp Try.func47 rfl (by simp [Try.f47]) ?_)
  simp
  refine (c_dat hK (by omega) hI (by omega) h s hs).cW ?_
  rintro _ _ n1 ⟨rfl, rfl, g1⟩
  cases hn : nameOk s with
  | false =>
    have hd : d.remove s = (6, d) := by simp [Dk.remove, Dk.at, hn]
    simp [datR, hn]
    refine hQ _ _ _ ?_
    rw [hd]
    exact ⟨rfl, hR.same (by omega), by omega, fun _ _ _ => rfl⟩
  | true =>
    cases hi : findW d.now s with
    | none =>
      have hd : d.remove s = (40, d) := by simp [Dk.remove, Dk.at, hn, hi]
      simp [datR, hn, hi]
      refine hQ _ _ _ ?_
      rw [hd]
      exact ⟨rfl, hR.same (by omega), by omega, fun _ _ _ => rfl⟩
    | some i =>
      simp [datR, hn, hi]
      refine (c_dstops (by omega) hI hg).cW ?_
      rintro _ hp1 n3 ⟨rfl, g3, ho⟩
      have hD := h.stopped ho
      cases hsp : d.stops with
      | true =>
        have hd : d.remove s = (44, d.stop1) := by simp [Dk.remove, Dk.at, hn, hi, Dk.goes, hsp]
        simp
        refine hQ _ _ _ ?_
        rw [hd]
        exact ⟨rfl, hD.rep hS (by omega), by omega, fun j _ hj => ho.ne hj⟩
      | false =>
        have hd : d.remove s = (0, d.stop1.with (delW d.stop1.now s)) := by simp [Dk.remove, Dk.at, hn, hi, Dk.goes, hsp]
        simp
        have hI1 := hI.stop1
        obtain ⟨a, b, hrow, h2, h3⟩ := hD.nowv hI1
        have hwl := hD.wr.1
        simp at hwl
        refine (c_dnow2 (by omega) hD.top hD.ways (by omega) hrow h2.okc h3.okc).cW ?_
        rintro _ _ n4 ⟨rfl, g4, rfl⟩
        simp
        refine (c_dwith (S := S) hK (by omega) (fun j hj => by have := hS j hj; omega) h2 h3 hI1.nowlen s (-1) (by omega)).cW ?_
        rintro _ hp2 n5 ⟨g5, fr5, oa, ob, rfl, t5⟩
        have hk := hS k h.topS
        simp [t5.ok1, t5.ok2]
        have hS4 : ∀ j, S j → j < n4 := fun j hj => by have := hS j hj; omega
        have hw5 : SV 2 hp2 S wv wr := hD.ways.mono (fun j hj => fr5 j (hS4 j hj)) fun _ h => h
        refine (c_dchanges (by omega) k _ _ _ _ _ oa ob wr hp2 n5 S (fun j hj => by have := hS4 j hj; omega) ((fr5 k (hS4 k h.topS)).trans hD.top) h.topS hw5 (fun e => by rw [e] at hwl; exact hI.ne (List.length_eq_zero_iff.1 hwl.symm)) (by omega) t5.ok1 t5.ok2 t5.mv1 t5.mv2).cW ?_
        rintro _ hp3 n6 ⟨wv', g6, top6, sv6, fr6⟩
        simp
        refine hQ _ _ _ ?_
        rw [hd]
        have hE := push_end hD hS4 g5 fr5 t5 g6 top6 sv6 fr6
        exact ⟨rfl, hE.rep2 hS (by omega) (by omega) (by omega), by omega, fun j hj hjk => (fr6 j (by omega) hjk).trans ((fr5 j (by omega)).trans (ho.ne hjk))⟩

theorem Two.sv1 {H : Hp} {lo hi : Nat} {oa ob : AV} {w : Way} (h : Two H lo hi oa ob w) : SV 1 H (fun j => lo ≤ j ∧ j < hi) oa (nameRows w) := by
  obtain ⟨a, b, h1, h2, h3⟩ := h.wr (S := fun j => lo ≤ j ∧ j < hi) fun j a b => ⟨a, b⟩
  cases h1
  exact h2
theorem Two.sv2 {H : Hp} {lo hi : Nat} {oa ob : AV} {w : Way} (h : Two H lo hi oa ob w) : SV 1 H (fun j => lo ≤ j ∧ j < hi) ob (fiRows w) := by
  obtain ⟨a, b, h1, h2, h3⟩ := h.wr (S := fun j => lo ≤ j ∧ j < hi) fun j a b => ⟨a, b⟩
  cases h1
  exact h3
theorem Two.lower {H : Hp} {lo lo' hi : Nat} {oa ob : AV} {w : Way} (h : Two H lo hi oa ob w) (hl : lo' ≤ lo) : Two H lo' hi oa ob w := by
  rcases h with h | ⟨ka, ga, kb, gb, h1, h2, h3, h4, h5, h6, h7, h8, h9⟩
  · exact .inl h
  · exact .inr ⟨ka, ga, kb, gb, h1, h2, h3, h4, h5, by omega, h7, by omega, h9⟩

theorem c_dRename {K n N0 : Nat} (hK : big K) (hn : 3 ≤ n) {d : Dk} {k : Nat} {hp : Hp} {nx : Nat} {S : Nat → Prop} (hI : d.Inv N0) (hN0 : N0 ≤ 2 ^ 20) (h : DRep hp nx k d S) (s t : Bs) (hs : s.length ≤ 2 ^ 40) (ht : t.length ≤ 2 ^ 40) :
    Sp K n 45 [.ptr k 0 0, .s (ba s), .s (ba t)] hp nx fun r hp' nx' => r = .i .i64 (d.rename s t).1 ∧ DEnd k hp nx S (d.rename s t).2 hp' nx' := by
  refine sp_cps fun Q hQ => ?_
  obtain ⟨n, rfl⟩ : ∃ m, n = m + 1 := ⟨n - 1, by omega⟩
  have hR := h
  obtain ⟨hS, fv, wv, fr, wr, h⟩ := h
  have hg := h.top
  have hnl := hI.nowlen
  have hnw := hI.nways
  have hc := c_dName (n := n) hK (by omega) s hs
  have hc2 := c_dName (n := n) hK (by omega) t ht
  refine sp_of rfl (run_wp Try.func45 rfl (by simp [Try.f45]) ?_)
  cases hn : nameOk s with
  | false =>
    have hd : d.rename s t = (6, d) := by simp [Dk.rename, hn]
    simp [hc, hc2, hn]
    refine hQ _ _ _ ?_
    rw [hd]
    exact ⟨rfl, hR.same (by omega), by omega, fun _ _ _ => rfl⟩
  | true =>
  cases hnt : nameOk t with
  | false =>
    have hd : d.rename s t = (6, d) := by simp [Dk.rename, hnt]
    simp [hc, hc2, hn, hnt]
    refine hQ _ _ _ ?_
    rw [hd]
    exact ⟨rfl, hR.same (by omega), by omega, fun _ _ _ => rfl⟩
  | true =>
    simp [hc, hc2, hn, hnt]
    refine (c_dat hK (by omega) hI (by omega) h s hs).cW ?_
    rintro _ _ n1 ⟨rfl, rfl, g1⟩
    cases hi : findW d.now s with
    | none =>
      have hd : d.rename s t = (40, d) := by simp [Dk.rename, Dk.at, hn, hnt, hi]
      simp [datR, hn, hi]
      refine hQ _ _ _ ?_
      rw [hd]
      exact ⟨rfl, hR.same (by omega), by omega, fun _ _ _ => rfl⟩
    | some i =>
      simp [datR, hn, hi]
      refine (c_dstops (by omega) hI hg).cW ?_
      rintro _ hp1 n3 ⟨rfl, g3, ho⟩
      have hD := h.stopped ho
      cases hsp : d.stops with
      | true =>
        have hd : d.rename s t = (44, d.stop1) := by simp [Dk.rename, Dk.at, hn, hnt, hi, Dk.goes, hsp]
        simp
        refine hQ _ _ _ ?_
        rw [hd]
        exact ⟨rfl, hD.rep hS (by omega), by omega, fun j _ hj => ho.ne hj⟩
      | false =>
        by_cases hst : s = t
        · subst hst
          have hd : d.rename s s = (0, d.stop1) := by simp [Dk.rename, Dk.at, hn, hi, Dk.goes, hsp]
          simp [ba_list]
          refine hQ _ _ _ ?_
          rw [hd]
          exact ⟨rfl, hD.rep hS (by omega), by omega, fun j _ hj => ho.ne hj⟩
        have hd : d.rename s t = (0, d.stop1.with (insW (delW d.stop1.now s) t i)) := by simp [Dk.rename, Dk.at, hn, hnt, hi, Dk.goes, hsp, hst]
        have hst' : (s == t) = false := by simpa using hst
        simp [ba_list, hst, hst']
        have hI1 := hI.stop1
        obtain ⟨a, b, hrow, h2, h3⟩ := hD.nowv hI1
        have hwl := hD.wr.1
        simp at hwl
        refine (c_dnow2 (by omega) hD.top hD.ways (by omega) hrow h2.okc h3.okc).cW ?_
        rintro _ hp0 n4 ⟨rfl, g4, rfl⟩
        simp
        have hS4 : ∀ j, S j → j < n4 := fun j hj => by have := hS j hj; omega
        refine (c_dwith (S := S) hK (by omega) hS4 h2 h3 hI1.nowlen s (-1) (by omega)).cW ?_
        rintro _ hp2 n5 ⟨g5, fr5, oa, ob, rfl, t5⟩
        simp [t5.ok1, t5.ok2]
        have hil := (hI.found hi).2
        have hnf := hI.nfiles
        have hdl : (withX d.stop1.now s (-1)).length ≤ 64 := Nat.le_trans (List.length_filter_le _ _) hI1.nowlen
        refine (c_dwith (S := fun j => n4 ≤ j ∧ j < n5) hK (by omega) (fun j hj => hj.2) t5.sv1 t5.sv2 hdl t (i : Nat) (by omega)).cW ?_
        rintro _ hp3 n6 ⟨g6, fr6, oc, od, rfl, t6⟩
        simp [t6.ok1, t6.ok2]
        have fr56 : ∀ j, j < n4 → lk hp3 j = lk hp0 j := fun j hj => (fr6 j (by omega)).trans (fr5 j hj)
        have hw5 : SV 2 hp3 S wv wr := hD.ways.mono (fun j hj => fr56 j (hS4 j hj)) fun _ h => h
        refine (c_dchanges (by omega) k _ _ _ _ _ oc od wr hp3 n6 S (fun j hj => by have := hS4 j hj; omega) ((fr56 k (hS4 k h.topS)).trans hD.top) h.topS hw5 (fun e => by rw [e] at hwl; exact hI.ne (List.length_eq_zero_iff.1 hwl.symm)) (by omega) t6.ok1 t6.ok2 t6.mv1 t6.mv2).cW ?_
        rintro _ hp4 n7 ⟨wv', g7, top7, sv7, fr7⟩
        simp
        refine hQ _ _ _ ?_
        rw [hd]
        have hE := push_end hD hS4 (by omega) fr56 (t6.lower g5) g7 top7 sv7 fr7
        have hx : withX (withX d.stop1.now s (-1)) t (i : Nat) = insW (delW d.stop1.now s) t i := by
          have : ¬ ((i : Nat) : Int) < 0 := by omega
          simp [withX, this]
        rw [hx] at hE
        exact ⟨rfl, hE.rep2 hS (by omega) (by omega) (by omega), by omega, fun j hj hjk => (fr7 j (by omega) hjk).trans ((fr56 j (by omega)).trans (ho.ne hjk))⟩

theorem c_dStop {K n N0 : Nat} (hn : 1 ≤ n) {d : Dk} {k : Nat} {hp : Hp} {nx : Nat} {S : Nat → Prop} (hI : d.Inv N0) (h : DRep hp nx k d S) (x : Int) :
    Sp K n 50 [.ptr k 0 0, .i .i64 x] hp nx fun _ hp' nx' => DEnd k hp nx S (d.stop x) hp' nx' := by
  refine sp_cps fun Q hQ => ?_
  obtain ⟨n, rfl⟩ : ∃ m, n = m + 1 := ⟨n - 1, by omega⟩
  obtain ⟨hS, fv, wv, fr, wr, h⟩ := h
  have hg := h.top
  refine sp_of rfl (run_wp Try.func50 rfl (by simp [Try.f50]) ?_)
  simp [hg, lk_set, up_up]
  refine hQ _ _ _ ?_
  refine ⟨⟨grw_lt hS (by omega), fv, wv, fr, wr, h.turn (fun j _ hj => by rw [lk_set, if_neg hj]) (fun _ h => .inl h) (by simp [lk_set, Dk.stop]) (.inl ⟨rfl, rfl, rfl⟩) (.inl ⟨rfl, rfl, rfl⟩)⟩, by omega, fun j _ hj => by rw [lk_set, if_neg hj]⟩

theorem c_dSyncNames {K n N0 : Nat} (hn : 2 ≤ n) {d : Dk} {k : Nat} {hp : Hp} {nx : Nat} {S : Nat → Prop} (hI : d.Inv N0) (hN0 : N0 ≤ 2 ^ 20) (h : DRep hp nx k d S) :
    Sp K n 49 [.ptr k 0 0] hp nx fun r hp' nx' => r = .i .i64 d.syncNames.1 ∧ DEnd k hp nx S d.syncNames.2 hp' nx' := by
  refine sp_cps fun Q hQ => ?_
  obtain ⟨n, rfl⟩ : ∃ m, n = m + 1 := ⟨n - 1, by omega⟩
  obtain ⟨hS, fv, wv, fr, wr, h⟩ := h
  have hg := h.top
  have hnw := hI.nways
  refine sp_of rfl (run_wp Try.func49 rfl (by simp [Try.f49]) ?_)
  simp
  refine (c_dstops (by omega) hI hg).cW ?_
  rintro _ hp1 n3 ⟨rfl, g3, ho⟩
  have hD := h.stopped ho
  cases hsp : d.stops with
  | true =>
    have hd : d.syncNames = (44, d.stop1) := by simp [Dk.syncNames, Dk.goes, hsp]
    simp
    refine hQ _ _ _ ?_
    rw [hd]
    exact ⟨rfl, hD.rep hS (by omega), by omega, fun j _ hj => ho.ne hj⟩
  | false =>
    have hd : d.syncNames = (0, { d.stop1 with ways := [d.stop1.now] }) := by simp [Dk.syncNames, Dk.goes, hsp]
    have hI1 := hI.stop1
    have hg1 := hD.top
    obtain ⟨a, b, hrow, h2, h3⟩ := hD.nowv hI1
    have hwl := hD.wr.1
    simp at hwl
    have hne : 0 < d.ways.length := List.length_pos_iff.2 hI.ne
    obtain ⟨kw, g, i0, all, rfl, e2, e3, e4, e5, e6⟩ := hD.ways.at hrow
    have kwk : kw ≠ k := ne_of_lk e2 hg1 (by simp)
    have w1 : IntKind.i64.wrap ((wr.length : Int) - 1) = ((wr.length - 1 : Nat) : Int) := by rw [wrap_i64 (by omega) (by omega)]; omega
    have w2 : wr.length - (wr.length - 1) = 1 := by omega
    simp [hg1, lenA_sl, w1, e2, e5, lk_set, w2]
    refine ⟨⟨by kernel_rfl, by simp [dynOk, pairsOk, befOf, Region.binds, Eff.apart, Eff.clear, Eff.wkeys, Ref.key, AV.refs0, List.range, List.range.loop]⟩, ?_⟩
    refine hQ _ _ _ ?_
    rw [hd]
    refine ⟨rfl, ⟨grw_lt hS (by omega), fv, _, fr, [[a, b]], hD.turn (fun j _ hj => by rw [lk_set, if_neg hj]) (fun _ h => .inl h) (by simp [lk_set]) (.inl ⟨rfl, rfl, rfl⟩) (.inr ⟨.inr ⟨kw, g, i0 + (wr.length - 1), all, rfl, by rw [lk_set, if_neg kwk, e2], ?_, ?_, .inl e4⟩, ?_⟩)⟩, by omega, fun j _ hj => by rw [lk_set, if_neg hj, ho.ne hj]⟩
    · have hlt : i0 + (wr.length - 1) < all.length := by omega
      have hx : all.drop (i0 + (wr.length - 1)) = [a, b] :: all.drop (i0 + (wr.length - 1) + 1) := by
        rw [List.drop_eq_getElem_cons hlt, (List.getElem?_eq_some_iff.1 e3).2]
      rw [hx]
      rfl
    · simp only [List.length_cons, List.length_nil]
      omega
    · refine ⟨rfl, fun i r w h1 h2' => ?_⟩
      cases i with
      | succ i => cases h1
      | zero =>
        cases h1; cases h2'
        exact ⟨a, b, rfl, h2.of hg1 (fun j hj hjk => by rw [lk_set, if_neg hjk]) fun _ h => .inl h, h3.of hg1 (fun j hj hjk => by rw [lk_set, if_neg hjk]) fun _ h => .inl h⟩

end Ab
end Go.Proofs.Ytecjchghapgdeaa

/-
  DERIVED. The document's disk: Sync, Cut, Read, Fast, Open, List.
  Conditions: enough rounds, enough depth; a disk of bounded size.
-/
namespace Go.Proofs.Ytecjchghapgdeaa
namespace Ab
set_option maxRecDepth 100000
set_option maxHeartbeats 8000000
set_option linter.all false
attribute [local simp] wp_regW opsW_nil opsW_cons opsK_eq regK_no regK_draw oW_n oW_h oW_r oW_pn appendA appRow newsA rowsSz rowsOf isIntD makeSliceA elemOf rowsBuilt eqA eq1

theorem DDk.nfl {H : Hp} {k : Nat} {d : Dk} {S : Nat → Prop} {fv wv : AV} {fr wr : List (List AV)} (h : DDk H k fv wv fr wr d S) : fr.length = d.files.length := h.fr.1

/-- Behind a file that turned, told as a call's end. -/
theorem set_rep {N N' k i x nx nx' : Nat} {H H' : Hp} {d : Dk} {S : Nat → Prop} {fv fv' wv v : AV} {fr wr : List (List AV)} {b : Bs} (h : DDk H k fv wv fr wr d S) (hS : ∀ j, S j → j < nx) (hx : nx ≤ N) (hN : N ≤ N') (hx' : N' ≤ nx')
    (top : lk H' k = some (0, .cells [.i .i64 (d.quota : Nat), fv', wv, .i .i64 d.left, .b d.dead])) (sv : SV 2 H' (fun j => N ≤ j ∧ j < N') fv' (fr.set i [v, .i .i64 (x : Nat)]))
    (f : ∀ j, j < N → j ≠ k → lk H' j = lk H j) (hv : SV 1 H' (grw S nx nx') v (byteRows b)) : DRep H' nx' k (d.setF i ⟨b, x⟩) (grw S nx nx') := by
  have hf : ∀ j, S j → j ≠ k → lk H' j = lk H j := fun j hj => f j (by have := hS j hj; omega)
  refine ⟨grw_lt hS (by omega), fv', wv, _, wr, h.turn hf (fun _ h => .inl h) top (.inr ⟨sv.mono (fun _ _ => rfl) fun j hj => .inr ⟨by omega, by omega⟩, ?_⟩) (.inl ⟨rfl, rfl, rfl⟩)⟩
  exact (h.fr.imp fun r x hr => hr.of h.top hf fun _ h => .inl h).set ⟨v, rfl, hv⟩

theorem c_dSync {K n N0 : Nat} (hK : big K) (hn : 3 ≤ n) {d : Dk} {k : Nat} {hp : Hp} {nx : Nat} {S : Nat → Prop} (hI : d.Inv N0) (hN0 : N0 ≤ 2 ^ 20) (h : DRep hp nx k d S) (s : Bs) (hs : s.length ≤ 2 ^ 40) :
    Sp K n 48 [.ptr k 0 0, .s (ba s)] hp nx fun r hp' nx' => r = .i .i64 (d.sync s).1 ∧ DEnd k hp nx S (d.sync s).2 hp' nx' := by
  refine sp_cps fun Q hQ => ?_
  obtain ⟨n, rfl⟩ : ∃ m, n = m + 1 := ⟨n - 1, by omega⟩
  have hR := h
  obtain ⟨hS, fv, wv, fr, wr, h⟩ := h
  have hg := h.top
  have hnl := hI.nfiles
  refine sp_of rfl (run_wp Try.func48 rfl (by simp [Try.f48]) ?_)
  simp
  refine (c_dat hK (by omega) hI (by omega) h s hs).cW ?_
  rintro _ hp0 n1 ⟨rfl, rfl, g1⟩
  cases hn : nameOk s with
  | false =>
    have hd : d.sync s = (6, d) := by simp [Dk.sync, Dk.at, hn]
    simp [datR, hn]
    refine hQ _ _ _ ?_
    rw [hd]
    exact ⟨rfl, hR.same (by omega), by omega, fun _ _ _ => rfl⟩
  | true =>
    cases hi : findW d.now s with
    | none =>
      have hd : d.sync s = (40, d) := by simp [Dk.sync, Dk.at, hn, hi]
      simp [datR, hn, hi]
      refine hQ _ _ _ ?_
      rw [hd]
      exact ⟨rfl, hR.same (by omega), by omega, fun _ _ _ => rfl⟩
    | some i =>
      simp [datR, hn, hi]
      refine (c_dstops (by omega) hI hg).cW ?_
      rintro _ hp1 n3 ⟨rfl, g3, ho⟩
      have hD := h.stopped ho
      cases hsp : d.stops with
      | true =>
        have hd : d.sync s = (44, d.stop1) := by simp [Dk.sync, Dk.at, hn, hi, Dk.goes, hsp]
        simp
        refine hQ _ _ _ ?_
        rw [hd]
        exact ⟨rfl, hD.rep hS (by omega), by omega, fun j _ hj => ho.ne hj⟩
      | false =>
        have hd : d.sync s = (0, d.stop1.setF i ⟨(d.file i).b, (d.file i).b.length⟩) := by simp [Dk.sync, Dk.at, hn, hi, Dk.goes, hsp]
        have hil := (hI.found hi).2
        have hg1 := hD.top
        have hfl : fr.length = d.files.length := by have := hD.nfl; simpa using this
        obtain ⟨kf, g, i0, all, v, rfl, e2, e3, e4, e5, e6⟩ := file_at (N := N0) hD (i := i) (by simpa using hil)
        simp at e2 e3 e4 e6
        have ci : ((i : Nat) : Int) < d.files.length := by omega
        have hvl := e4.len'
        have hS3 : ∀ j, S j → j < n3 := fun j hj => by have := hS j hj; omega
        simp [hg1, e2, e3, ci, lenA_sl, hvl, e4.okc]
        refine (c_dset (by omega) k _ _ _ _ _ v _ fr i hp1 _ S (fun j hj => by have := hS3 j hj; omega) hg1 h.topS hD.files (by omega) hD.rows2 (by omega) e4.okc e4.mv).cW ?_
        rintro _ hp2 n4 ⟨fv', g4, top4, sv4, fr4⟩
        simp
        refine hQ _ _ _ ?_
        rw [hd]
        refine ⟨rfl, set_rep hD hS (by omega) g4 (by omega) top4 sv4 fr4 (e4.of hg1 (fun j hj hjk => fr4 j (by have := hS3 j hj; omega) hjk) fun j hj => .inl hj), by omega, fun j hj hjk => (fr4 j (by omega) hjk).trans (ho.ne hjk)⟩

/-- A file of a name, or what is wrong. -/
theorem c_dRead {K n N0 : Nat} (hK : big K) (hn : 3 ≤ n) {d : Dk} {k : Nat} {hp : Hp} {nx : Nat} {S : Nat → Prop} (hI : d.Inv N0) (hN0 : N0 ≤ 2 ^ 20) (h : DRep hp nx k d S) (s : Bs) (hs : s.length ≤ 2 ^ 40) :
    Sp K n 51 [.ptr k 0 0, .s (ba s)] hp nx fun r hp' nx' => hp' = hp ∧ nx ≤ nx' ∧ ∃ v, r = .tup [v, .i .i64 (d.look s).1] ∧ SV 1 hp S v (byteRows ((d.look s).2.getD ⟨[], 0⟩).b) := by
  refine sp_cps fun Q hQ => ?_
  obtain ⟨n, rfl⟩ : ∃ m, n = m + 1 := ⟨n - 1, by omega⟩
  have hR := h
  obtain ⟨hS, fv, wv, fr, wr, h⟩ := h
  have hg := h.top
  have hnl := hI.nfiles
  refine sp_of rfl (run_wp Try.func51 rfl (by simp [Try.f51]) ?_)
  simp
  refine (c_dat hK (by omega) hI (by omega) h s hs).cW ?_
  rintro _ hp0 n1 ⟨rfl, rfl, g1⟩
  cases hn : nameOk s with
  | false =>
    have hd : d.look s = (6, none) := by simp [Dk.look, hn]
    simp [datR, hn]
    refine hQ _ _ _ ?_
    rw [hd]
    exact ⟨rfl, by omega, _, rfl, .inl ⟨rfl, 0, rfl⟩⟩
  | true =>
    cases hi : findW d.now s with
    | none =>
      have hd : d.look s = (40, none) := by simp [Dk.look, hn, hi]
      simp [datR, hn, hi]
      refine hQ _ _ _ ?_
      rw [hd]
      exact ⟨rfl, by omega, _, rfl, .inl ⟨rfl, 0, rfl⟩⟩
    | some i =>
      have hd : d.look s = (0, some (d.file i)) := by simp [Dk.look, hn, hi]
      have hil := (hI.found hi).2
      obtain ⟨kf, g, i0, all, v, rfl, e2, e3, e4, e5, e6⟩ := file_at (N := N0) h (i := i) hil
      have ci : ((i : Nat) : Int) < d.files.length := by omega
      simp [datR, hn, hi, hg, e2, e3, ci, e4.okc, e4.mv]
      refine hQ _ _ _ ?_
      rw [hd]
      exact ⟨rfl, by omega, _, rfl, e4⟩
theorem c_dFast {K n N0 : Nat} (hK : big K) (hn : 3 ≤ n) {d : Dk} {k : Nat} {hp : Hp} {nx : Nat} {S : Nat → Prop} (hI : d.Inv N0) (hN0 : N0 ≤ 2 ^ 20) (h : DRep hp nx k d S) (s : Bs) (hs : s.length ≤ 2 ^ 40) :
    Sp K n 54 [.ptr k 0 0, .s (ba s)] hp nx fun r hp' nx' => hp' = hp ∧ nx ≤ nx' ∧ r = .tup [.i .i64 (((d.look s).2.getD ⟨[], 0⟩).fast : Nat), .i .i64 (d.look s).1] := by
  refine sp_cps fun Q hQ => ?_
  obtain ⟨n, rfl⟩ : ∃ m, n = m + 1 := ⟨n - 1, by omega⟩
  have hR := h
  obtain ⟨hS, fv, wv, fr, wr, h⟩ := h
  have hg := h.top
  have hnl := hI.nfiles
  refine sp_of rfl (run_wp Try.func54 rfl (by simp [Try.f54]) ?_)
  simp
  refine (c_dat hK (by omega) hI (by omega) h s hs).cW ?_
  rintro _ hp0 n1 ⟨rfl, rfl, g1⟩
  cases hn : nameOk s with
  | false =>
    have hd : d.look s = (6, none) := by simp [Dk.look, hn]
    simp [datR, hn]
    refine hQ _ _ _ ?_
    rw [hd]
    exact ⟨rfl, by omega, rfl⟩
  | true =>
    cases hi : findW d.now s with
    | none =>
      have hd : d.look s = (40, none) := by simp [Dk.look, hn, hi]
      simp [datR, hn, hi]
      refine hQ _ _ _ ?_
      rw [hd]
      exact ⟨rfl, by omega, rfl⟩
    | some i =>
      have hd : d.look s = (0, some (d.file i)) := by simp [Dk.look, hn, hi]
      have hil := (hI.found hi).2
      obtain ⟨kf, g, i0, all, v, rfl, e2, e3, e4, e5, e6⟩ := file_at (N := N0) h (i := i) hil
      have ci : ((i : Nat) : Int) < d.files.length := by omega
      simp [datR, hn, hi, hg, e2, e3, ci, e4.okc, e4.mv]
      refine hQ _ _ _ ?_
      rw [hd]
      exact ⟨rfl, by omega, rfl⟩
theorem c_dOpen {K n N0 : Nat} (hn : 1 ≤ n) {d : Dk} {k : Nat} {hp : Hp} {nx : Nat} {S : Nat → Prop} (hI : d.Inv N0) (hN0 : N0 ≤ 2 ^ 20) (h : DRep hp nx k d S) :
    Sp K n 57 [.ptr k 0 0] hp nx fun r hp' nx' => hp' = hp ∧ nx ≤ nx' ∧ r = .i .i64 ((d.ways.length - 1 : Nat) : Int) := by
  refine sp_cps fun Q hQ => ?_
  obtain ⟨n, rfl⟩ : ∃ m, n = m + 1 := ⟨n - 1, by omega⟩
  obtain ⟨hS, fv, wv, fr, wr, h⟩ := h
  have hg := h.top
  have hnw := hI.nways
  have hne : 0 < d.ways.length := List.length_pos_iff.2 hI.ne
  refine sp_of rfl (run_wp Try.func57 rfl (by simp [Try.f57]) ?_)
  have hla := h.ways.len'
  rw [h.wr.1] at hla
  have w1 : IntKind.i64.wrap ((d.ways.length : Int) - 1) = ((d.ways.length - 1 : Nat) : Int) := by rw [wrap_i64 (by omega) (by omega)]; omega
  simp [hg, lenA_sl, hla, w1, h.ways.okc, h.ways.mv]
  refine hQ _ _ _ ?_
  exact ⟨rfl, by omega, rfl⟩
theorem c_dList {K n N0 : Nat} (hn : 2 ≤ n) {d : Dk} {k : Nat} {hp : Hp} {nx : Nat} {S : Nat → Prop} (hI : d.Inv N0) (hN0 : N0 ≤ 2 ^ 20) (h : DRep hp nx k d S) :
    Sp K n 58 [.ptr k 0 0] hp nx fun r hp' nx' => hp' = hp ∧ nx ≤ nx' ∧ SV 1 hp S r (nameRows d.now) := by
  refine sp_cps fun Q hQ => ?_
  obtain ⟨n, rfl⟩ : ∃ m, n = m + 1 := ⟨n - 1, by omega⟩
  obtain ⟨hS, fv, wv, fr, wr, h⟩ := h
  have hg := h.top
  have hnw := hI.nways
  have hwl := h.wr.1
  obtain ⟨a, b, hrow, h2, h3⟩ := h.nowv hI
  refine sp_of rfl (run_wp Try.func58 rfl (by simp [Try.f58]) ?_)
  simp
  refine (c_dnow2 (by omega) hg h.ways (by omega) hrow h2.okc h3.okc).cW ?_
  rintro _ hp4 n4 ⟨rfl, g4, rfl⟩
  simp [h2.okc, h2.mv, h3.okc]
  refine hQ _ _ _ ?_
  exact ⟨rfl, by omega, h2⟩

end Ab
end Go.Proofs.Ytecjchghapgdeaa

/-
  DERIVED. locksteplaw08.TableForms: true.
  Conditions: sizes below a row's limit.
-/
import Derived.Test.YtgkaidnfmkncmaaDoorS21
set_option linter.all false
set_option maxHeartbeats 4000000
namespace Go.Proofs.YtgkaidnfmkncmaaDoor
namespace Ab
open Go.Lib
set_option maxRecDepth 100000
set_option maxHeartbeats 4000000

def ovr (hp hp0 : Hp) : Hp := hp.foldr (fun x h => up h x.1 x.2) hp0
theorem lk_ovr (hp hp0 : Hp) (j : Nat) : lk (ovr hp hp0) j = match lk hp j with
    | some v => some v
    | none => lk hp0 j := by
  induction hp with
  | nil => rfl
  | cons x r ih =>
    obtain ⟨i, o⟩ := x
    show lk (up (ovr r hp0) i o) j = _
    rw [lk_set, ih]
    by_cases h : i = j
    · subst h; simp [lk]
    · simp [lk, h, Ne.symm h]

theorem fold_ovr (env : List (Nat × AV)) (loc : List (Nat × (Nat × AO))) (nx : Nat) : ∀ (hp hp0 : Hp), List.foldl St.wr1 ⟨env, loc, hp0, nx⟩ (hp.reverse.map (fun x => (Ref.h x.1 x.2.1, some x.2.2))) = ⟨env, loc, ovr hp hp0, nx⟩
  | [], hp0 => rfl
  | x :: r, hp0 => by
    rw [List.reverse_cons, List.map_append, List.foldl_append, fold_ovr env loc nx r hp0]
    rfl

theorem nCall_heap {call : CallT} {g : FuncId} {env : List (Nat × AV)} {loc : List (Nat × (Nat × AO))} {hp hp' : Hp} {nx1 nx2 nx' : Nat} {dst : Option Nat} {w x : AV} (hw : rf w = false) (hm : w.mv = true) (h : call g [w] hp nx2 = some (x, hp', nx')) :
    nCall call ⟨env, loc, hp, nx1⟩ nx2 dst g [w] = some (⟨dst, x, [], some hp', none⟩, nx') := by
  unfold nCall
  simp [-rf, hw, hm, h]

def Tab.plain (t : Tab) : Tab := { t with part := if t.part < 0 then -1 else t.part }

structure Facts3 (call : CallT) (t : Tab) (z : Bool) (r : List Val) : Prop where
  h4 : ∀ nx, ∃ v hp nx', call 4 [.agg t.row] [] nx = some (v, hp, nx') ∧ nx ≤ nx' ∧ Holds hp nx nx' v t ∧ ∀ j, j < nx → lk hp j = none
  h5 : ∀ nx, ∃ n g nx', call 5 [.vs z 3 (r.map Val.row)] [] nx = some (.rs n g 0 r.length 3, [(n, (g, .arr 3 (r.map Val.row)))], nx') ∧ nx ≤ n ∧ n < nx'
  h6 : pR call 6 [.agg t.heap.row] = some (.i .i64 (tabChk t))
  h7 : pR call 7 [.agg t.row] = some (.i .i64 (tabChk t))
  h8 : pR call 8 [.agg t.heap.row, .vs false 3 (r.map Val.row)] = some (.i .i64 (fitsAns t r))
  h9 : pR call 9 [.agg t.row, .vs z 3 (r.map Val.row)] = some (.i .i64 (fitsAns t r))
  h10 : pR call 10 [.agg t.heap.row, .agg t.row] = some (.b true)
  h11 : pR call 11 [.vs false 3 (r.map Val.row), .vs z 3 (r.map Val.row)] = some (.b true)
  h12a : tabChk t ≠ 0 → ∀ hp nx lo hi v, Holds hp lo hi v t → hi ≤ nx → ∃ nx', call 12 [v] hp nx = some (.tup [.np, .i .i64 (tabChk t)], hp, nx') ∧ nx ≤ nx'
  h12b : tabChk t = 0 → ∀ hp nx lo hi v, Holds hp lo hi v t → hi ≤ nx → ∃ n hp' nx', call 12 [v] hp nx = some (.tup [.ptr n 0 0, .i .i64 0], hp', nx') ∧ nx ≤ nx' ∧ TAt hp' nx nx' n t.own ∧ ∀ j, j < nx → lk hp' j = lk hp j
  h13 : ∀ hp nx lo hi v, Holds hp lo hi v t → ∃ hp' nx', call 13 [v] hp nx = some (.tup [], hp', nx') ∧ nx ≤ nx' ∧ ∀ j, j < lo ∨ hi ≤ j → lk hp' j = lk hp j
  h13' : ∀ hp nx lo hi v, Holds hp lo hi v t.own.own → ∃ hp' nx', call 13 [v] hp nx = some (.tup [], hp', nx') ∧ nx ≤ nx' ∧ ∀ j, j < lo ∨ hi ≤ j → lk hp' j = lk hp j
  h14 : ∀ hp nx lo hi n, TAt hp lo hi n t.own → hi ≤ nx → ∃ v' hp' nx', call 14 [.ptr n 0 0] hp nx = some (v', hp', nx') ∧ nx ≤ nx' ∧ Holds hp' nx nx' v' t.own.own ∧ ∀ j, j < nx → lk hp' j = lk hp j
  h15 : pR call 15 [.agg t.row] = some (.agg t.plain.row)
  h10' : pR call 10 [.agg t.own.own.heap.row, .agg t.plain.row] = some (.b true)
  h16 : ∀ hp nx lo hi n, TAt hp lo hi n t.own → ∃ nx', call 16 [.ptr n 0 0] hp nx = some (.i .i64 0, hp, nx') ∧ nx ≤ nx'
  h17 : ∀ hp nx lo hi n, TAt hp lo hi n t.own → ∃ nx', call 17 [.ptr n 0 0] hp nx = some (.i .u64 1, hp, nx') ∧ nx ≤ nx'
  h18 : ∀ hp nx lo hi n, TAt hp lo hi n t.own → ∃ nx', call 18 [.ptr n 0 0] hp nx = some (.i .i64 0, hp, nx') ∧ nx ≤ nx'

theorem run3 (call : CallT) (k : Nat) (t : Tab) (z : Bool) (r : List Val) (F : Facts3 call t z r) (hk : 2 < k) : Ends cfg call k 3 [.agg t.row, .vs z 3 (r.map Val.row)] [] 0 fun x _ _ => x = .b true := by
  have hrow : t.row = [.s t.n, .vs t.zc 4 (t.cols.map Col.row), .vs t.zk 3 (t.keys.map Key.row), .i .i64 t.part, .i .i64 t.most] := rfl
  obtain ⟨v, hpF, nxF, a1, a2, a3, a4⟩ := F.h4 9
  obtain ⟨nO, gO, nxO, b1, b2, b3⟩ := F.h5 nxF
  obtain ⟨kc, gc, kk, gk, rows, e1, e2, e3, e4, e5, e6, e7, e8, e9⟩ := a3.h
  subst e1
  obtain ⟨W, hW⟩ : ∃ W, hpF.reverse.map (fun x => (Ref.h x.1 x.2.1, some x.2.2)) = W := ⟨_, rfl⟩
  have hfold : ∀ env loc nx hp0, List.foldl St.wr1 ⟨env, loc, hp0, nx⟩ W = ⟨env, loc, ovr hpF hp0, nx⟩ := by
    intro env loc nx hp0
    rw [← hW]
    exact fold_ovr env loc nx hpF hp0
  have hn4 : ∀ st dst, nCall call st 9 dst 4 [.agg t.row] = some (⟨dst, .agg [.s t.n, .rs kc gc 0 t.cols.length 4, .rs kk gk 0 t.keys.length 3, .i .i64 t.part, .i .i64 t.most], W, none, some []⟩, nxF) := by
    intro st dst
    have hall : [AV.agg t.row].all rf = true := by simp
    unfold nCall
    rw [if_pos hall, a1]
    simp only [hW]
  have hn5 : ∀ st dst, nCall call st nxF dst 5 [.vs z 3 (r.map Val.row)] = some (⟨dst, .rs nO gO 0 r.length 3, [(.h nO gO, some (.arr 3 (r.map Val.row)))], none, some []⟩, nxO) := by
    intro st dst
    unfold nCall
    rw [b1]
    simp
  obtain ⟨H, hH⟩ : ∃ H, up (ovr hpF []) nO (gO, .arr 3 (r.map Val.row)) = H := ⟨_, rfl⟩
  have hHf : ∀ j, j < nxF → lk H j = lk hpF j := by
    intro j hj
    rw [← hH, lk_set, if_neg (by omega), lk_ovr]
    cases lk hpF j <;> rfl
  have hHo : lk H nO = some (gO, .arr 3 (r.map Val.row)) := by rw [← hH, lk_set, if_pos rfl]
  have hold : Holds H 9 nxF (.agg [.s t.n, .rs kc gc 0 t.cols.length 4, .rs kk gk 0 t.keys.length 3, .i .i64 t.part, .i .i64 t.most]) t := a3.mono (Nat.le_refl _) (Nat.le_refl _) fun j _ h => hHf j h
  obtain ⟨v, hv⟩ : ∃ v, AV.agg [.s t.n, .rs kc gc 0 t.cols.length 4, .rs kk gk 0 t.keys.length 3, .i .i64 t.part, .i .i64 t.most] = v := ⟨_, rfl⟩
  rw [hv] at hold
  have fz : ∀ env loc nx, frz (St.get ⟨env, loc, H, nx⟩) 12 v = some (.agg t.heap.row) := fun env loc nx => frz_holds hold fun _ _ => rfl
  have fo : ∀ env loc nx, frz (St.get ⟨env, loc, H, nx⟩) 12 (.rs nO gO 0 r.length 3) = some (.vs false 3 (r.map Val.row)) := fun env loc nx => frz_vals hHo fun _ _ => rfl
  have hvr : rf v = false := by rw [← hv]; rfl
  have p6 : ∀ env loc nx1 nx2 dst, pCall call ⟨env, loc, H, nx1⟩ nx2 dst 6 [v] = some (⟨dst, .i .i64 (tabChk t), [], none, none⟩, nx2) := by
    intro env loc nx1 nx2 dst
    unfold pCall
    simp [-rf, hvr, fz, F.h6]
  have p7 : ∀ st nx2 dst, pCall call st nx2 dst 7 [.agg t.row] = some (⟨dst, .i .i64 (tabChk t), [], none, some []⟩, nx2) := by
    intro st nx2 dst
    unfold pCall
    simp [F.h7]
  have p8 : ∀ env loc nx1 nx2 dst, pCall call ⟨env, loc, H, nx1⟩ nx2 dst 8 [v, .rs nO gO 0 r.length 3] = some (⟨dst, .i .i64 (fitsAns t r), [], none, none⟩, nx2) := by
    intro env loc nx1 nx2 dst
    unfold pCall
    simp [-rf, -frz_rs, hvr, fz, fo, F.h8]
  have p9 : ∀ st nx2 dst, pCall call st nx2 dst 9 [.agg t.row, .vs z 3 (r.map Val.row)] = some (⟨dst, .i .i64 (fitsAns t r), [], none, some []⟩, nx2) := by
    intro st nx2 dst
    unfold pCall
    simp [F.h9]
  have p10 : ∀ env loc nx1 nx2 dst, pCall call ⟨env, loc, H, nx1⟩ nx2 dst 10 [v, .agg t.row] = some (⟨dst, .b true, [], none, none⟩, nx2) := by
    intro env loc nx1 nx2 dst
    unfold pCall
    simp [-rf, -frz_agg, hvr, fz, frz_tab, F.h10]
  have p11 : ∀ env loc nx1 nx2 dst, pCall call ⟨env, loc, H, nx1⟩ nx2 dst 11 [.rs nO gO 0 r.length 3, .vs z 3 (r.map Val.row)] = some (⟨dst, .b true, [], none, none⟩, nx2) := by
    intro env loc nx1 nx2 dst
    unfold pCall
    simp [-frz_rs, fo, F.h11]
  have hvm : v.mv = true := by rw [← hv]; rfl
  refine run_wp Tryd.func3 rfl (by simp [Tryd.f3]) ?_
  by_cases hc : tabChk t = 0
  · obtain ⟨n, hp2, nx2, d1, d2, d3, d4⟩ := F.h12b hc H (nxO + 35) 9 nxF v hold (by omega)
    have n12 := fun env loc nx1 dst => nCall_heap (env := env) (loc := loc) (nx1 := nx1) (dst := dst) hvr hvm d1
    obtain ⟨hp3, nx3, f1, f2, f3⟩ := F.h13 hp2 (nx2 + 14) 9 nxF v (hold.mono (Nat.le_refl _) (Nat.le_refl _) fun j _ hj => d4 j (by omega))
    have n13 := fun env loc nx1 dst => nCall_heap (env := env) (loc := loc) (nx1 := nx1) (dst := dst) hvr hvm f1
    have hT : TAt hp3 (nxO + 35) nx2 n t.own := d3.mono fun j hj _ => f3 j (by omega)
    have p15 : ∀ st nx2 dst, pCall call st nx2 dst 15 [.agg t.row] = some (⟨dst, .agg t.plain.row, [], none, some []⟩, nx2) := by
      intro st nx2 dst
      unfold pCall
      simp [F.h15]
    rw [← hv] at p6 p8 p10 n12 n13
    rw [hrow] at hn4 p7 p9 p10 p15 ⊢
    rw [hc] at p6 p7
    simp [-pCall, -nCall, Nat.add_assoc, hn4, hn5, hfold, hH, p6, p7, p8, p9, p10, p11, n12, n13, eqA, eq1]
    refine ⟨⟨by kernel_rfl, by kernel_rfl⟩, ?_⟩
    refine loop_wp (ι := Nat × Nat × Hp) (fun i => { env := [(2, .lp 2 0 0), (8, .ptr n 0 0), (10, .i .i64 (i.1 : Nat))], loc := [(2, 0, .cells [.s t.n, .vs t.zc 4 (t.cols.map Col.row), .vs t.zk 3 (t.keys.map Key.row), .i .i64 t.part, .i .i64 t.most])], hp := i.2.2, nx := i.2.1 }) (fun i => 2 - i.1)
      (fun i => i.1 ≤ 2 ∧ nx2 ≤ i.2.1 ∧ TAt i.2.2 (nxO + 35) nx2 n t.own) (0, _, _) rfl ⟨Nat.zero_le _, by simp only; omega, hT⟩ (by simpa using hk) ?_
    rintro Next ⟨i, nx, hp⟩ ⟨hi0, hnx, hT⟩ hnext
    simp only at hi0 hnx hT hnext ⊢
    have hpr : rf (.ptr n 0 0) = false := rfl
    have hpm : (AV.ptr n 0 0).mv = true := rfl
    by_cases hi : i < 2
    · have c1 : (i : Int) < 2 := by omega
      have c3 : IntKind.i64.wrap ((i : Int) + 1) = i + 1 := wrap_i64 (by omega) (by omega)
      obtain ⟨v', hpA, nxA, g1, g2, g3, g4⟩ := F.h14 hp (nx + 6) (nxO + 35) nx2 n hT (by omega)
      have n14 := fun env loc nx1 dst => nCall_heap (env := env) (loc := loc) (nx1 := nx1) (dst := dst) hpr hpm g1
      have hvr' : rf v' = false := by
        obtain ⟨kc', gc', kk', gk', rows', d1', _⟩ := g3.h
        rw [d1']; rfl
      have hvm' : v'.mv = true := by
        obtain ⟨kc', gc', kk', gk', rows', d1', _⟩ := g3.h
        rw [d1']; rfl
      have fz' : ∀ env loc nx, frz (St.get ⟨env, loc, hpA, nx⟩) 12 v' = some (.agg t.own.own.heap.row) := fun env loc nx => frz_holds g3 fun _ _ => rfl
      have p10' : ∀ env loc nx1 nx2 dst, pCall call ⟨env, loc, hpA, nx1⟩ nx2 dst 10 [v', .agg t.plain.row] = some (⟨dst, .b true, [], none, none⟩, nx2) := by
        intro env loc nx1 nx2 dst
        unfold pCall
        simp [-rf, -frz_agg, hvr', fz', frz_tab, F.h10']
      have h13c := fun c => F.h13' hpA (nxA + c) (nx + 6) nxA v' g3
      obtain ⟨hpB, nxB, q1, q2, q3⟩ := h13c 7
      have n13' := fun env loc nx1 dst => nCall_heap (env := env) (loc := loc) (nx1 := nx1) (dst := dst) hvr' hvm' q1
      have hTB : TAt hpB (nxO + 35) nx2 n t.own := hT.mono fun j _ hj => by rw [q3 j (by omega), g4 j (by omega)]
      obtain ⟨kc', gc', kk', gk', rows', d1', _⟩ := g3.h
      subst d1'
      simp [-pCall, -nCall, Nat.add_assoc, c1, c3, n14, p15, p10', n13']
      exact ⟨⟨by kernel_rfl, by kernel_rfl⟩, hnext (i + 1, _, hpB) (by simp only; omega) ⟨by simp only; omega, by simp only; omega, hTB⟩⟩
    · obtain rfl : i = 2 := by omega
      obtain ⟨nxa, g1, g2⟩ := F.h16 hp (nx + 16) (nxO + 35) nx2 n hT
      have n16 := fun env loc nx1 dst => nCall_heap (env := env) (loc := loc) (nx1 := nx1) (dst := dst) hpr hpm g1
      obtain ⟨nxb, g3, g4⟩ := F.h17 hp nxa (nxO + 35) nx2 n hT
      have n17 := fun env loc nx1 dst => nCall_heap (env := env) (loc := loc) (nx1 := nx1) (dst := dst) hpr hpm g3
      obtain ⟨nxc, g5, g6⟩ := F.h18 hp nxb (nxO + 35) nx2 n hT
      have n18 := fun env loc nx1 dst => nCall_heap (env := env) (loc := loc) (nx1 := nx1) (dst := dst) hpr hpm g5
      simp [-pCall, -nCall, Nat.add_assoc, n16, n17, n18]
  · obtain ⟨nx2, d1, d2⟩ := F.h12a hc H (nxO + 35) 9 nxF v hold (by omega)
    have n12 := fun env loc nx1 dst => nCall_heap (env := env) (loc := loc) (nx1 := nx1) (dst := dst) hvr hvm d1
    have hc' : (tabChk t != 0) = true := by simp [hc]
    rw [← hv] at p6 p8 p10 n12
    rw [hrow] at hn4 p7 p9 p10 ⊢
    simp [-pCall, -nCall, Nat.add_assoc, hn4, hn5, hfold, hH, p6, p7, p8, p9, p10, p11, n12, hc', eqA, eq1]
    exact ⟨by kernel_rfl, by kernel_rfl⟩

end Ab
end Go.Proofs.YtgkaidnfmkncmaaDoor

/-
  DERIVED. recovery.Behind: the records behind a number, copied.
  Conditions: enough rounds, enough depth; bounded lengths.
-/
import Derived.Test.YtidoflgcblglbaaDoorW30
import Derived.Test.YtidoflgcblglbaaDoorW28
set_option linter.all false
set_option maxHeartbeats 4000000
namespace Go.Proofs.YtidoflgcblglbaaDoor
namespace Ab
open Go.Lib
set_option maxRecDepth 100000
set_option maxHeartbeats 4000000
set_option linter.all false

/-- What a list is copied to. -/
def CloP (nn : Bool) (l : List Int) (nx : Nat) (v : AV) (hp' : Hp) (nx' : Nat) : Prop := nx ≤ nx' ∧ NovH hp' ∧ nov v = true ∧ nov1 v = true ∧ v.okc = true ∧ v.mv = true ∧ (∀ j x, lk hp' j = some x → nx ≤ j ∧ j < nx') ∧ LstP nn hp' nx nx' v l
def CloV (nn : Bool) (l : List Val) (nx : Nat) (v : AV) (hp' : Hp) (nx' : Nat) : Prop := nx ≤ nx' ∧ NovH hp' ∧ nov v = true ∧ nov1 v = true ∧ v.okc = true ∧ v.mv = true ∧ (∀ j x, lk hp' j = some x → nx ≤ j ∧ j < nx') ∧ LstV nn hp' nx nx' v l
theorem c_clP {nn : Bool} {K n nx : Nat} (hn : 1 ≤ n) (z : Bool) (b : List Int) (hz : z = true → b = []) (hnn : z = true → nn = true) (hb : b.length ≤ 2 ^ 20) : Sp K n 39 [.vs z 1 (ints b)] [] nx (CloP nn b nx) := by
  cases z with
  | true =>
    obtain rfl := hz rfl
    refine ⟨_, _, _, c_cloneI0 hn 1, by omega, fun e he => (by cases he), rfl, rfl, rfl, rfl, fun j x h => (by cases h), .inr ⟨hnn rfl, rfl, rfl⟩⟩
  | false =>
    refine ⟨_, _, _, c_cloneI hn b hb, by omega, fun e he => ?_, rfl, rfl, rfl, rfl, fun j x h => ?_, .inl ⟨_, _, rfl, by simp [lk], by omega, by omega⟩⟩
    · simp at he
      rw [he]
      exact nov_ints b
    · simp only [lk] at h
      split at h
      · omega
      · cases h
theorem c_clV {nn : Bool} {K n nx : Nat} (hn : 1 ≤ n) (z : Bool) (b : List Val) (hz : z = true → b = []) (hnn : z = true → nn = true) (hb : b.length ≤ 2 ^ 20) : Sp K n 40 [.vs z 3 (valRows b)] [] nx (CloV nn b nx) := by
  cases z with
  | true =>
    obtain rfl := hz rfl
    refine ⟨_, _, _, c_cloneV0 hn 3, by omega, fun e he => (by cases he), rfl, rfl, rfl, rfl, fun j x h => (by cases h), .inr ⟨hnn rfl, rfl, rfl⟩⟩
  | false =>
    refine ⟨_, _, _, c_cloneV hn b hb, by omega, fun e he => ?_, rfl, rfl, rfl, rfl, fun j x h => ?_, .inl ⟨_, _, rfl, by simp [lk], by omega, by omega⟩⟩
    · simp at he
      rw [he]
      exact nov_vals b
    · simp only [lk] at h
      split at h
      · omega
      · cases h
theorem nov_lay {h0 hp : Hp} (h : NovH h0) (hn : NovH hp) : NovH (layH h0 hp) := by
  unfold layH
  induction hp with
  | nil => exact h
  | cons x hp ih =>
    obtain ⟨k, g, o⟩ := x
    rw [List.foldr_cons]
    exact nov_up (hn (k, g, o) List.mem_cons_self) (ih fun e he => hn e (List.mem_cons_of_mem _ he))
theorem nov_row6 {x y z : Int} {s : ByteArray} {pv qv : AV} (h1 : nov1 pv = true) (h2 : nov1 qv = true) : novO (.arr 6 [[.i .u64 x, .i .u64 y, .i .u64 z, pv, .s s, qv]]) = true := by
  simp only [novO, List.all_cons, List.all_nil, h1, h2, Bool.and_true]
  rfl
theorem nov_app {sz : Nat} {a b : List (List AV)} (h1 : novO (.arr sz a) = true) (h2 : novO (.arr sz b) = true) : novO (.arr sz (a ++ b)) = true := by
  simp only [novO, List.all_append, Bool.and_eq_true] at h1 h2 ⊢
  exact ⟨h1, h2⟩
theorem layW_all {hp : Hp} {p : Bool × Nat → Bool} (h : ∀ n, p (false, n) = true) : ((layW hp).map fun x => x.1.key).all p = true := by
  rw [List.all_eq_true]
  intro k hk
  unfold layW at hk
  rw [List.map_map, List.mem_map] at hk
  obtain ⟨x, _, rfl⟩ := hk
  exact h x.1
theorem stA_okc {P : Program} {t : TypeId} {cs : List AV} {o : Nat} {v : AV} (h : v.okc = true) (hs : szOf P t = some 1) (ho : o < cs.length) : stA P t cs o v = some (cs.set o v) := by
  cases v <;> first | (cases h; done) | simp [stA, hs, ho, AV.okc]
section
attribute [local simp] wp_regW opsW_nil opsW_cons opsK_eq regK_no regK_draw oW_n oW_h oW_r oW_pn convA appendA appRow newsA rowsSz rowsOf isIntD makeSliceA elemOf rowsBuilt eqA eq1 lenA

/-- What Behind answers. -/
def BehG (nn : Bool) (l : List Rec) (id nx : Nat) (r : AV) (H : Hp) (N : Nat) : Prop := nx ≤ N ∧ NovH H ∧ nov r = true ∧ r.mv = true ∧ (∀ j x, lk H j = some x → nx ≤ j ∧ j < N) ∧ RowsG nn H nx N r (l.filter fun r => decide (id < r.id))
theorem c_pBehind (nn : Bool) {K n nx : Nat} (hK : big K) (hn : 2 ≤ n) {z : Bool} {rows : List (List AV)} {l : List Rec} (hv : RecsV (.vs z 6 rows) l) (hnn : nn = false → ∀ (j : Nat) (c : List AV) (r : Rec), rows[j]? = some c → l[j]? = some r → c = recCells false false r) (hB : LogB l) (id : Nat) : Sp K n 15 [.vs z 6 rows, .i .u64 (id : Nat)] [] nx (BehG nn l id nx) := by
  refine sp_cps fun Q hQ => ?_
  obtain ⟨n, rfl⟩ : ∃ m, n = m + 1 := ⟨n - 1, by omega⟩
  have hv0 := hv
  obtain ⟨z', rows', e, hrl, _, hrow⟩ := hv0
  cases e
  have hll := hB.len
  refine sp_of rfl (run_wp Tryd.func15 rfl (by simp [Tryd.f15]) ?_)
  simp [-fCall, hrl]
  refine loop_wp (ι := Nat × AV × Hp × Nat) (fun i => { env := [(1, .i .u64 (id : Nat)), (5, i.2.1), (9, .vs z 6 rows), (10, .i .i64 (l.length : Nat)), (11, .i .i64 (i.1 : Nat))], loc := [], hp := i.2.2.1, nx := i.2.2.2 }) (fun i => l.length - i.1)
    (fun i => i.1 ≤ l.length ∧ nx ≤ i.2.2.2 ∧ NovH i.2.2.1 ∧ (∀ j x, lk i.2.2.1 j = some x → nx ≤ j ∧ j < i.2.2.2) ∧ RowsG nn i.2.2.1 nx i.2.2.2 i.2.1 ((l.take i.1).filter fun r => decide (id < r.id))) (0, .vs true 0 [], [], _) rfl ⟨Nat.zero_le _, by simp only; omega, fun e he => (by cases he), fun j x h => (by cases h), .inl ⟨rfl, rfl⟩⟩ (by simp; unfold big at hK; omega) ?_
  rintro Next ⟨i, sv, H, N⟩ ⟨hi, hN, hNov, hkeys, hG⟩ hnext
  simp only at hi hN hNov hkeys hG hnext
  by_cases hlt : i < l.length
  · obtain ⟨r, hr⟩ : ∃ r, l[i]? = some r := ⟨_, List.getElem?_eq_getElem hlt⟩
    have hrb := hB.each r (List.mem_of_getElem? hr)
    obtain ⟨zp, za, hrc, hzp, hza⟩ := recs_at hv hr
    have hz1 : (zp = true → nn = true) ∧ (za = true → nn = true) := by
      cases nn with
      | true => exact ⟨fun _ => rfl, fun _ => rfl⟩
      | false =>
        have := hnn rfl i _ r hrc hr
        simp only [recCells, List.cons.injEq, AV.vs.injEq, and_true, true_and] at this
        rw [this.1, this.2]
        exact ⟨fun h => h, fun h => h⟩
    have c1 : (i : Int) < l.length := by omega
    have c3 : IntKind.i64.wrap ((i : Int) + 1) = ((i + 1 : Nat) : Int) := by rw [wrap_i64 (by omega) (by omega)]; omega
    have hsn : (l.take (i + 1)).filter (fun r => decide (id < r.id)) = (l.take i).filter (fun r => decide (id < r.id)) ++ if id < r.id then [r] else [] := by
      rw [List.take_add_one, hr, List.filter_append]
      congr 1
      by_cases g : id < r.id
      · simp [g]
      · simp [g]
    by_cases g : id < r.id
    · have g1 : (id : Int) < r.id := by omega
      rw [if_pos g] at hsn
      have hMb : ((l.take i).filter fun r => decide (id < r.id)).length ≤ 2 ^ 20 := Nat.le_trans (List.length_filter_le _ _) (by rw [List.length_take]; omega)
      have hn3 : ∀ (sv' : AV) (H' : Hp) (N' : Nat), nx ≤ N' → NovH H' → (∀ j x, lk H' j = some x → nx ≤ j ∧ j < N') → RowsG nn H' nx N' sv' ((l.take i).filter (fun r => decide (id < r.id)) ++ [r]) → Next { env := [(1, .i .u64 (id : Nat)), (5, sv'), (9, .vs z 6 rows), (10, .i .i64 (l.length : Nat)), (11, .i .i64 ((i + 1 : Nat) : Int))], loc := [], hp := H', nx := N' } :=
        fun sv' H' N' w1 w2 w3 w4 => hnext (i + 1, sv', H', N') (by simp only; omega) ⟨by simp only; omega, w1, w2, w3, by simp only; rw [hsn]; exact w4⟩
      clear hnext hsn
      generalize (l.take i).filter (fun r => decide (id < r.id)) = M at hG hn3 hMb
      rcases hG with ⟨rfl, rfl⟩ | ⟨kn, g3, orows, rfl, h2, h3, h4, h5, h6, h7⟩
      · simp [-fCall, c1, hrc, get_of hrc, hrl, recCells, g1, hlt]
        refine f_sp (args' := [.vs zp 1 (ints r.parts)]) (by simp) (c_clP (by omega) zp r.parts hzp hz1.1 hrb.parts) ?_
        rintro pv H4 N4 ⟨hN4, hNov4, hp1, hp2, hp3, hp4, hk4, hl4⟩
        refine ⟨hp1, hNov4, ?_⟩
        simp [-fCall, foldl_layW, hp3, hp4]
        refine f_sp (args' := [.vs za 3 (valRows r.args)]) (by simp) (c_clV (by omega) za r.args hza hz1.2 hrb.args) ?_
        rintro qv H5 N5 ⟨hN5, hNov5, hq1, hq2, hq3, hq4, hk5, hl5⟩
        refine ⟨hq1, hNov5, ?_⟩
        have e0 := lay_keys hkeys (fun j x h => (by have := hk4 j x h; exact ⟨by omega, this.2⟩) : ∀ j x, lk H4 j = some x → N ≤ j ∧ j < N4) (by omega) (by omega)
        have e1 := lay_keys e0 (fun j x h => (by have := hk5 j x h; exact ⟨by omega, this.2⟩) : ∀ j x, lk H5 j = some x → N4 ≤ j ∧ j < N5) (by omega) (by omega)
        have e2 : ∀ j, j < N4 → lk (layH (layH H H4) H5) j = lk (layH H H4) j := fun j hj => lay_low hk5 hj
        have e3 : ∀ j, j < N → lk (layH (layH H H4) H5) j = lk H j := fun j hj => by rw [e2 j (by omega), lay_low hk4 (by omega)]
        have e4 : NovH (layH (layH H H4) H5) := nov_lay (nov_lay hNov hNov4) hNov5
        have e5 : ∀ H6 : Hp, (∀ j x, N + 22 ≤ j → lk (layH (layH H H4) H5) j = some x → lk H6 j = some x) → RowG nn H6 nx N5 [.i .u64 (r.id : Nat), .i .u64 (r.client : Nat), .i .u64 (r.seq : Nat), pv, .s r.proc, qv] r := fun H6 h6 => by
          refine ⟨pv, qv, rfl, ?_, ?_⟩
          · rcases hl4 with ⟨a, ga, w1, w2, w3, w4⟩ | w
            · exact .inl ⟨a, ga, w1, h6 _ _ (by omega) (by rw [e2 a w4]; exact lay_new w2), by omega, by omega⟩
            · exact .inr w
          · rcases hl5 with ⟨a, ga, w1, w2, w3, w4⟩ | w
            · exact .inl ⟨a, ga, w1, h6 _ _ (by omega) (lay_new w2), by omega, by omega⟩
            · exact .inr w
        have e6 : novO (.arr 6 [[.i .u64 (r.id : Nat), .i .u64 (r.client : Nat), .i .u64 (r.seq : Nat), pv, .s r.proc, qv]]) = true := nov_row6 hp2 hq2
        simp [-fCall, -stA, stA_okc hp3, stA_okc hq3, foldl_layW, hp3, hp4, hq3, hq4, lk_set, mostB, c3]
        refine ⟨⟨by kernel_rfl, by
          simp [dynOk, pairsOk, befOf, Region.binds, Eff.apart, Eff.clear, Eff.wkeys, Ref.key, AV.refs0, List.range, List.range.loop, sameAt, -List.all_map, -List.all_eq_true]
          exact ⟨layW_all fun _ => rfl, layW_all fun n => (by simp), layW_all fun _ => rfl⟩⟩, ?_⟩
        refine hn3 _ _ _ (by omega) (nov_up e6 (nov_up e6 e4)) (fun j x h => ?_) (.inr ⟨N5 + 3, 0, [[.i .u64 (r.id : Nat), .i .u64 (r.client : Nat), .i .u64 (r.seq : Nat), pv, .s r.proc, qv]], rfl, by rw [lk_set, if_pos rfl], rfl, fun j c x hc hx => ?_, by simp [ApartR], by omega, by omega⟩)
        · simp only [lk_set] at h
          split at h
          · omega
          · split at h
            · omega
            · have := e1 j x h; omega
        · cases j with
          | succ j => simp at hc
          | zero =>
            cases hc; cases hx
            refine (e5 _ fun j x h1 h2 => ?_).keep (fun _ _ _ _ => rfl) (by omega)
            have := e1 j x h2
            rw [lk_set, if_neg (by omega), lk_set, if_neg (by omega)]
            exact h2
      · have hsh : shown orows 0 M.length = orows := shown_all h3.symm
        have hbb : (M.length + 1) * 89 ≤ 68719476736 := by omega
        simp [-fCall, c1, hrc, get_of hrc, hrl, recCells, g1, hlt]
        refine f_sp (args' := [.vs zp 1 (ints r.parts)]) (by simp) (c_clP (by omega) zp r.parts hzp hz1.1 hrb.parts) ?_
        rintro pv H4 N4 ⟨hN4, hNov4, hp1, hp2, hp3, hp4, hk4, hl4⟩
        refine ⟨hp1, hNov4, ?_⟩
        simp [-fCall, foldl_layW, hp3, hp4]
        refine f_sp (args' := [.vs za 3 (valRows r.args)]) (by simp) (c_clV (by omega) za r.args hza hz1.2 hrb.args) ?_
        rintro qv H5 N5 ⟨hN5, hNov5, hq1, hq2, hq3, hq4, hk5, hl5⟩
        refine ⟨hq1, hNov5, ?_⟩
        have e0 := lay_keys hkeys (fun j x h => (by have := hk4 j x h; exact ⟨by omega, this.2⟩) : ∀ j x, lk H4 j = some x → N ≤ j ∧ j < N4) (by omega) (by omega)
        have e1 := lay_keys e0 (fun j x h => (by have := hk5 j x h; exact ⟨by omega, this.2⟩) : ∀ j x, lk H5 j = some x → N4 ≤ j ∧ j < N5) (by omega) (by omega)
        have e2 : ∀ j, j < N4 → lk (layH (layH H H4) H5) j = lk (layH H H4) j := fun j hj => lay_low hk5 hj
        have e3 : ∀ j, j < N → lk (layH (layH H H4) H5) j = lk H j := fun j hj => by rw [e2 j (by omega), lay_low hk4 (by omega)]
        have e4 : NovH (layH (layH H H4) H5) := nov_lay (nov_lay hNov hNov4) hNov5
        have e5 : ∀ H6 : Hp, (∀ j x, N + 22 ≤ j → lk (layH (layH H H4) H5) j = some x → lk H6 j = some x) → RowG nn H6 nx N5 [.i .u64 (r.id : Nat), .i .u64 (r.client : Nat), .i .u64 (r.seq : Nat), pv, .s r.proc, qv] r := fun H6 h6 => by
          refine ⟨pv, qv, rfl, ?_, ?_⟩
          · rcases hl4 with ⟨a, ga, w1, w2, w3, w4⟩ | w
            · exact .inl ⟨a, ga, w1, h6 _ _ (by omega) (by rw [e2 a w4]; exact lay_new w2), by omega, by omega⟩
            · exact .inr w
          · rcases hl5 with ⟨a, ga, w1, w2, w3, w4⟩ | w
            · exact .inl ⟨a, ga, w1, h6 _ _ (by omega) (lay_new w2), by omega, by omega⟩
            · exact .inr w
        have e6 : novO (.arr 6 [[.i .u64 (r.id : Nat), .i .u64 (r.client : Nat), .i .u64 (r.seq : Nat), pv, .s r.proc, qv]]) = true := nov_row6 hp2 hq2
        have e7 : lk (layH (layH H H4) H5) kn = some (g3, .arr 6 orows) := by rw [e3 kn h7]; exact h2
        have hnk : ∀ c, ¬ kn = N5 + c := fun c => by omega
        simp [-fCall, -stA, stA_okc hp3, stA_okc hq3, foldl_layW, hp3, hp4, hq3, hq4, lk_set, mostB, c3, e7, hsh, hbb, h3, hnk, Nat.add_assoc]
        refine ⟨⟨by kernel_rfl, by
          simp [dynOk, pairsOk, befOf, Region.binds, Eff.apart, Eff.clear, Eff.wkeys, Ref.key, AV.refs0, List.range, List.range.loop, sameAt, -List.all_map, -List.all_eq_true]
          exact ⟨layW_all fun _ => rfl, layW_all fun n => (by simp), layW_all fun _ => rfl⟩⟩, ?_⟩
        refine hn3 (.rs kn (g3 + 1) 0 (M.length + 1) 6) _ _ (by omega) (nov_up (nov_app (nov_lk hNov h2) e6) (nov_up e6 e4)) (fun j x h => ?_) (.inr ⟨kn, g3 + 1, orows ++ [[.i .u64 (r.id : Nat), .i .u64 (r.client : Nat), .i .u64 (r.seq : Nat), pv, .s r.proc, qv]], by simp, by rw [lk_set, if_pos rfl], by simp [h3], fun j c x hc hx => ?_, apart_snoc h5 fun y hy b' hb' => ?_, by omega, by omega⟩)
        · simp only [lk_set] at h
          split at h
          · omega
          · split at h
            · omega
            · have := e1 j x h; omega
        · by_cases hj : j < M.length
          · rw [List.getElem?_append_left (by omega)] at hc
            rw [List.getElem?_append_left hj] at hx
            refine (h4 j c x hc hx).keep (fun w w1 w2 ⟨g', sz, rows', w3, w4⟩ => ?_) (by omega)
            rw [lk_set, if_neg (lk_ne w4 h2 w3), lk_set, if_neg (by omega), e3 w w2]
          · have hj2 := (List.getElem?_eq_some_iff.1 hc).1
            rw [List.length_append, List.length_singleton] at hj2
            have hji : j = M.length := by omega
            subst hji
            rw [List.getElem?_append_right (by omega), h3, Nat.sub_self] at hc
            rw [List.getElem?_append_right (by omega), Nat.sub_self] at hx
            cases hc; cases hx
            refine (e5 _ fun j x h1 h2 => ?_).keep (fun _ _ _ _ => rfl) (by omega)
            have := e1 j x h2
            rw [lk_set, if_neg (by omega), lk_set, if_neg (by omega)]
            exact h2
        · obtain ⟨j, hj⟩ := List.mem_iff_getElem?.1 hy
          obtain ⟨x, hx⟩ : ∃ x, M[j]? = some x := ⟨_, List.getElem?_eq_getElem (by have := (List.getElem?_eq_some_iff.1 hj).1; omega)⟩
          have hb7 := (h4 j y x hj hx).arg_lt hb'
          rcases hl5 with ⟨a, ga, rfl, w2, w3, w4⟩ | ⟨_, _, rfl⟩
          · simp only [argO, ne_eq, Option.some.injEq]
            omega
          · simp [argO]
    · have g1 : ¬ (id : Int) < r.id := by omega
      rw [if_neg g, List.append_nil] at hsn
      simp [-fCall, c1, hrc, get_of hrc, hrl, recCells, g1, hlt, c3]
      exact hnext (i + 1, sv, H, _) (by simp only; omega) ⟨by simp only; omega, by simp only; omega, hNov, fun j x h => by have := hkeys j x h; simp only; omega, by simp only; rw [hsn]; exact hG.keep (fun _ _ _ => rfl) (by omega)⟩
  · have hil : i = l.length := by omega
    subst hil
    rw [List.take_length] at hG
    clear hnext
    have hnv : nov sv = true ∧ sv.mv = true := by
      rcases hG with ⟨_, rfl⟩ | ⟨_, _, _, rfl, _⟩ <;> exact ⟨rfl, rfl⟩
    have hmv := hnv.2
    simp [-fCall, hmv]
    exact hQ _ _ _ ⟨by omega, hNov, hnv.1, hnv.2, fun j x h => by have := hkeys j x h; omega, hG.keep (fun _ _ _ => rfl) (by omega)⟩
end

end Ab
end Go.Proofs.YtidoflgcblglbaaDoor

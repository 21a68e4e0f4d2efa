/-
  DERIVED. locksteplaw26.LogsCut: how many of each log count, in which order: the document's answer.
  Conditions: enough rounds, enough depth; bounded lengths.
-/
import Derived.Test.YtidoflgcblglbaaDoorW31
import Derived.Test.YtidoflgcblglbaaDoorWI
import Derived.Test.YtidoflgcblglbaaDoorW35
set_option linter.all false
set_option maxHeartbeats 4000000
namespace Go.Proofs.YtidoflgcblglbaaDoor
namespace Ab
open Go.Lib
set_option maxRecDepth 100000
set_option maxHeartbeats 4000000
set_option linter.all false
section
attribute [local simp] wp_region regionA opsA nCall rCall goCallR pCall pnCall lenA appendA appRow newsA rowsSz rowsOf isIntD makeSliceA elemOf rowsBuilt eqA eq1
theorem p_pCheck {K m : Nat} (hK : big K) (hm : 10 ≤ m) {v : AV} {logs : Logs} (hv : LogsV v logs) (hB : LogsB logs) : pR (callA cfg K m) 8 [v] = some (.i .i64 (chk logs)) := by
  obtain ⟨m, rfl⟩ : ∃ k, m = k + 1 := ⟨m - 1, by omega⟩
  have h := p_check (K := K) (m := m) hK (by omega) hv hB
  obtain ⟨z, rows, rfl, _⟩ := hv
  refine pr_of rfl ?_ rfl
  refine run_wp Tryd.func8 rfl (by simp [Tryd.f8]) ?_
  simp [h]
end
section
attribute [local simp] wp_regW opsW_nil opsW_cons opsK_eq regK_no regK_draw oW_n oW_h oW_r oW_pn convA appendA appRow newsA rowsSz rowsOf isIntD makeSliceA elemOf rowsBuilt eqA eq1 lenA

/- A drawn region in which some lay objects beside, some turn the heap: which pairs need an order. -/
def Fl (e : Eff) : Nat → Prop
  | 0 => quietE e = true ∧ e.rd = some []
  | 1 => quietE e = true
  | 2 => e.hp = none
  | _ => True
def FlAll : List Eff → List Nat → Prop
  | [], [] => True
  | e :: es, n :: q => Fl e n ∧ FlAll es q
  | _, _ => False
def okQ (a b : Nat) : Bool := (decide (a ≤ 1) && decide (b ≤ 1)) || (a == 0 && b == 2) || (a == 2 && b == 0)
theorem flAll_at : ∀ {es : List Eff} {q : List Nat}, FlAll es q → es.length = q.length ∧ ∀ (i : Nat) (e : Eff), es[i]? = some e → Fl e (q.getD i 3)
  | [], [], _ => ⟨rfl, fun i e h => by simp at h⟩
  | [], _ :: _, h => absurd h (by simp [FlAll])
  | _ :: _, [], h => absurd h (by simp [FlAll])
  | e :: es, n :: q, h => by
    obtain ⟨h1, h2⟩ := h
    obtain ⟨h3, h4⟩ := flAll_at h2
    refine ⟨by simp [h3], fun i x hx => ?_⟩
    cases i with
    | zero => cases hx; exact h1
    | succ i => exact h4 i x (by simpa using hx)
theorem lay_clear {e f : Eff} (he : e.hp = none) (hf : quietE f = true) (hr : f.rd = some []) : e.clear f = true := by
  unfold quietE at hf
  simp only [Bool.and_eq_true, List.isEmpty_iff, Option.isNone_iff_eq_none] at hf
  unfold Eff.clear Eff.wkeys
  rw [he, hf.1, hf.2, hr]
  simp
theorem dyn_by {ops : Array Oper} {es : List Eff} (q : List Nat) (hq : FlAll es q) (hb : pairsOk (fun i j => ((befD ops.toList).getD j []).contains i || okQ (q.getD i 3) (q.getD j 3)) q.length = true) : dynOk (befOf ops.toList) es = true := by
  obtain ⟨h1, h2⟩ := flAll_at hq
  refine dyn_fast ?_
  unfold dynOk
  unfold pairsOk at hb ⊢
  rw [h1]
  refine List.all_eq_true.2 fun j hj => List.all_eq_true.2 fun i hi => ?_
  have h3 := List.all_eq_true.1 (List.all_eq_true.1 hb j hj) i hi
  rw [List.mem_range] at hj hi
  rw [Bool.or_eq_true] at h3 ⊢
  rcases h3 with h3 | h3
  · exact .inl h3
  right
  have e1 : es[i]? = some es[i] := List.getElem?_eq_getElem (by omega)
  have e2 : es[j]? = some es[j] := List.getElem?_eq_getElem (by omega)
  have f1 := h2 i _ e1
  have f2 := h2 j _ e2
  simp only [e1, e2]
  generalize q.getD i 3 = a at h3 f1
  generalize q.getD j 3 = b at h3 f2
  have q01 : ∀ {e : Eff} {n : Nat}, n ≤ 1 → Fl e n → quietE e = true := fun {e n} hn h => by
    match n, hn, h with
    | 0, _, h => exact h.1
    | 1, _, h => exact h
  unfold okQ at h3
  simp only [Bool.or_eq_true, Bool.and_eq_true, decide_eq_true_eq, beq_iff_eq] at h3
  unfold Eff.apart
  rw [Bool.and_eq_true]
  rcases h3 with (⟨h3, h4⟩ | ⟨rfl, rfl⟩) | ⟨rfl, rfl⟩
  · exact ⟨quiet_clear (q01 h3 f1), quiet_clear (q01 h4 f2)⟩
  · exact ⟨quiet_clear f1.1, lay_clear f2 f1.1 f1.2⟩
  · exact ⟨lay_clear f1 f2.1 f2.2, quiet_clear f2.1⟩
theorem mapO_one {f : AV → Option AV} {x x' : AV} (h1 : f x = some x') : mapO f [x] = some [x'] := by simp [mapO, h1]
/-- Behind, of one record that holds nothing but its number. -/
theorem c_behind5 {K n nx : Nat} (hK : big K) (hn : 2 ≤ n) : Sp K n 15 [.vs false 6 [[.i .u64 5, .i .u64 0, .i .u64 0, .vs true 0 [], .s { data := { toList := [] } }, .vs true 0 []]], .i .u64 4] [] nx fun r H N => nov r = true ∧ NovH H ∧ r.mv = true ∧ slLen r = some 1 := by
  refine sp_cps fun Q hQ => ?_
  obtain ⟨n, rfl⟩ : ∃ m, n = m + 1 := ⟨n - 1, by omega⟩
  have h1 := fun N => c_cloneI0 (K := K) (n := n) (nx := N) (by omega) 0
  have h2 := fun N => c_cloneV0 (K := K) (n := n) (nx := N) (by omega) 0
  refine sp_of rfl (run_wp Tryd.func15 rfl (by simp [Tryd.f15]) ?_)
  simp
  refine loop_wp (ι := Nat × AV × Hp × Nat) (fun i => { env := [(1, .i .u64 4), (5, i.2.1), (9, .vs false 6 [[.i .u64 5, .i .u64 0, .i .u64 0, .vs true 0 [], .s { data := { toList := [] } }, .vs true 0 []]]), (10, .i .i64 1), (11, .i .i64 (i.1 : Nat))], loc := [], hp := i.2.2.1, nx := i.2.2.2 }) (fun i => 1 - i.1)
    (fun i => (i.1 = 0 ∧ i.2.1 = .vs true 0 [] ∧ i.2.2.1 = []) ∨ (i.1 = 1 ∧ nov i.2.1 = true ∧ NovH i.2.2.1 ∧ i.2.1.mv = true ∧ slLen i.2.1 = some 1)) (0, .vs true 0 [], [], _) rfl (.inl ⟨rfl, rfl, rfl⟩) (by simp; unfold big at hK; omega) ?_
  rintro Next ⟨i, sv, H, N⟩ hi hnext
  simp only at hi hnext
  rcases hi with ⟨rfl, rfl, rfl⟩ | ⟨rfl, q1, q2, q3, q4⟩
  · simp [h1, h2, mostB, wrap1, lk_set, nov, nov1]
    refine ⟨⟨by kernel_rfl, by simp [dynOk, pairsOk, befOf, Region.binds, Eff.apart, Eff.clear, Eff.wkeys, Ref.key, AV.refs0, List.range, List.range.loop, sameAt]⟩, ?_⟩
    refine hnext (1, _, _, _) (by simp) (.inr ⟨rfl, rfl, fun e he => ?_, rfl, rfl⟩)
    simp at he
    rcases he with rfl | rfl <;> rfl
  · simp [q3]
    exact hQ _ _ _ ⟨q1, q2, q3, q4⟩
/-- Two lists of counts that are alike. -/
theorem lc_nums {K n L N : Nat} (hK : big K) {v inv v6 v8 : AV} {id : Int} {H : Hp} {ns : List Nat} (hv : v.mv = true) (hmv : inv.mv = true) (hL : ns.length = L) (hL2 : L ≤ 2 ^ 20) (h : (ns = [] ∧ v6 = .vs true 0 [] ∧ v8 = .vs true 0 []) ∨ ∃ ka ga kb gb, v6 = .rs ka ga 0 L 1 ∧ v8 = .rs kb gb 0 L 1 ∧ lk H ka = some (ga, .arr 1 (natRows ns)) ∧ lk H kb = some (gb, .arr 1 (natRows ns))) :
    wp (loopK cfg (callA cfg K n) K 3 (loopOf Tryd.f3 0) { env := [(0, v), (1, .i .u64 id), (5, inv), (6, v6), (8, v8), (10, .i .i64 0)], loc := [], hp := H, nx := N }) fun x => ∃ N', N ≤ N' ∧ x = (.exit 0, { env := [(0, v), (1, .i .u64 id), (5, inv), (6, v6), (8, v8), (10, .i .i64 (L : Nat)), (47, .b false)], loc := [], hp := H, nx := N' }) := by
  rcases h with ⟨rfl, rfl, rfl⟩ | ⟨ka, ga, kb, gb, rfl, rfl, h1, h2⟩
  · obtain rfl : L = 0 := hL.symm
    refine loop_wp (ι := Nat) (fun i => { env := [(0, v), (1, .i .u64 id), (5, inv), (6, .vs true 0 []), (8, .vs true 0 []), (10, .i .i64 0)], loc := [], hp := H, nx := i }) (fun i => 0) (fun i => N ≤ i) N rfl (Nat.le_refl _) (by show 0 < K; unfold big at hK; omega) ?_
    rintro Next N1 hN1 hnext
    simp [loopOf, loopsIn, Tryd.f3, hv, hmv]
    omega
  · refine loop_wp (ι := Nat × Nat) (fun i => { env := [(0, v), (1, .i .u64 id), (5, inv), (6, .rs ka ga 0 L 1), (8, .rs kb gb 0 L 1), (10, .i .i64 (i.1 : Nat))], loc := [], hp := H, nx := i.2 }) (fun i => L - i.1) (fun i => i.1 ≤ L ∧ N ≤ i.2) (0, N) rfl ⟨Nat.zero_le _, Nat.le_refl _⟩ (by simp; unfold big at hK; omega) ?_
    rintro Next ⟨i, N1⟩ ⟨hi, hN1⟩ hnext
    simp only at hi hN1 hnext
    by_cases hlt : i < L
    · have c1 : (i : Int) < L := by omega
      have c3 : IntKind.i64.wrap ((i : Int) + 1) = ((i + 1 : Nat) : Int) := by rw [wrap_i64 (by omega) (by omega)]; omega
      have i1 : i < ns.length := by omega
      have hr := nat_row (nAt_get i1)
      simp [loopOf, loopsIn, Tryd.f3, hv, hmv, c1, h1, h2, hL, hlt, hr, c3]
      refine ⟨⟨by kernel_rfl, dyn_quiet (by simp [quietE])⟩, ?_⟩
      exact hnext (i + 1, _) (by simp only; omega) ⟨by simp only; omega, by simp only; omega⟩
    · have hil : i = L := by omega
      subst hil
      simp [loopOf, loopsIn, Tryd.f3, hv, hmv]
      omega
/-- The program's side of a world in which logs were copied. -/
structure LcS (M : Nat) (inv : AV) (logs : Logs) (H : Hp) (N : Nat) : Prop where
  inl : InL H M inv logs
  keys : ∀ j x, lk H j = some x → j < N
  le : M ≤ N
theorem LcS.lay {M N N' : Nat} {inv : AV} {logs : Logs} {H H' : Hp} (h : LcS M inv logs H N) (hk : ∀ j x, lk H' j = some x → N ≤ j ∧ j < N') (hN : N ≤ N') : LcS M inv logs (layH H H') N' := by
  refine ⟨h.inl.keep (fun j hj => lay_low hk (by have := h.le; omega)) (Nat.le_refl _), fun j x hx => ?_, by have := h.le; omega⟩
  rw [lk_layH] at hx
  cases h2 : lk H' j with
  | none => rw [h2] at hx; have := h.keys j x hx; omega
  | some y => have := hk j y h2; omega
theorem LcS.up {M N N' : Nat} {inv : AV} {logs : Logs} {H : Hp} (h : LcS M inv logs H N) (hN : N ≤ N') : LcS M inv logs H N' := ⟨h.inl, fun j x hx => by have := h.keys j x hx; omega, by have := h.le; omega⟩
theorem LcS.turn {M N N' : Nat} {inv : AV} {logs : Logs} {H H' : Hp} (h : LcS M inv logs H N) (hk : ∀ j, j < M → lk H' j = lk H j) (hk2 : ∀ j x, lk H' j = some x → j < N') (hN : N ≤ N') : LcS M inv logs H' N' := ⟨h.inl.keep hk (Nat.le_refl _), hk2, by have := h.le; omega⟩

theorem f_in {K n M : Nat} {st : St} {nx : Nat} {dst : Option Nat} {g : FuncId} {inv : AV} {logs : Logs} {Q : Eff → Nat → Prop} {P : AV → Hp → Nat → Prop} (h : InL st.hp M inv logs) (hs : ∀ w, LogsV w logs → Sp K n g [w] [] nx P)
    (hq : ∀ r hp n', P r hp n' → nov r = true ∧ NovH hp ∧ Q ⟨dst, r, layW hp, none, none⟩ n') : oW (fCall (callA cfg K n) st nx dst g [inv]) Q := by
  obtain ⟨w, hw1, hw2⟩ := h.frz (get := st.get) (fun _ _ => rfl) (d := 7)
  exact f_sp (mapO_one hw1) (hs w hw2) hq
theorem pn_in {call : CallT} {M : Nat} {st : St} {nx : Nat} {dst : Option Nat} {g : FuncId} {inv : AV} {logs : Logs} {r : AV} {Q : Eff → Nat → Prop} (h : InL st.hp M inv logs) (hs : ∀ w, LogsV w logs → pR call g [w] = some r) (hr : fl r = true)
    (hq : ∀ rd, Q ⟨dst, r, [], none, rd⟩ nx) : oW (pnCall call st nx dst g [inv]) Q := by
  obtain ⟨w, hw1, hw2⟩ := h.frz (get := st.get) (fun _ _ => rfl) (d := 7)
  exact pn_use (mapO_one hw1) (hs w hw2) hr hq
theorem val_plain2 (x : Val) : x.plain.plain = x.plain := by
  unfold Val.plain
  by_cases h1 : x.t = 1 ∨ x.t = 2 ∨ x.t = 4
  · simp [h1]
  · by_cases h2 : x.t = 3
    · simp [h2]
    · simp [h1, h2]
theorem plain_same {a b : Rec} (h : sameRec a b) : sameRec a.plain b := by
  obtain ⟨h1, h2, h3, h4, h5, h6⟩ := h
  refine ⟨h1, h2, h3, h4, h5, ?_⟩
  rw [← h6]
  simp only [Rec.plain, List.map_map]
  apply List.map_congr_left
  intro x _
  simp only [Function.comp_apply]
  exact val_plain2 x
theorem plain_recB {a : Rec} (h : RecB a) : RecB a.plain := by
  refine ⟨h.id, h.parts, h.proc, by simp only [Rec.plain, List.length_map]; exact h.args, fun v hv => ?_⟩
  simp only [Rec.plain, List.mem_map] at hv
  obtain ⟨x, hx, rfl⟩ := hv
  have := h.text x hx
  unfold Val.plain
  split
  · simp
  · split
    · exact this
    · simp
theorem recsO_B {H : Hp} {nx N : Nat} {v : AV} {B : List Rec} (h : RecsO H nx N v B) : RecsB H v B := by
  rcases h with h | ⟨kn, g, rows, h1, h2, h3, h4, _⟩
  · exact .inl h
  · exact .inr (.inr ⟨kn, g, rows, h1, h2, h3, h4⟩)
theorem RecsB.keep {H H' : Hp} {v : AV} {B : List Rec} (h : RecsB H v B) (hk : ∀ j, (∃ x, lk H j = some x) → lk H' j = lk H j) : RecsB H' v B := by
  rcases h with h | h | ⟨kn, g, rows, h1, h2, h3, h4⟩
  · exact .inl h
  · exact .inr (.inl h)
  · exact .inr (.inr ⟨kn, g, rows, h1, by rw [hk kn ⟨_, h2⟩]; exact h2, h3, h4⟩)
/-- Both orders, twice. -/
theorem lc_orders {K n M N : Nat} (hK : big K) (hn : 14 ≤ n) {z : Bool} {rows : List (List AV)} {logs : Logs} (hv : LogsV (.vs z 1 rows) logs) (hB : LogsB logs) (hsum : (logs.map List.length).sum ≤ 2 ^ 22) (id : Int) {inv : AV} (hmv : inv.mv = true) {H : Hp} (hS : LcS M inv logs H N) :
    wp (loopK cfg (callA cfg K n) K 3 (loopOf Tryd.f3 1) { env := [(0, .vs z 1 rows), (1, .i .u64 id), (5, inv), (11, .i .i64 0)], loc := [], hp := H, nx := N }) fun x => ∃ H' N', LcS M inv logs H' N' ∧ x = (.exit 2, { env := [(0, .vs z 1 rows), (1, .i .u64 id), (5, inv), (11, .i .i64 2), (60, .b false)], loc := [], hp := H', nx := N' }) := by
  refine loop_wp (ι := Nat × Hp × Nat) (fun i => { env := [(0, .vs z 1 rows), (1, .i .u64 id), (5, inv), (11, .i .i64 (i.1 : Nat))], loc := [], hp := i.2.1, nx := i.2.2 }) (fun i => 2 - i.1)
    (fun i => i.1 ≤ 2 ∧ LcS M inv logs i.2.1 i.2.2) (0, H, N) rfl ⟨by simp, hS⟩ (by simp; unfold big at hK; omega) ?_
  rintro Next ⟨i, H1, N1⟩ ⟨hi, hS1⟩ hnext
  simp only at hi hS1 hnext
  by_cases hlt : i < 2
  · have c1 : (i : Int) < 2 := by omega
    have c3 : IntKind.i64.wrap ((i : Int) + 1) = ((i + 1 : Nat) : Int) := by rw [wrap_i64 (by omega) (by omega)]; omega
    simp [-fCall, loopOf, loopsIn, Tryd.f3, c1, hmv]
    refine f_in hS1.inl (fun w hw => c_pOrder (K := K) (m := n) hK (by omega) hw hB hsum) ?_
    rintro r H4 N4 ⟨hN4, hNov4, hnr, hk4, h4⟩
    refine ⟨hnr, hNov4, ?_⟩
    have hS4 := hS1.lay (fun j x h => by have := hk4 j x h; omega) (N' := N4) (by omega)
    by_cases hc : chk logs = 0
    · rw [if_pos hc] at h4
      obtain ⟨w, A, rfl, hA, hAp, hAs⟩ := h4
      have hwm : w.mv = true := by
        rcases hA with ⟨_, rfl⟩ | ⟨_, _, _, rfl, _⟩ <;> rfl
      simp [-fCall, foldl_layW, hwm, hmv]
      refine (c_rOrder (K := K) (m := n) hK (by omega) hv hB hsum).beside ?_
      rintro r H5 N5 ⟨hN5, hk5, h5⟩
      rw [besideE_lay]
      rw [if_pos hc] at h5
      obtain ⟨wb, B, rfl, hBo, hBr, hBc, hBa, hBl⟩ := h5
      have hbm : wb.mv = true := by
        rcases hBo with ⟨_, rfl⟩ | ⟨_, _, _, rfl, _⟩ <;> rfl
      have hS5 := hS4.lay (fun j x h => by have := hk5 j x h; omega) (N' := N5) (by omega)
      obtain ⟨hl1, hF, hCan⟩ := chk_fits hc
      have hPt : ∀ (i k : Nat) (r : Rec), (logAt logs i)[k]? = some r → PartsOk r.parts := fun i k r h => (hCan i k r h).2.1
      obtain ⟨o1, _, o3⟩ := order_same hF hPt (cutAll_len logs) (fun i k r h1 h2 => cutAll_closed logs h1 h2) hAp (hAs.imp fun h => by omega) hBr hBc hBa
      have hA5 : RowsG false (layH (layH H1 H4) H5) (N1 + 9) N5 w (A.map Rec.plain) := by
        have e1 : RowsG false (layH H1 H4) (N1 + 9) N4 w (A.map Rec.plain) := hA.keep (fun j h1 h2 => by
          rw [lk_layH]
          cases h9 : lk H4 j with
          | some y => rfl
          | none =>
            simp only
            cases h8 : lk H1 j with
            | none => rfl
            | some y => have := hS1.keys j y h8; omega) (Nat.le_refl _)
        exact e1.keep (fun j h1 h2 => lay_low hk5 (by omega)) (by omega)
      have hB5 : RecsB (layH (layH H1 H4) H5) wb B := (recsO_B hBo).keep fun j ⟨x, hx⟩ => by rw [hx]; exact lay_new hx
      have htold := c_told (K := K) (n := n) hK (by omega) (hA5.keep (fun _ _ _ => rfl) (by omega : N5 ≤ N5 + 9)) hB5 (by rw [List.length_map]; exact o1) (by rw [List.length_map]; omega) (fun a ha => by
          obtain ⟨x, hx, rfl⟩ := List.mem_map.1 ha
          obtain ⟨i1, k1, _, _, g3, _⟩ := firsts_mem.1 (hAp.mem_iff.1 hx)
          exact plain_recB ((hB.log _ (List.mem_of_getElem? (logAt_some g3))).each x (List.mem_of_getElem? g3))) (fun i a b ha hb => by
          rw [List.getElem?_map] at ha
          cases hai : A[i]? with
          | none => rw [hai] at ha; cases ha
          | some x => rw [hai] at ha; cases ha; exact plain_same (o3 i x b hai hb)) (by have := hS1.le; omega) (fun j x h => by have := hS5.keys j x h; omega)
      simp [-fCall, foldl_layW, hwm, hbm, hmv]
      refine htold.cW ?_
      rintro r H6 N6 ⟨rfl, w1, w2, w3⟩
      simp [-fCall, c3, hmv]
      exact hnext (i + 1, H6, _) (by simp only; omega) ⟨by simp only; omega, hS5.turn (fun j hj => w3 j (by have := hS1.le; omega)) (fun j x h => by have := w2 j x h; simp only; omega) (by simp only; omega)⟩
    · rw [if_neg hc] at h4
      subst h4
      simp [-fCall, foldl_layW, hmv]
      refine (c_rOrder (K := K) (m := n) hK (by omega) hv hB hsum).beside ?_
      rintro r H5 N5 ⟨hN5, hk5, h5⟩
      rw [besideE_lay]
      rw [if_neg hc] at h5
      subst h5
      have hS5 := hS4.lay (fun j x h => by have := hk5 j x h; omega) (N' := N5) (by omega)
      have hcc : (chk logs != chk logs) = false := by simp
      simp [-fCall, foldl_layW, hmv, hcc]
      refine (c_told0 (va := .vs true 0 []) (vb := .vs true 0 []) hK (by omega) rfl rfl rfl rfl).cW ?_
      rintro r H6 N6 ⟨rfl, w1, rfl⟩
      simp [-fCall, c3, hmv]
      exact hnext (i + 1, _, _) (by simp only; omega) ⟨by simp only; omega, hS5.up (by simp only; omega)⟩
  · have hi2 : i = 2 := by omega
    subst hi2
    simp [-fCall, loopOf, loopsIn, Tryd.f3]
    exact hS1.up (by omega)
theorem out_B {H : Hp} {nx N : Nat} {v : AV} {z : Bool} {rows : List (List AV)} {l : List Rec} (hv : RecsV (.vs z 6 rows) l) (id : Nat) (h : (outR rows id l.length = [] ∧ v = .vs true 0 []) ∨ ∃ kn g, v = .rs kn g 0 (outR rows id l.length).length 6 ∧ lk H kn = some (g, .arr 6 (outR rows id l.length)) ∧ nx ≤ kn ∧ kn < N) : RecsB H v (l.filter fun r => decide (id < r.id)) := by
  have ho := out_recs hv id l.length (Nat.le_refl _)
  rw [List.take_length] at ho
  rcases h with ⟨h1, h2⟩ | ⟨kn, g, h1, h2, _⟩
  · rw [h1] at ho
    exact .inl ⟨List.eq_nil_of_length_eq_zero ho.1.symm, h2⟩
  · exact .inr (.inr ⟨kn, g, _, by rw [h1, ho.1], h2, ho.1, ho.2⟩)
theorem f_inR {K n lo M : Nat} {st : St} {nx : Nat} {dst : Option Nat} {g : FuncId} {v : AV} {l : List Rec} {ex : List AV} {Q : Eff → Nat → Prop} {P : AV → Hp → Nat → Prop} (h : InR st.hp lo M v l) (hex : ∀ get : Ref → Option AO, mapO (frz get 12) ex = some ex)
    (hs : ∀ ws, RecsV (.vs false 6 ws) l → (∀ (j : Nat) (c : List AV) (r : Rec), ws[j]? = some c → l[j]? = some r → c = recCells false false r) → Sp K n g (.vs false 6 ws :: ex) [] nx P)
    (hq : ∀ r hp n', P r hp n' → nov r = true ∧ NovH hp ∧ Q ⟨dst, r, layW hp, none, none⟩ n') : oW (fCall (callA cfg K n) st nx dst g (v :: ex)) Q := by
  obtain ⟨ws, hw1, hw2, hw3⟩ := h.frz (get := st.get) (fun _ _ => rfl) (d := 9)
  refine f_sp (args' := .vs false 6 ws :: ex) ?_ (hs ws hw2 hw3) hq
  have := hex st.get
  have hw4 : frz st.get frzDepth v = some (.vs false 6 ws) := hw1
  have h5 : mapO (frz st.get frzDepth) ex = some ex := this
  simp only [mapO, hw4, h5, Option.map_some]
/-- What is behind a number, in each log; a log copied. -/
theorem lc_behind {K n M N : Nat} (hK : big K) (hn : 14 ≤ n) {z : Bool} {rows : List (List AV)} {logs : Logs} (hv : LogsV (.vs z 1 rows) logs) (hB : LogsB logs) (id : Nat) {inv : AV} {H : Hp} (hS : LcS M inv logs H N) :
    wp (loopK cfg (callA cfg K n) K 3 (loopOf Tryd.f3 2) { env := [(0, .vs z 1 rows), (1, .i .u64 (id : Nat)), (5, inv), (16, .i .i64 0)], loc := [], hp := H, nx := N }) fun x => ∃ H' N', x = (.exit 4, { env := [(0, .vs z 1 rows), (1, .i .u64 (id : Nat)), (5, inv), (16, .i .i64 (logs.length : Nat)), (85, .b false)], loc := [], hp := H', nx := N' }) := by
  have hrl : rows.length = logs.length := by
    obtain ⟨z', rows', e, h, _⟩ := hv
    cases e; exact h
  have hll := hB.len
  refine loop_wp (ι := Nat × Hp × Nat) (fun i => { env := [(0, .vs z 1 rows), (1, .i .u64 (id : Nat)), (5, inv), (16, .i .i64 (i.1 : Nat))], loc := [], hp := i.2.1, nx := i.2.2 }) (fun i => logs.length - i.1)
    (fun i => i.1 ≤ logs.length ∧ LcS M inv logs i.2.1 i.2.2) (0, H, N) rfl ⟨Nat.zero_le _, hS⟩ (by simp; unfold big at hK; omega) ?_
  rintro Next ⟨i, H1, N1⟩ ⟨hi, hS1⟩ hnext
  simp only at hi hS1 hnext
  by_cases hlt : i < logs.length
  · obtain ⟨zw, wrows, hcr, hw, hlq, hwl, hwz⟩ := log_at hv hlt
    have hlb := hB.log _ (List.mem_of_getElem? hlq)
    have c1 : (i : Int) < logs.length := by omega
    have c3 : IntKind.i64.wrap ((i : Int) + 1) = ((i + 1 : Nat) : Int) := by rw [wrap_i64 (by omega) (by omega)]; omega
    have hS1' := hS1
    obtain ⟨⟨kn, g, irows, rfl, q2, q3, q4, q5⟩, hkeys, hMN⟩ := hS1'
    obtain ⟨ci, hci⟩ : ∃ c, irows[i]? = some c := ⟨_, List.getElem?_eq_getElem (by omega)⟩
    obtain ⟨wi, rfl, hwi⟩ := q5 i ci _ hci hlq
    have hwi2 := hwi
    obtain ⟨ki, gi, _, rfl, _, _, _, _⟩ := hwi2
    have hcd : (i : Nat) < irows.length := by omega
    have hsl := List.length_filter_le (fun r : Rec => decide (id < r.id)) (logAt logs i)
    have hlb2 := hlb.len
    simp [-fCall, loopOf, loopsIn, Tryd.f3, c1, hrl, q2, q3, hlt, hci, get_of hci]
    refine f_inR hwi (fun _ => rfl) (fun ws e1 e2 => c_pBehind false (K := K) (n := n) hK (by omega) e1 (fun _ => e2) hlb id) ?_
    rintro ra H4 N4 ⟨hN4, hNov4, hnr, hrm, hk4, hra⟩
    refine ⟨hnr, hNov4, ?_⟩
    have hS4 := hS1.lay (fun j x h => by have := hk4 j x h; omega) (N' := N4) (by omega)
    simp [-fCall, foldl_layW, hrm, hcr, get_of hcr, hlt]
    refine (c_rBehind (K := K) (n := n) hK (by omega) hw hlb.len id).beside ?_
    rintro rb H5 N5 ⟨hN5, hk5, h5⟩
    rw [besideE_lay]
    have hbm : rb.mv = true := by
      rcases h5 with ⟨_, rfl⟩ | ⟨_, _, rfl, _⟩ <;> rfl
    have hS5 := hS4.lay (fun j x h => by have := hk5 j x h; omega) (N' := N5) (by omega)
    have hA5 : RowsG false (layH (layH H1 H4) H5) (N1 + 4 + 27) N5 ra ((logAt logs i).filter fun r => decide (id < r.id)) := by
      have e1 : RowsG false (layH H1 H4) (N1 + 4 + 27) N4 ra ((logAt logs i).filter fun r => decide (id < r.id)) := hra.keep (fun j h1 h2 => by
        rw [lk_layH]
        cases h9 : lk H4 j with
        | some y => rfl
        | none =>
          simp only
          cases h8 : lk H1 j with
          | none => rfl
          | some y => have := hS1.keys j y h8; omega) (Nat.le_refl _)
      exact e1.keep (fun j h1 h2 => lay_low hk5 (by omega)) (by omega)
    have hB5 : RecsB (layH (layH H1 H4) H5) rb ((logAt logs i).filter fun r => decide (id < r.id)) := (out_B hw id h5).keep fun j ⟨x, hx⟩ => by rw [hx]; exact lay_new hx
    have htold := c_told (K := K) (n := n) hK (by omega) hA5 hB5 rfl (by omega) (fun a ha => hlb.each a (List.mem_filter.1 ha).1) (fun i a b ha hb => by rw [ha] at hb; cases hb; exact .refl _) (by omega) (fun j x h => hS5.keys j x h)
    simp [-fCall, foldl_layW, hrm, hbm]
    refine htold.cW ?_
    rintro r H6 N6 ⟨rfl, w1, w2, w3⟩
    have hS6 := hS5.turn (fun j hj => w3 j (by omega)) w2 w1
    obtain ⟨⟨kn', g', irows', einv, q2', q3', q4', q5'⟩, hkeys6, hMN6⟩ := hS6
    simp only [AV.rs.injEq, and_true, true_and] at einv
    obtain ⟨rfl, rfl⟩ := einv
    obtain ⟨cj, hcj⟩ : ∃ c, irows'[i]? = some c := ⟨_, List.getElem?_eq_getElem (by omega)⟩
    obtain ⟨wj, rfl, hwj⟩ := q5' i cj _ hcj hlq
    have hwj2 := hwj
    obtain ⟨kj, gj, _, rfl, _, _, _, _⟩ := hwj2
    have hcd' : (i : Nat) < irows'.length := by omega
    simp [-fCall, q2', q3', hlt, hcj, get_of hcj]
    refine f_inR hwj (fun _ => rfl) (fun ws e1 e2 => c_RecordsG (K := K) (n := n) hK (by omega) e1 hlb) ?_
    rintro rr H7 N7 ⟨hN7, hNov7, hk7, kr, gr, out, rfl, hlr, hlo, hkr1, hkr2, hapr, hrows⟩
    refine ⟨rfl, hNov7, ?_⟩
    have hS6 : LcS M (.rs kn g 0 logs.length 1) logs H6 N6 := hS5.turn (fun j hj => w3 j (by omega)) w2 w1
    have hS7 := hS6.lay (fun j x h => by have := hk7 j x h; omega) (N' := N7) (by omega)
    have hA7 : RowsG false (layH H6 H7) N6 N7 (.rs kr gr 0 (logAt logs i).length 6) (logAt logs i) := by
      refine .inr ⟨kr, gr, out, rfl, lay_new hlr, hlo, fun j c r hc hr => ?_, hapr, hkr1, hkr2⟩
      obtain ⟨a, ga, b, gb, _, q⟩ := hrows j c r hc hr
      refine q.keep (fun j h1 h2 _ => ?_) (Nat.le_refl _)
      rw [lk_layH]
      cases h9 : lk H7 j with
      | some y => rfl
      | none =>
        simp only
        cases h8 : lk H6 j with
        | none => rfl
        | some y => have := hS6.keys j y h8; omega
    have htold2 := c_told (K := K) (n := n) hK (by omega) hA7 (.inr (.inl hw)) rfl (by omega) (fun a ha => hlb.each a ha) (fun i a b ha hb => by rw [ha] at hb; cases hb; exact .refl _) (by omega) (fun j x h => hS7.keys j x h)
    simp [-fCall, foldl_layW, hcr, get_of hcr, hlt]
    refine htold2.cW ?_
    rintro r H8 N8 ⟨rfl, x1, x2, x3⟩
    have hS8 := hS7.turn (fun j hj => x3 j (by omega)) x2 x1
    simp [-fCall, c3]
    refine ⟨⟨stat_fast (by kernel_rfl), dyn_by [0, 0, 0, 1, 0, 2, 0, 0, 0, 0, 0, 2, 3, 0, 0, 0, 0, 0, 1, 2, 0, 0, 0, 0, 3, 0, 0] (by simp [FlAll, Fl, quietE, AV.refs0]) (by kernel_rfl)⟩, ?_⟩
    exact hnext (i + 1, H8, _) (by simp only; omega) ⟨by simp only; omega, hS8.up (by simp only; omega)⟩
  · have hi2 : i = logs.length := by omega
    subst hi2
    simp [-fCall, loopOf, loopsIn, Tryd.f3, hrl]
theorem c_LogsCut {K n : Nat} (hK : big K) (hn : 15 ≤ n) {v : AV} {logs : Logs} (hv : LogsV v logs) (hB : LogsB logs) (hsum : (logs.map List.length).sum ≤ 2 ^ 22) (id : Nat) (hid : id < 18446744073709551616) : Sp K n 3 [v, .i .u64 (id : Nat)] [] 0 fun r _ _ => r = .b true := by
  refine sp_cps fun Q hQ => ?_
  obtain ⟨n, rfl⟩ : ∃ m, n = m + 1 := ⟨n - 1, by omega⟩
  have hrc := p_rCheck (K := K) (m := n) hK (by omega) hv hB
  have hv0 := hv
  obtain ⟨z, rows, rfl, hrl, _, _⟩ := hv0
  have hll := hB.len
  refine sp_of rfl (run_wp Tryd.func3 rfl (by simp [Tryd.f3]) ?_)
  simp [-fCall, hrl]
  refine f_sp (args' := [.vs z 1 rows]) (by simp) (c_Logs (K := K) (n := n) hK (by omega) hv hB) ?_
  rintro inv H0 M ⟨hM, hNov, hnv, hmv, hkeys, hin⟩
  refine ⟨hnv, hNov, ?_⟩
  have hlay : ∀ j, lk (layH [] H0) j = lk H0 j := fun j => by
    rw [lk_layH]
    cases lk H0 j <;> rfl
  have hin0 : InL (layH [] H0) M inv logs := hin.keep (fun j _ => hlay j) (Nat.le_refl _)
  have hk0 : ∀ j x, lk (layH [] H0) j = some x → j < M := fun j x h => by rw [hlay] at h; exact (hkeys j x h).2
  clear hin hkeys hNov hlay
  simp [-fCall, foldl_layW, hmv]
  generalize layH [] H0 = H1 at hin0 hk0
  have hS1 : LcS M inv logs H1 M := ⟨hin0, hk0, Nat.le_refl _⟩
  refine pn_in hin0 (fun w hw => p_pCheck (K := K) (m := n) hK (by omega) hw hB) rfl fun rd => ?_
  have hcc : (chk logs != chk logs) = false := by simp
  simp [-fCall, hmv, hrc, hcc]
  refine f_in hin0 (fun w hw => c_pCut (K := K) (m := n) hK (by omega) hw hB hsum) ?_
  rintro r H4 N4 ⟨hN4, h4⟩
  by_cases hc : chk logs = 0
  · rw [if_pos hc] at h4
    obtain ⟨ka, ga, rfl, rfl, hka1, hka2⟩ := h4
    refine ⟨rfl, fun e he => (by simp at he; rw [he]; simp [novO, nov_nat]), ?_⟩
    simp [-fCall, foldl_layW, hmv]
    refine (c_rCut (K := K) (m := n) hK (by omega) hv hB hsum).beside ?_
    rintro r H5 N5 ⟨hN5, hk5, h5⟩
    rw [besideE_lay]
    rw [if_pos hc] at h5
    obtain ⟨kb, gb, rfl, hlb, hkb1, hkb2⟩ := h5
    simp [-fCall, foldl_layW, hmv]
    have hk4 : ∀ j x, lk [(ka, (ga, AO.arr 1 (natRows (cutAll logs))))] j = some x → M + 9 ≤ j ∧ j < N4 := fun j x h => by
      simp only [lk] at h
      split at h
      · omega
      · cases h
    have hS4 := hS1.lay (fun j x h => by have := hk4 j x h; omega) (N' := N4) (by omega)
    have hS5 := hS4.lay (fun j x h => by have := hk5 j x h; omega) (N' := N5) (by omega)
    have e1 : lk (layH (layH H1 [(ka, (ga, AO.arr 1 (natRows (cutAll logs))))]) H5) ka = some (ga, .arr 1 (natRows (cutAll logs))) := by rw [lay_low hk5 (by omega)]; exact lay_new (by simp [lk])
    refine wp_mono (lc_nums hK rfl hmv (cutAll_len logs) hll (.inr ⟨ka, ga, kb, gb, rfl, rfl, e1, lay_new hlb⟩)) ?_
    rintro _ ⟨N5', hN5', rfl⟩
    simp [-fCall, hmv]
    refine wp_mono (lc_orders hK (by omega) hv hB hsum id hmv (hS5.up (by omega))) ?_
    rintro _ ⟨H6, N6, hS6, rfl⟩
    simp [-fCall, hmv]
    refine wp_mono (lc_behind hK (by omega) hv hB id (hS6.up (by omega))) ?_
    rintro _ ⟨H7, N7, rfl⟩
    simp [-fCall, lk_set]
    refine f_sp (args' := [.vs false 6 [[.i .u64 5, .i .u64 0, .i .u64 0, .vs true 0 [], .s { data := { toList := [] } }, .vs true 0 []]], .i .u64 4]) (by simp [lk_set]) (c_behind5 hK (by omega)) ?_
    rintro r H8 N8 ⟨w1, w2, w3, w4⟩
    refine ⟨w1, w2, ?_⟩
    simp [-lenA, lenA_sl, w3, w4, foldl_layW]
    exact hQ _ _ _ rfl
  · rw [if_neg hc] at h4
    obtain ⟨rfl, rfl⟩ := h4
    refine ⟨rfl, fun e he => (by cases he), ?_⟩
    simp [-fCall, foldl_layW, hmv]
    refine (c_rCut (K := K) (m := n) hK (by omega) hv hB hsum).beside ?_
    rintro r H5 N5 ⟨hN5, hk5, h5⟩
    rw [besideE_lay]
    rw [if_neg hc] at h5
    subst h5
    simp [-fCall, foldl_layW, hmv, hcc]
    have hS4 := hS1.lay (H' := []) (N' := N4) (fun j x h => (by cases h)) (by omega)
    have hS5 := hS4.lay (fun j x h => by have := hk5 j x h; omega) (N' := N5) (by omega)
    refine wp_mono (lc_nums (ns := []) (L := 0) hK rfl hmv rfl (by omega) (.inl ⟨rfl, rfl, rfl⟩)) ?_
    rintro _ ⟨N5', hN5', rfl⟩
    simp [-fCall, hmv]
    refine wp_mono (lc_orders hK (by omega) hv hB hsum id hmv (hS5.up (by omega))) ?_
    rintro _ ⟨H6, N6, hS6, rfl⟩
    simp [-fCall, hmv]
    refine wp_mono (lc_behind hK (by omega) hv hB id (hS6.up (by omega))) ?_
    rintro _ ⟨H7, N7, rfl⟩
    simp [-fCall, lk_set]
    refine f_sp (args' := [.vs false 6 [[.i .u64 5, .i .u64 0, .i .u64 0, .vs true 0 [], .s { data := { toList := [] } }, .vs true 0 []]], .i .u64 4]) (by simp [lk_set]) (c_behind5 hK (by omega)) ?_
    rintro r H8 N8 ⟨w1, w2, w3, w4⟩
    refine ⟨w1, w2, ?_⟩
    simp [-lenA, lenA_sl, w3, w4, foldl_layW]
    exact hQ _ _ _ rfl
end

end Ab
end Go.Proofs.YtidoflgcblglbaaDoor

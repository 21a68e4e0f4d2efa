/-
  DERIVED. A log's files looked at.
  Conditions: enough rounds, enough depth; a disk of bounded size.
-/
import Derived.Test.YtmbbnoipoifhhaaGreatDoorV6
import Derived.Test.YtmbbnoipoifhhaaGreatDoorV7
set_option linter.all false
set_option maxHeartbeats 4000000
namespace Go.Proofs.YtmbbnoipoifhhaaGreatDoor
namespace Ab
set_option maxRecDepth 100000
set_option maxHeartbeats 8000000
set_option linter.all false
attribute [local simp] wp_regW opsW_nil opsW_cons opsK_eq regK_no regK_draw oW_n oW_h oW_r oW_pn convA appendA appRow newsA rowsSz rowsOf isIntD makeSliceA elemOf rowsBuilt eqA eq1
attribute [-simp] fCall

theorem wrap_u64Z (x : Int) : IntKind.u64.wrap x = x % 18446744073709551616 := by
  unfold IntKind.wrap
  have hs : IntKind.u64.signed = false := rfl
  rw [bits_u64, hs]
  simp only [Bool.false_and, Bool.false_eq_true, if_false]
  omega
/-- What a region comes to, its continuation held back. -/
theorem oW_cut {r : Option (Eff × Nat)} {C : Cfg} {call : CallT} {f : FuncId} {ops : Array Oper} {base i id : Nat} {l : List Oper} {st : St} {acc : List Eff} {draw : Bool} {Q' : Ex × St → Prop} (P : Ex × St → Prop)
    (h1 : ∀ Q2 : Ex × St → Prop, (∀ x, P x → Q2 x) → oW r (opsK C call f ops base l i st acc (regK C f id ops draw Q2))) (h2 : ∀ x, P x → Q' x) : oW r (opsK C call f ops base l i st acc (regK C f id ops draw Q')) := h1 Q' h2

theorem c_end {K n : Nat} (hn : 1 ≤ n) {H : Hp} {N k : Nat} {rv v2 : AV} {s : Sg} (hk : lk H k = some (0, .cells [.i .u64 (s.no : Nat), rv, v2])) (hr : slLen rv = some s.recs.length) (hm : rv.mv = true) (hno : s.no < 18446744073709551616) (hl : s.recs.length ≤ 2 ^ 30) :
    Sp K n 36 [.ptr k 0 0] H N fun r H' N' => r = .i .u64 (s.till : Nat) ∧ H' = H ∧ N ≤ N' := by
  refine sp_cps fun Q hQ => ?_
  obtain ⟨n, rfl⟩ : ∃ m, n = m + 1 := ⟨n - 1, by omega⟩
  refine sp_of rfl (run_wp Tryz.func36 rfl (by simp [Tryz.f36]) ?_)
  have w1 : IntKind.u64.wrap (s.recs.length : Int) = (s.recs.length : Nat) := wrap_u64' (by omega)
  have w2 : IntKind.u64.wrap (IntKind.u64.wrap ((s.no : Int) + (s.recs.length : Nat)) - 1) = (s.till : Nat) := by
    rw [wrap_u64Z, wrap_u64Z, Sg.till, W64]
    omega
  simp [hk, lenA_sl, hr, hm, w1, w2]
  refine ⟨⟨by kernel_rfl, dyn_quiet (by simp [quietE])⟩, ?_⟩
  exact hQ _ _ _ ⟨rfl, rfl, by omega⟩

/-- The numbers of a log's files. -/
def nosOf (name : Bs) (w : Way) : List Nat := w.filterMap fun e => numberedN name e.1
theorem nos_rise {name : Bs} : ∀ {w : Way}, Rising w → (nosOf name w).Pairwise (· < ·)
  | [], _ => List.Pairwise.nil
  | e :: w, h => by
    have h1 := List.pairwise_cons.1 h
    have ih := nos_rise (name := name) (w := w) h1.2
    unfold nosOf at ih ⊢
    rw [List.filterMap_cons]
    cases hn : numberedN name e.1 with
    | none => exact ih
    | some no =>
      refine List.pairwise_cons.2 ⟨fun b hb => ?_, ih⟩
      obtain ⟨x, hx, hxb⟩ := List.mem_filterMap.1 hb
      obtain ⟨f1, f2⟩ := file_numbered hn
      obtain ⟨f3, f4⟩ := file_numbered hxb
      have := h1.1 x hx
      rw [f1, f3, file_lt f2 f4] at this
      simpa using this
theorem nos_len (name : Bs) (w : Way) : (nosOf name w).length ≤ w.length := List.length_filterMap_le _ _
theorem nos_lt {name : Bs} {w : Way} : ∀ no ∈ nosOf name w, no < W64 := fun no h => by
  obtain ⟨x, _, hx⟩ := List.mem_filterMap.1 h
  exact (file_numbered hx).2
/-- A slice of numbers: none yet, or an array's. -/
def NumV (H : Hp) (v : AV) (l : List Nat) (P : Nat → Prop) : Prop := (l = [] ∧ v = .vs true 0 []) ∨ ∃ k g, l ≠ [] ∧ v = .rs k g 0 l.length 1 ∧ lk H k = some (g, .arr 1 (numRows l)) ∧ P k

variable {kl kd : Nat} {d : Dk} {U : Nat → Prop} {sv : AV} {ks : List Nat} {rvs : Nat → AV} {H : Hp} {N K n m size : Nat} {name : Bs}
theorem readD_len (hI : d.Inv m) (s : Bs) : (readD d s).length ≤ 2 ^ 24 := by
  unfold readD Dk.look
  split
  · simp
  · cases hf : findW d.now s with
    | none => simp
    | some i =>
      simp only [Option.map_some, Option.getD_some]
      have hi := ((hI.way _ (nowW_mem hI.ne)).2.2 _ (findW_mem hf)).1
      have : d.file i ∈ d.files := by
        unfold Dk.file
        rw [List.getElem?_eq_getElem hi]
        exact List.getElem_mem hi
      exact (hI.file _ this).1

theorem shown_cut {rows : List (List AV)} {i0 len : Nat} (h : i0 + len ≤ rows.length) : shown rows i0 len = (rows.drop i0).take len := by
  unfold shown
  split
  · rw [List.take_of_length_le (by rw [List.length_drop]; omega)]
  · rfl
theorem readS_few (no : Nat) (b : Bs) : (readS no b).1.no = no ∧ (readS no b).1.recs.length ≤ b.length := by
  have g1 : ∀ (f n0 : Nat) (p : Bs), (readR f n0 p).length ≤ p.length := by
    intro f
    induction f with
    | zero => intro n0 p; simp [readR]
    | succ f ih =>
      intro n0 p
      rw [readR]
      split
      · simp
      · split
        · simp
        · split
          · simp
          · rename_i x1 x2 x3
            have := ih (n0 + 1) (p.drop (numB (p.take 4) + 12))
            rw [List.length_drop] at this
            rw [List.length_cons]
            omega
  unfold readS
  split
  · simp
  · refine ⟨rfl, ?_⟩
    have := g1 b.length no (b.drop 24)
    rw [List.length_drop] at this
    simp only
    omega
theorem grw_sub {U U' : Nat → Prop} {a b c : Nat} (h : ∀ j, U' j → grw U a b j) (h1 : a ≤ b) (h2 : b ≤ c) {j : Nat} (hj : grw U' b c j) : grw U a c j := by
  rcases hj with hj | hj
  · exact (h j hj).imp id fun e => ⟨e.1, by omega⟩
  · exact .inr ⟨by omega, hj.2⟩
theorem Frm.weak {U U' : Nat → Prop} {h1 h2 h3 : Hp} {n1 n2 n3 : Nat} (a : Frm U h1 n1 h2 n2) (hU : ∀ j, U' j → grw U n1 n2 j) (b : Frm U' h2 n2 h3 n3) : Frm U h1 n1 h3 n3 :=
  ⟨Nat.le_trans a.le b.le, fun j hj hn => (b.out j (Nat.lt_of_lt_of_le hj a.le) fun e => (hU j e).elim hn fun e => by omega).trans (a.out j hj hn)⟩
/-- One file looked at. -/
theorem look_round (hK : big K) (hn : 8 ≤ n) (hI : d.Inv m) (hname : name.length ≤ 40) {segs : List Sg} {nos : List Nat} {i ka ga M : Nat} {h0 g0 : Bool} {Next : St → Prop} {Q : Ex × St → Prop}
    (h : LX kl kd ⟨name, size, segs, 0, 0⟩ d U sv ks rvs H M) (ha : lk H ka = some (ga, .arr 1 (numRows nos))) (hu : ¬ U ka) (hka : ka < M) (hi : i < nos.length) (hfew : nos.length ≤ 64) (hno : nos[i] < W64) (hsl : segs.length = i) (hsm : ∀ s ∈ segs, s.no < W64 ∧ s.recs.length ≤ 2 ^ 24)
    (hret : ∀ H' M', Frm U H M H' M' → (∃ l sv ks rvs U', LX kl kd l d U' sv ks rvs H' M' ∧ ∀ j, U' j → grw U M M' j) → badOf (!(nos.drop (i + 1)).isEmpty) segs nos[i] (readS nos[i] (readD d (fileN name nos[i]))).1 (readS nos[i] (readD d (fileN name nos[i]))).2 (readD d (fileN name nos[i])).length = true →
      Q (.ret, { env := [(2, .b false), (3, .b false), (4, .b false)], loc := [], hp := H', nx := M' }))
    (hnext : ∀ sv' ks' rvs' U' H' M', Frm U H M H' M' → LX kl kd ⟨name, size, segs ++ [(readS nos[i] (readD d (fileN name nos[i]))).1], 0, 0⟩ d U' sv' ks' rvs' H' M' → (∀ j, U' j → grw U M M' j) → ¬ U' ka →
      badOf (!(nos.drop (i + 1)).isEmpty) segs nos[i] (readS nos[i] (readD d (fileN name nos[i]))).1 (readS nos[i] (readD d (fileN name nos[i]))).2 (readD d (fileN name nos[i])).length = false →
      Next { env := [(0, .ptr kl 0 0), (2, .b (!(readS nos[i] (readD d (fileN name nos[i]))).2)), (3, .b (decide ((readS nos[i] (readD d (fileN name nos[i]))).1.size ≠ (readD d (fileN name nos[i])).length))), (5, .rs ka ga 0 nos.length 1), (44, .rs ka ga 0 nos.length 1), (45, .i .i64 (nos.length : Nat)), (46, .i .i64 ((i + 1 : Nat) : Int))], loc := [], hp := H', nx := M' }) :
    wp (codeA cfg (callA cfg K n) K 34 (loopOf Tryz.f34 1) { env := [(0, .ptr kl 0 0), (2, .b h0), (3, .b g0), (5, .rs ka ga 0 nos.length 1), (44, .rs ka ga 0 nos.length 1), (45, .i .i64 (nos.length : Nat)), (46, .i .i64 (i : Nat))], loc := [], hp := H, nx := M }) (loopQ Next Q) := by
  have ht := h.top
  simp only at ht
  have c1 : (i : Int) < nos.length := by omega
  have hx : (numRows nos)[i]? = some [.i .u64 ((nos[i] : Nat) : Int)] := by simp [numRows, List.getElem?_eq_getElem hi]
  obtain ⟨no, hnoe⟩ : ∃ no, no = nos[i] := ⟨_, rfl⟩
  rw [← hnoe] at hx hno hret hnext
  obtain ⟨b, hb⟩ : ∃ b, b = readD d (fileN name no) := ⟨_, rfl⟩
  rw [← hb] at hret hnext
  have hbl : b.length ≤ 2 ^ 24 := hb ▸ readD_len hI _
  obtain ⟨s, hs⟩ : ∃ s, s = (readS no b).1 := ⟨_, rfl⟩
  obtain ⟨is, his⟩ : ∃ is, is = (readS no b).2 := ⟨_, rfl⟩
  rw [← hs, ← his] at hret hnext
  simp [loopOf, loopsIn, Tryz.f34, c1, ha, hx, ht]
  refine (c_file hK (by omega) (H := H) hno hname ht).cW ?_
  rintro _ H1 n1 ⟨rfl, e1, e2⟩
  have L1 := h.low (H' := H1) (N' := n1) (fun j hj => e2 j (by omega)) (by omega)
  have t1 := L1.top
  simp only at t1
  simp [t1]
  refine (lx_read hK (by omega) hI L1 (fileN name no)).cW ?_
  rintro _ H2 n2 ⟨L2, e3, e4, bv, rfl, e5⟩
  rw [← hb] at e5
  have y1 : lk H1 kl = lk H kl := e2 kl (by have := h.kl_lt; omega)
  have y2 : lk H2 kl = lk H1 kl := e4 kl (by have := h.kl_lt; omega)
  have bmv : bv.mv = true := by rcases e5.bytes with ⟨_, rfl⟩ | ⟨k, g, rfl, _⟩ <;> rfl
  have bsl : slLen bv = some b.length := by rcases e5.bytes with ⟨rfl, rfl⟩ | ⟨k, g, rfl, _⟩ <;> rfl
  have w1 : IntKind.i64.wrap ((nos.length : Int) - 1) = (nos.length : Int) - 1 := wrap_i64 (by omega) (by omega)
  obtain ⟨lb, hlb⟩ : ∃ lb, lb = (nos.drop (i + 1)).isEmpty := ⟨_, rfl⟩
  have hlast : ((i : Int) == (nos.length : Int) - 1) = lb := by
    rw [hlb, Bool.eq_iff_iff]
    simp
    omega
  rw [← hlb] at hret hnext
  simp [bmv]
  refine ⟨⟨by kernel_rfl, by simp [dynOk, pairsOk, befOf, Region.binds, Eff.apart, Eff.clear, Eff.wkeys, Ref.key, AV.refs0, List.range, List.range.loop, sameAt, y1, y2]⟩, ?_⟩
  refine (c_read hK (by omega) (H := H2) (b := b) (v := bv) hno hbl (by
    rcases e5.bytes with x | ⟨k, g, x1, x2, x3⟩
    · exact .inl x
    · exact .inr ⟨k, g, x1, x2, by omega⟩)).cW ?_
  rintro _ H3 n3 ⟨e6, e7, kg, rv, rfl, e8, e9⟩
  rw [← hs] at e9
  rw [← his]
  have L3 := L2.low (H' := H3) (N' := n3) (fun j hj => e7 j (by omega)) (by omega)
  have hrec := e9.recs
  obtain ⟨r1, r2, r3⟩ := hrec.sl
  have htop := e9.top
  simp [lenA_sl, w1, hlast]
  have q1 : ((s.size : Int) != (b.length : Int)) = decide (s.size ≠ b.length) := by
    rw [Bool.eq_iff_iff]; simp; omega
  have q2 : ((s.recs.length : Int) == 0) = decide (s.recs.length = 0) := by
    rw [Bool.eq_iff_iff]; simp
  obtain ⟨zb, hzb⟩ : ∃ zb, zb = decide (s.size ≠ b.length) := ⟨_, rfl⟩
  obtain ⟨eb, heb⟩ : ∃ eb, eb = decide (s.recs.length = 0) := ⟨_, rfl⟩
  rw [← hzb] at q1
  rw [← heb] at q2
  obtain ⟨X1, hX1⟩ : ∃ X1, X1 = (!lb && (!is || zb || eb)) := ⟨_, rfl⟩
  refine oW_cut (P := fun x => ∃ M', n3 ≤ M' ∧ x = (.normal, { env := [(0, .ptr kl 0 0), (5, .rs ka ga 0 nos.length 1), (10, .i .i64 (i : Nat)), (11, .i .u64 (no : Nat)), (12, bv), (14, .ptr kg 0 0), (15, .b is), (16, .b lb), (44, .rs ka ga 0 nos.length 1), (45, .i .i64 (nos.length : Nat)), (46, .i .i64 (i : Nat)), (95, .b X1)], loc := [], hp := H3, nx := M' })) (fun Q2 hQ2 => ?_) ?_
  · cases lb with
    | true =>
      simp
      refine hQ2 _ ⟨_, ?_, by rw [hX1]; rfl⟩
      omega
    | false =>
      cases is with
      | false =>
        simp
        refine hQ2 _ ⟨_, ?_, by rw [hX1]; rfl⟩
        omega
      | true =>
        cases zb with
        | true =>
          simp [htop, bmv, lenA_sl, bsl, q1]
          refine hQ2 _ ⟨_, ?_, by rw [hX1]; rfl⟩
          omega
        | false =>
          simp [htop, bmv, lenA_sl, bsl, q1, r1, r2, q2]
          refine hQ2 _ ⟨_, ?_, by rw [hX1]; rfl⟩
          omega
  rintro _ ⟨M1, m1, rfl⟩
  have FR : Frm U H M H3 M1 := ⟨by omega, fun j hj _ => by rw [e7 j (by omega), e4 j (by omega), e2 j (by omega)]⟩
  have out : ∀ M', M1 ≤ M' → Frm U H M H3 M' := fun M' hM' => ⟨by omega, FR.out⟩
  have badE : ∀ M', M1 ≤ M' → ∃ l sv ks rvs U', LX kl kd l d U' sv ks rvs H3 M' ∧ ∀ j, U' j → grw U M M' j := fun M' hM' => ⟨_, _, _, _, U, L3.low (fun _ _ => rfl) (by omega), fun j hj => .inl hj⟩
  have hbadE : badOf (!lb) segs no s is b.length = (X1 || (gapOf segs no || decide (no = 0) || (decide ((no + s.recs.length) % W64 < no) && decide ((no + s.recs.length) % W64 ≠ 0))) || (lb && eb && segs.isEmpty && decide (no ≠ 1))) := by
    unfold badOf
    rw [hX1, hzb, heb]
    simp
  rw [hbadE] at hret hnext
  cases hX1v : X1 with
  | true =>
    rw [hX1v] at hret
    simp only [Bool.true_or] at hret
    simp
    exact hret _ _ (out _ (by omega)) (badE _ (by omega)) trivial
  | false =>
  rw [hX1v] at hret hnext
  simp only [Bool.false_or] at hret hnext
  have t3 := L3.top
  simp only at t3
  simp
  obtain ⟨gb, hgb⟩ : ∃ gb, gb = gapOf segs no := ⟨_, rfl⟩
  obtain ⟨zo, hzo⟩ : ∃ zo, zo = decide (no = 0) := ⟨_, rfl⟩
  obtain ⟨no3, hno3⟩ : ∃ no3, no3 = (no + s.recs.length) % W64 := ⟨_, rfl⟩
  obtain ⟨ltb, hltb⟩ : ∃ ltb, ltb = decide (no3 < no) := ⟨_, rfl⟩
  obtain ⟨neb, hneb⟩ : ∃ neb, neb = decide (no3 ≠ 0) := ⟨_, rfl⟩
  rw [← hno3, ← hgb, ← hzo, ← hltb, ← hneb] at hret hnext
  have srl : s.recs.length ≤ 2 ^ 24 := by
    have := (readS_few no b).2
    rw [← hs] at this
    omega
  have w5 : IntKind.u64.wrap (s.recs.length : Int) = (s.recs.length : Nat) := wrap_u64' (by omega)
  have w6 : IntKind.u64.wrap ((no : Int) + (s.recs.length : Nat)) = (no3 : Nat) := by rw [wrap_u64Z, hno3, W64]; omega
  have q3 : ((no : Int) == 0) = zo := by rw [hzo, Bool.eq_iff_iff]; simp
  have q4 : ((no3 : Int) != 0) = neb := by rw [hneb, Bool.eq_iff_iff]; simp
  have wi : IntKind.i64.wrap ((i : Int) - 1) = ((i - 1 : Nat) : Int) ∨ i = 0 := by
    by_cases hi0 : i = 0
    · exact .inr hi0
    · left; rw [wrap_i64 (by omega) (by omega)]; omega
  obtain ⟨X2, hX2⟩ : ∃ X2, X2 = (gb || zo || (ltb && neb)) := ⟨_, rfl⟩
  refine oW_cut (P := fun x => ∃ M', M1 ≤ M' ∧ x = (.normal, { env := [(0, .ptr kl 0 0), (5, .rs ka ga 0 nos.length 1), (10, .i .i64 (i : Nat)), (11, .i .u64 (no : Nat)), (12, bv), (14, .ptr kg 0 0), (15, .b is), (16, .b lb), (44, .rs ka ga 0 nos.length 1), (45, .i .i64 (nos.length : Nat)), (46, .i .i64 (i : Nat)), (138, .b X2)], loc := [], hp := H3, nx := M' })) (fun Q2 hQ2 => ?_) ?_
  · by_cases hi0 : 0 < i
    · obtain ⟨i1, hi1⟩ : ∃ i1, i1 = i - 1 := ⟨_, rfl⟩
      have wi1 : IntKind.i64.wrap ((i : Int) - 1) = (i1 : Nat) := by rw [wrap_i64 (by omega) (by omega)]; omega
      obtain ⟨p, hp⟩ : ∃ p, segs[i1]? = some p := ⟨_, List.getElem?_eq_getElem (by omega)⟩
      obtain ⟨k, a, g, j0, all, p1, rfl, p2, p3, p4, p5, p6, p7, p8, p9⟩ := L3.at (s := p) (i := i1) hp
      simp only at p3 p4 p6 t3
      have hgl : segs.getLast? = some p := by rw [List.getLast?_eq_getElem?, hsl, ← hi1]; exact hp
      have hpm := hsm p (List.mem_of_getElem? hp)
      obtain ⟨pt, hpt⟩ : ∃ pt, pt = (p.till + 1) % W64 := ⟨_, rfl⟩
      have w7 : IntKind.u64.wrap ((p.till : Int) + 1) = (pt : Nat) := by rw [wrap_u64Z, hpt, W64]; omega
      have q5 : ((no : Int) != (pt : Int)) = gb := by
        rw [hgb, gapOf, hgl]
        simp only
        rw [← hpt, Bool.eq_iff_iff]
        simp
        omega
      obtain ⟨y3, y4, y5⟩ := p9.sl
      have c2 : (i1 : Int) < segs.length := by omega
      simp [hi0, t3, wi1, c2, p2, p3]
      refine (c_end (s := p) (by omega) p7 y3 y4 hpm.1 (by omega)).cW ?_
      rintro _ _ n5 ⟨rfl, rfl, e10⟩
      cases gb with
      | true =>
        simp [w7, q5]
        refine hQ2 _ ⟨_, ?_, by rw [hX2]; rfl⟩
        omega
      | false =>
        cases zo with
        | true =>
          simp [w7, q5, q3]
          refine hQ2 _ ⟨_, ?_, by rw [hX2]; rfl⟩
          omega
        | false =>
          cases ltb with
          | false =>
            simp [w7, q5, q3, htop, lenA_sl, r1, r2, w5, w6, ← hltb]
            refine hQ2 _ ⟨_, ?_, by rw [hX2]; rfl⟩
            omega
          | true =>
            simp [w7, q5, q3, htop, lenA_sl, r1, r2, w5, w6, ← hltb, q4]
            refine hQ2 _ ⟨_, ?_, by rw [hX2]; rfl⟩
            omega
    · have hgl : gb = false := by
        have : segs = [] := List.length_eq_zero_iff.1 (by omega)
        rw [hgb, this]
        rfl
      subst hgl
      cases zo with
      | true =>
        simp [hi0, q3]
        refine hQ2 _ ⟨_, ?_, by rw [hX2]; rfl⟩
        omega
      | false =>
        cases ltb with
        | false =>
          simp [hi0, q3, htop, lenA_sl, r1, r2, w5, w6, ← hltb]
          refine hQ2 _ ⟨_, ?_, by rw [hX2]; rfl⟩
          omega
        | true =>
          simp [hi0, q3, htop, lenA_sl, r1, r2, w5, w6, ← hltb, q4]
          refine hQ2 _ ⟨_, ?_, by rw [hX2]; rfl⟩
          omega
  rintro _ ⟨M2, m2, rfl⟩
  rw [← hX2] at hret hnext
  cases hX2v : X2 with
  | true =>
    rw [hX2v] at hret
    simp only [Bool.true_or] at hret
    simp
    exact hret _ _ (out _ (by omega)) (badE _ (by omega)) trivial
  | false =>
  rw [hX2v] at hret hnext
  simp only [Bool.false_or] at hret hnext
  obtain ⟨ne1, hne1⟩ : ∃ ne1, ne1 = decide (no ≠ 1) := ⟨_, rfl⟩
  obtain ⟨se, hse⟩ : ∃ se, se = segs.isEmpty := ⟨_, rfl⟩
  rw [← hne1, ← hse] at hret hnext
  have q6 : ((i : Int) == 0) = se := by
    rw [hse, Bool.eq_iff_iff]
    simp
    rw [← List.length_eq_zero_iff]
    omega
  have q7 : ((no : Int) != 1) = ne1 := by rw [hne1, Bool.eq_iff_iff]; simp; omega
  obtain ⟨X3, hX3⟩ : ∃ X3, X3 = (lb && eb && se && ne1) := ⟨_, rfl⟩
  simp
  refine oW_cut (P := fun x => ∃ M', M2 ≤ M' ∧ x = (.normal, { env := [(0, .ptr kl 0 0), (5, .rs ka ga 0 nos.length 1), (12, bv), (14, .ptr kg 0 0), (15, .b is), (44, .rs ka ga 0 nos.length 1), (45, .i .i64 (nos.length : Nat)), (46, .i .i64 (i : Nat)), (155, .b X3)], loc := [], hp := H3, nx := M' })) (fun Q2 hQ2 => ?_) ?_
  · cases lb with
    | false =>
      simp
      refine hQ2 _ ⟨_, ?_, by rw [hX3]; rfl⟩
      omega
    | true =>
      cases eb with
      | false =>
        simp [htop, lenA_sl, r1, r2, q2]
        refine hQ2 _ ⟨_, ?_, by rw [hX3]; rfl⟩
        omega
      | true =>
        cases se with
        | false =>
          simp [htop, lenA_sl, r1, r2, q2, q6]
          refine hQ2 _ ⟨_, ?_, by rw [hX3]; rfl⟩
          omega
        | true =>
          simp [htop, lenA_sl, r1, r2, q2, q6, q7]
          refine hQ2 _ ⟨_, ?_, by rw [hX3]; rfl⟩
          omega
  rintro _ ⟨M3, m3, rfl⟩
  rw [← hX3] at hret hnext
  cases hX3v : X3 with
  | true =>
    rw [hX3v] at hret
    simp
    exact hret _ _ (out _ (by omega)) (badE _ (by omega)) rfl
  | false =>
  rw [hX3v] at hnext
  have c3 : IntKind.i64.wrap ((i : Int) + 1) = ((i + 1 : Nat) : Int) := by rw [wrap_i64 (by omega) (by omega)]; omega
  have hklt := h.kl_lt
  have hUM := h.lt
  rw [← hzb] at hnext
  have s10 : (0 : Nat) < 1 := by omega
  rcases L3.form with ⟨f1, z, rfl⟩ | ⟨a, g, j0, all, rfl, f2, f3, f4, f5, f6⟩
  · simp only at f1
    have g1 : ∀ c, ¬ kl = M3 + c := fun c => by omega
    have g2 : ∀ c, ¬ M3 + c = kl := fun c => by omega
    simp [htop, lenA_sl, bsl, bmv, q1, t3]
    refine ⟨⟨by kernel_rfl, dyn_quiet (by simp [quietE])⟩, ?_⟩
    simp [t3, lk_set, g1, g2, Nat.add_assoc, mostB, c3]
    have LM := L3.low (H' := H3) (N' := M3) (fun _ _ => rfl) (by omega)
    refine hnext _ _ _ _ _ _ ⟨by omega, fun j hj hn => ?_⟩ (LM.push (l' := ⟨name, size, segs ++ [s], 0, 0⟩) (sv' := .rs (M3 + 18) 0 0 1 1) (N' := M3 + 24) e9 (fun j hj => ⟨fun e => by have := hUM j e; omega, by omega⟩) rfl (by omega) (by simp [lk_set]) (.inl ⟨⟨z, rfl⟩, M3 + 18, rfl, by simp [lk_set, g2], by omega, by omega⟩) (fun j hj hjk _ => ?_)) (fun j hj => ?_) (fun e => ?_) rfl
    · have u1 : ¬ j = kl := fun e => hn (e ▸ h.klU)
      have u2 : ∀ c, ¬ j = M3 + c := fun c => by omega
      simp [lk_set, u1, u2]
      exact (out M3 (by omega)).out j hj hn
    · have u2 : ∀ c, ¬ j = M3 + c := fun c => by omega
      simp [lk_set, hjk, u2]
    · rcases hj with hj | hj | hj
      · exact .inl hj
      · exact .inr ⟨by omega, by omega⟩
      · exact .inr ⟨by omega, by omega⟩
    · rcases e with e | e | e
      · exact hu e
      · omega
      · omega
  · simp only at f2 f3
    simp [htop, lenA_sl, bsl, bmv, q1, t3]
    refine ⟨⟨by kernel_rfl, dyn_quiet (by simp [quietE])⟩, ?_⟩
    have fa := hUM a f4
    have g1 : ∀ c, ¬ kl = M3 + c := fun c => by omega
    have g2 : ∀ c, ¬ M3 + c = kl := fun c => by omega
    have g3 : ∀ c, ¬ a = M3 + c := fun c => by omega
    have g4 : ∀ c, ¬ M3 + c = a := fun c => by omega
    have d0 : (segs.length + 1) * 9 ≤ 68719476736 := by omega
    have f5' : ¬ kl = a := fun e => f5 e.symm
    simp [t3, f2, f3, f5, f5', lk_set, g1, g2, g3, g4, Nat.add_assoc, mostB, c3, d0]
    have LM := L3.low (H' := H3) (N' := M3) (fun _ _ => rfl) (by omega)
    refine hnext _ _ _ _ _ _ ⟨by omega, fun j hj hn => ?_⟩ (LM.push (l' := ⟨name, size, segs ++ [s], 0, 0⟩) (sv' := .rs a (g + 1) 0 (segs.length + 1) 1) (N' := M3 + 24) e9 (fun j hj => ⟨fun e => by have := hUM j e; omega, by omega⟩) rfl (by omega) (by simp [lk_set]) (.inr ⟨a, g, j0, all, rfl, f2, rfl, by simp [lk_set, f5, shown_cut f3]⟩) (fun j hj hjk hja => ?_)) (fun j hj => ?_) (fun e => ?_) rfl
    · have u1 : ¬ j = kl := fun e => hn (e ▸ h.klU)
      have u3 : ¬ j = a := fun e => hn (e ▸ f4)
      have u2 : ∀ c, ¬ j = M3 + c := fun c => by omega
      simp [lk_set, u1, u2, u3]
      exact (out M3 (by omega)).out j hj hn
    · have u2 : ∀ c, ¬ j = M3 + c := fun c => by omega
      have u3 : ¬ j = a := fun e => hja g j0 segs.length (by rw [e])
      simp [lk_set, hjk, u2, u3]
    · rcases hj with hj | hj | hj
      · exact .inl hj
      · exact .inr ⟨by omega, by omega⟩
      · exact .inr ⟨by omega, by omega⟩
    · rcases e with e | e | e
      · exact hu e
      · omega
      · omega

theorem c_look (hK : big K) (hn : 9 ≤ n) (hI : d.Inv m) (hname : name.length ≤ 40) (h : LX kl kd ⟨name, size, [], 0, 0⟩ d U (.vs true 0 []) [] rvs H N) :
    Sp K n 34 [.ptr kl 0 0] H N fun r H' N' => Frm U H N H' N' ∧ match lookL d name (nosOf name d.now) [] false false with
      | none => r = .tup [.b false, .b false, .b false] ∧ ∃ l sv ks rvs, LX kl kd l d (grw U N N') sv ks rvs H' N'
      | some (segs, hd, lg) => r = .tup [.b hd, .b lg, .b true] ∧ ∃ sv ks rvs, LX kl kd ⟨name, size, segs, 0, 0⟩ d (grw U N N') sv ks rvs H' N' := by
  refine sp_cps fun Q hQ => ?_
  obtain ⟨n, rfl⟩ : ∃ m, n = m + 1 := ⟨n - 1, by omega⟩
  refine sp_of rfl (run_wp Tryz.func34 rfl (by simp [Tryz.f34]) ?_)
  have ht := h.top
  simp only at ht
  have hw := hI.way _ (nowW_mem hI.ne)
  have hfew : d.now.length ≤ 64 := hw.1
  simp [ht]
  refine (lx_list (by omega) hI (h.low (fun _ _ => rfl) (by omega))).cW ?_
  rintro rl H1 n1 ⟨e1, e2, e3⟩
  have hll : slLen rl = some d.now.length := by rcases e3 with ⟨x1, rfl⟩ | ⟨k, g, rfl, _⟩ <;> simp [nameRows] at * <;> simp_all
  have hmv : rl.mv = true := by rcases e3 with ⟨x1, rfl⟩ | ⟨k, g, rfl, _⟩ <;> rfl
  simp [lenA_sl, hll, hmv]
  refine loop_wp (ι := Nat × AV × Hp × Nat) (fun i => { env := [(0, .ptr kl 0 0), (2, .b false), (3, .b false), (5, i.2.1), (21, rl), (22, .i .i64 (d.now.length : Nat)), (23, .i .i64 (i.1 : Nat))], loc := [], hp := i.2.2.1, nx := i.2.2.2 }) (fun i => d.now.length - i.1)
    (fun i => i.1 ≤ d.now.length ∧ NumV i.2.2.1 i.2.1 (nosOf name (d.now.take i.1)) (fun j => n1 ≤ j ∧ j < i.2.2.2) ∧ (∀ j, j < n1 → lk i.2.2.1 j = lk H1 j) ∧ n1 ≤ i.2.2.2) (0, .vs true 0 [], H1, n1) rfl ⟨Nat.zero_le _, .inl ⟨rfl, rfl⟩, fun _ _ => rfl, Nat.le_refl _⟩ (by simp; unfold big at hK; omega) ?_
  rintro Next ⟨i, av, H2, M⟩ ⟨hi, hv, lw, hM⟩ hnext
  simp only at hi hv lw hM hnext ⊢
  by_cases hlt : i < d.now.length
  · rcases e3 with ⟨x1, x2⟩ | ⟨kr, gr, rfl, x2, x3⟩
    · have := congrArg List.length x1
      simp [nameRows] at this
      rw [this] at hlt
      cases hlt
    have c1 : (i : Int) < d.now.length := by omega
    have c3 : IntKind.i64.wrap ((i : Int) + 1) = ((i + 1 : Nat) : Int) := by rw [wrap_i64 (by omega) (by omega)]; omega
    have hx : d.now[i]? = some d.now[i] := List.getElem?_eq_getElem hlt
    have hx2 : (nameRows d.now)[i]? = some [.s (ba d.now[i].1)] := by simp [nameRows, hx]
    have hrl : (nameRows d.now).length = d.now.length := by simp [nameRows]
    have z1 : lk H2 kr = some (gr, .arr 1 (nameRows d.now)) := (lw kr x3.2).trans x2
    have z2 : lk H2 kl = lk H kl := by rw [lw kl (by have := h.kl_lt; omega)]; exact e2 kl (by have := h.kl_lt; omega)
    rw [ht] at z2
    have hnm := (hw.2.2 _ (List.getElem_mem hlt)).2
    have hnl : d.now[i].1.length ≤ 2 ^ 40 := by
      simp [nameOk] at hnm
      omega
    have hc := c_numbered (K := K) (n := n) hK (by omega) name d.now[i].1 hname hnl
    have hnos : nosOf name (d.now.take (i + 1)) = nosOf name (d.now.take i) ++ (numberedN name d.now[i].1).toList := by
      rw [List.take_succ_eq_append_getElem hlt]
      unfold nosOf
      rw [List.filterMap_append, List.filterMap_cons]
      cases numberedN name d.now[i].1 <;> rfl
    have nl := nos_len name (d.now.take i)
    rw [List.length_take] at nl
    have key : ∀ (av' : AV) (H4 : Hp) (M' : Nat), NumV H4 av' (nosOf name (d.now.take (i + 1))) (fun j => n1 ≤ j ∧ j < M') → (∀ j, j < n1 → lk H4 j = lk H1 j) → M ≤ M' →
        Next { env := [(0, .ptr kl 0 0), (2, .b false), (3, .b false), (5, av'), (21, .rs kr gr 0 (nameRows d.now).length 1), (22, .i .i64 (d.now.length : Nat)), (23, .i .i64 ((i : Int) + 1))], loc := [], hp := H4, nx := M' } := fun av' H4 M' k1 k2 k3 =>
      hnext (i + 1, av', H4, M') (by simp only; omega) ⟨hlt, k1, k2, by simp only; omega⟩
    simp only [hrl] at key ⊢
    simp [c1, z1, hx2, hrl, z2, hc]
    cases hnb : numberedN name d.now[i].1 with
    | none =>
      rw [hnb] at hnos
      simp [numR, c3]
      refine key _ _ _ ?_ lw (by omega)
      rw [hnos]
      simp
      rcases hv with hv | ⟨k, g, v0, v1, v2, v3⟩
      · exact .inl hv
      · exact .inr ⟨k, g, v0, v1, v2, v3.1, by omega⟩
    | some no =>
      rw [hnb] at hnos
      simp [numR]
      rcases hv with ⟨v1, rfl⟩ | ⟨k, g, v0, rfl, v2, v3⟩
      · simp [lk_set, mostB, c3]
        refine key (.rs (M + 1 + 3 + 11 + 1 + 3) 0 0 1 1) _ _ (.inr ⟨M + 1 + 3 + 11 + 1 + 3, 0, by rw [hnos]; simp, by rw [hnos, v1]; rfl, by rw [hnos, v1]; simp [lk_set, numRows], by omega, by omega⟩) (fun j hj => ?_) (by omega)
        have t1 : ¬ j = M + 1 + 3 + 11 + 1 + 2 := by omega
        have t2 : ¬ j = M + 1 + 3 + 11 + 1 + 3 := by omega
        simp [lk_set, t1, t2, lw j hj]
      · have fk : ∀ c, ¬ k = M + c := fun c => by omega
        have fk' : ∀ c, ¬ M + c = k := fun c => by omega
        have s0 : shown (numRows (nosOf name (d.now.take i))) 0 (nosOf name (d.now.take i)).length = numRows (nosOf name (d.now.take i)) := shown_all (by simp)
        have d0 : ((nosOf name (d.now.take i)).length + 1) * 9 ≤ 68719476736 := by omega
        simp [lk_set, mostB, c3, v2, fk, fk', Nat.add_assoc, s0, d0]
        refine key (.rs k (g + 1) 0 ((nosOf name (d.now.take i)).length + 1) 1) _ _ (.inr ⟨k, g + 1, by rw [hnos]; simp, by rw [hnos]; simp, by rw [hnos]; simp [lk_set, numRows], by omega, by omega⟩) (fun j hj => ?_) (by omega)
        have t1 : ¬ j = k := by omega
        have t2 : ∀ c, ¬ j = M + c := fun c => by omega
        simp [lk_set, t1, t2, lw j hj]
  · obtain rfl : i = d.now.length := by omega
    rw [List.take_length] at hv
    have low : ∀ j, j < N → lk H2 j = lk H j := fun j hj => by rw [lw j (by omega)]; exact e2 j (by omega)
    have nl := nos_len name d.now
    rcases hv with ⟨v1, rfl⟩ | ⟨ka, ga, v0, rfl, v2, v3⟩
    · simp
      refine (c_sort0 hK (by omega)).cW ?_
      rintro _ _ n3 ⟨rfl, e5, rfl⟩
      simp [lenA_sl]
      rw [v1, lookL] at hQ
      simp only at hQ
      refine loop_wp (ι := Unit) (fun _ => { env := [(0, .ptr kl 0 0), (2, .b false), (3, .b false), (5, .vs true 0 []), (44, .vs true 0 []), (45, .i .i64 0), (46, .i .i64 0)], loc := [], hp := H2, nx := n3 + 3 }) (fun _ => 0) (fun _ => True) () rfl trivial (by unfold big at hK; omega) ?_
      rintro Next _ _ _
      simp
      exact hQ _ _ _ ⟨⟨by omega, fun j hj _ => low j hj⟩, rfl, _, _, _, (h.low low (by omega)).widen (fun _ => .inl) (grw_lt h.lt (by omega))⟩
    · simp
      refine (c_sort hK (by omega) (N := M + 1 + 2) ⟨v2, nos_rise hw.2.1, by omega⟩ (by omega)).cW ?_
      rintro _ H3 n3 ⟨rfl, e5, e6⟩
      simp [lenA_sl]
      obtain ⟨nos, hnos⟩ : ∃ nos, nos = nosOf name d.now := ⟨_, rfl⟩
      have hnl : ∀ no ∈ nos, no < W64 := hnos ▸ nos_lt
      rw [← hnos] at v0 v2 nl hQ ⊢
      have hka3 : lk H3 ka = some (ga, .arr 1 (numRows nos)) := (e6 ka (by omega)).trans v2
      have LL : LX kl kd ⟨name, size, [], 0, 0⟩ d U (.vs true 0 []) [] rvs H3 (n3 + 3) := h.low (fun j hj => by rw [e6 j (by omega)]; exact low j hj) (by omega)
      refine loop_wp (ι := Nat × List Sg × Bool × Bool × Hp × Nat) (fun i => { env := [(0, .ptr kl 0 0), (2, .b i.2.2.1), (3, .b i.2.2.2.1), (5, .rs ka ga 0 nos.length 1), (44, .rs ka ga 0 nos.length 1), (45, .i .i64 (nos.length : Nat)), (46, .i .i64 (i.1 : Nat))], loc := [], hp := i.2.2.2.2.1, nx := i.2.2.2.2.2 }) (fun i => nos.length - i.1)
        (fun i => i.1 ≤ nos.length ∧ i.2.1.length = i.1 ∧ (∀ s ∈ i.2.1, s.no < W64 ∧ s.recs.length ≤ 2 ^ 24) ∧ lk i.2.2.2.2.1 ka = some (ga, .arr 1 (numRows nos)) ∧ (∃ sv ks rvs U', LX kl kd ⟨name, size, i.2.1, 0, 0⟩ d U' sv ks rvs i.2.2.2.2.1 i.2.2.2.2.2 ∧ (∀ j, U' j → grw U N i.2.2.2.2.2 j) ∧ ¬ U' ka) ∧ Frm U H N i.2.2.2.2.1 i.2.2.2.2.2 ∧ n3 + 3 ≤ i.2.2.2.2.2 ∧ lookL d name nos [] false false = lookL d name (nos.drop i.1) i.2.1 i.2.2.1 i.2.2.2.1)
        (0, [], false, false, H3, n3 + 3) rfl ⟨Nat.zero_le _, rfl, (fun s hs => by cases hs), hka3, ⟨_, _, _, U, LL, fun _ => .inl, fun e => by have := h.lt ka e; omega⟩, ⟨by simp only; omega, fun j hj _ => by rw [e6 j (by omega)]; exact low j hj⟩, Nat.le_refl _, rfl⟩ (by simp; unfold big at hK; omega) ?_
      rintro Next ⟨i, segs, h0, g0, H4, M4⟩ ⟨hi, hsl, hsm, hka4, ⟨sv, ks, rvs4, U4, L4, hU4, hua⟩, F4, hM4, hlk⟩ hnext
      simp only at hi hsl hsm hka4 L4 hU4 F4 hM4 hlk hnext ⊢
      by_cases hlt : i < nos.length
      · have hdr : nos.drop i = nos[i] :: nos.drop (i + 1) := List.drop_eq_getElem_cons hlt
        rw [hdr, lookL] at hlk
        refine look_round hK (by omega) hI hname L4 hka4 hua (by omega) hlt (by omega) (hnl _ (List.getElem_mem hlt)) hsl hsm (fun H' M' f1 f2 f3 => ?_) (fun sv' ks' rvs' U' H' M' f1 f2 f3 f4 f5 => ?_)
        · rw [if_pos f3] at hlk
          rw [hlk] at hQ
          simp
          obtain ⟨l', sv', ks', rvs', U', f4, f5⟩ := f2
          exact hQ _ _ _ ⟨F4.weak hU4 f1, rfl, l', sv', ks', rvs', f4.widen (fun j hj => grw_sub hU4 (by omega) f1.le (f5 j hj)) (grw_lt h.lt (by have := f1.le; omega))⟩
        · rw [if_neg (by rw [f5]; simp)] at hlk
          refine hnext (i + 1, segs ++ [_], _, _, H', M') (by simp only; omega) ⟨hlt, by simp [hsl], (fun s hs => ?_), ?_, ⟨_, _, _, U', f2, fun j hj => grw_sub hU4 (by omega) f1.le (f3 j hj), f4⟩, F4.weak hU4 f1, by have := f1.le; simp only; omega, hlk⟩
          · rw [List.mem_append, List.mem_singleton] at hs
            rcases hs with hs | rfl
            · exact hsm s hs
            · have r := readS_few nos[i] (readD d (fileN name nos[i]))
              have := readD_len hI (fileN name nos[i])
              exact ⟨by rw [r.1]; exact hnl _ (List.getElem_mem hlt), by omega⟩
          · exact (f1.out ka (by omega) hua).trans hka4
      · obtain rfl : i = nos.length := by omega
        rw [List.drop_length, lookL] at hlk
        rw [hlk] at hQ
        simp
        exact hQ _ _ _ ⟨⟨by have := F4.le; omega, F4.out⟩, rfl, _, _, _, (L4.low (fun _ _ => rfl) (by omega)).widen (fun j hj => (hU4 j hj).imp id fun e => ⟨e.1, by omega⟩) (grw_lt h.lt (by omega))⟩

end Ab
end Go.Proofs.YtmbbnoipoifhhaaGreatDoor

/-
  DERIVED. Records of a log read.
  Conditions: enough rounds, enough depth; bounded lengths.
-/
import Derived.Test.YtmbbnoipoifhhaaGreatDoorVD
set_option linter.all false
set_option maxHeartbeats 4000000
namespace Go.Proofs.YtmbbnoipoifhhaaGreatDoor
namespace Ab
set_option maxRecDepth 100000
set_option maxHeartbeats 8000000
set_option linter.all false
attribute [local simp] wp_regW opsW_nil opsW_cons opsK_eq regK_no regK_draw oW_n oW_h oW_r oW_pn convA appendA appRow newsA rowsSz rowsOf isIntD makeSliceA elemOf rowsBuilt eqA eq1
attribute [-simp] fCall
variable {kl kd : Nat} {d : Dk} {U S T : Nat → Prop} {sv : AV} {ks : List Nat} {rvs : Nat → AV} {H H' : Hp} {N N' K n m : Nat} {l : Lg} {name : Bs}

/-- Records that were read, as they lie. -/
def LoggedR (hp : Hp) (T : Nat → Prop) (rows : List (List AV)) (rs : List (Nat × Bs)) : Prop := rows.length = rs.length ∧ ∀ (i : Nat) (r : List AV) (e : Nat × Bs), rows[i]? = some r → rs[i]? = some e → ∃ v, r = [.i .u64 (e.1 : Nat), v] ∧ SX 1 hp T v (byteRows e.2)
def LoggedV (hp : Hp) (T : Nat → Prop) (rv : AV) (rs : List (Nat × Bs)) : Prop := (rs = [] ∧ rv = .vs true 0 []) ∨ ∃ (a g : Nat) (rows : List (List AV)), rs ≠ [] ∧ rv = .rs a g 0 rs.length 2 ∧ lk hp a = some (g, .arr 2 rows) ∧ T a ∧ LoggedR hp T rows rs
theorem LoggedR.kind {hp : Hp} {T : Nat → Prop} {rows : List (List AV)} {rs : List (Nat × Bs)} (h : LoggedR hp T rows rs) (h0 : rs ≠ []) : aoK (.arr 2 rows) = 4 := by
  cases rows with
  | nil => exact absurd (List.length_eq_zero_iff.1 h.1.symm) h0
  | cons r rows =>
    cases rs with
    | nil => exact absurd rfl h0
    | cons e rs =>
      obtain ⟨v, e1, _⟩ := h.2 0 r e rfl rfl
      rw [e1]
      cases v <;> rfl
theorem LoggedV.sl {hp : Hp} {T : Nat → Prop} {rv : AV} {rs : List (Nat × Bs)} (h : LoggedV hp T rv rs) : slLen rv = some rs.length ∧ rv.mv = true := by
  rcases h with ⟨rfl, rfl⟩ | ⟨a, g, rows, _, rfl, _⟩ <;> exact ⟨rfl, rfl⟩
theorem LoggedV.mono {hp hp' : Hp} {T T' : Nat → Prop} {rv : AV} {rs : List (Nat × Bs)} (h : LoggedV hp T rv rs) (hf : ∀ j, T j → lk hp' j = lk hp j) (hT : ∀ j, T j → T' j) : LoggedV hp' T' rv rs := by
  rcases h with h | ⟨a, g, rows, h0, h1, h2, h3, h4, h5⟩
  · exact .inl h
  · refine .inr ⟨a, g, rows, h0, h1, (hf a h3).trans h2, hT a h3, h4, fun i r e hr he => ?_⟩
    obtain ⟨v, e1, e2⟩ := h5 i r e hr he
    exact ⟨v, e1, e2.mono hf hT⟩
/-- One more. -/
theorem LoggedV.push {hp hp' : Hp} {T T' : Nat → Prop} {rv rv' v : AV} {rs : List (Nat × Bs)} {e : Nat × Bs} (h : LoggedV hp T rv rs) (hT : ∀ j, T j → T' j) (hf : ∀ j x, T j → lk hp j = some x → aoK x.2 ≤ 1 → lk hp' j = lk hp j) (hv : SX 1 hp' T' v (byteRows e.2))
    (hr : (rs = [] ∧ ∃ a, rv' = .rs a 0 0 1 2 ∧ lk hp' a = some (0, .arr 2 [[.i .u64 (e.1 : Nat), v]]) ∧ T' a) ∨ ∃ (a g : Nat) (rows : List (List AV)), rv = .rs a g 0 rs.length 2 ∧ lk hp a = some (g, .arr 2 rows) ∧ rv' = .rs a (g + 1) 0 (rs.length + 1) 2 ∧ lk hp' a = some (g + 1, .arr 2 (rows ++ [[.i .u64 (e.1 : Nat), v]]))) : LoggedV hp' T' rv' (rs ++ [e]) := by
  rcases hr with ⟨h1, a, h2, h3, h4⟩ | ⟨a, g, rows, h1, h2, h3, h4⟩
  · subst h1
    refine .inr ⟨a, 0, _, by simp, by simpa using h2, h3, h4, by simp, fun i r e' hw he => ?_⟩
    cases i with
    | zero =>
      simp at hw he
      subst hw he
      exact ⟨v, rfl, hv⟩
    | succ i => simp at hw
  · rcases h with ⟨e1, e2⟩ | ⟨a', g', rows', e0, e1, e2, e3, e4, e5⟩
    · rw [h1] at e2; cases e2
    · rw [h1] at e1
      injection e1 with e11 e12
      subst e11 e12
      rw [h2] at e2
      simp only [Option.some.injEq, Prod.mk.injEq, AO.arr.injEq, true_and] at e2
      subst e2
      refine .inr ⟨a, g + 1, _, by simp, by simpa using h3, h4, hT _ e3, by simp [e4], fun i r e' hw he => ?_⟩
      by_cases hi : i < rows.length
      · rw [List.getElem?_append_left hi] at hw
        rw [List.getElem?_append_left (by omega)] at he
        obtain ⟨w, f1, f2⟩ := e5 i r e' hw he
        refine ⟨w, f1, ?_⟩
        rcases f2 with e6 | ⟨k, g2, e6, e7, e8⟩
        · exact .inl e6
        · exact .inr ⟨k, g2, e6, (hf k _ e8 e7 (by rcases aoK_bytes e'.2 with e | e <;> simp [e])).trans e7, hT k e8⟩
      · have h5 := (List.getElem?_eq_some_iff.1 hw).1
        simp at h5
        obtain rfl : i = rows.length := by omega
        rw [List.getElem?_append_right (Nat.le_refl _), Nat.sub_self] at hw
        rw [List.getElem?_append_right (by omega), e4, Nat.sub_self] at he
        simp at hw he
        subst hw he
        exact ⟨v, rfl, hv⟩

def rdStep (from_ : Nat) (most : Int) (acc : List (Nat × Bs)) (e : Nat × Bs) : List (Nat × Bs) := if from_ ≤ e.1 ∧ (acc.length : Int) < most then acc ++ [e] else acc
theorem rd_fold (from_ most : Nat) : ∀ (l acc : List (Nat × Bs)), l.foldl (rdStep from_ most) acc = acc ++ (l.filter fun e => decide (from_ ≤ e.1)).take (most - acc.length)
  | [], acc => by simp
  | e :: l, acc => by
    rw [List.foldl_cons, rd_fold from_ most l, rdStep]
    by_cases h1 : from_ ≤ e.1
    · rw [List.filter_cons_of_pos (by simpa using h1)]
      by_cases h2 : acc.length < most
      · rw [if_pos ⟨h1, by omega⟩, show most - acc.length = (most - (acc ++ [e]).length) + 1 by simp; omega, List.take_succ_cons]
        simp
      · rw [if_neg (by omega), show most - acc.length = 0 by omega]
        simp
    · rw [if_neg (fun h => h1 h.1), List.filter_cons_of_neg (by simpa using h1)]
theorem rd_len (from_ : Nat) (most : Int) : ∀ (l acc : List (Nat × Bs)), (l.foldl (rdStep from_ most) acc).length ≤ acc.length + l.length
  | [], acc => by simp
  | e :: l, acc => by
    rw [List.foldl_cons]
    have := rd_len from_ most l (rdStep from_ most acc e)
    have h2 : (rdStep from_ most acc e).length ≤ acc.length + 1 := by
      unfold rdStep
      split <;> simp
    rw [List.length_cons]
    omega
theorem number_get : ∀ (r : List Bs) (no j : Nat) (b : Bs), r[j]? = some b → (numberRecs no r)[j]? = some ((no + j) % W64, b)
  | [], no, j, b, h => by simp at h
  | x :: r, no, 0, b, h => by simp at h; subst h; rfl
  | x :: r, no, j + 1, b, h => by
    rw [numberRecs, List.getElem?_cons_succ, number_get r (no + 1) j b (by simpa using h), show no + 1 + j = no + (j + 1) by omega]
theorem number_len : ∀ (r : List Bs) (no : Nat), (numberRecs no r).length = r.length
  | [], _ => rfl
  | x :: r, no => by simp [numberRecs, number_len r]

theorem c_lread (hK : big K) (hn : 4 ≤ n) (hB : LB l) (hall : l.all.length ≤ 2 ^ 29) (h : LX kl kd l d U sv ks rvs H N) {from_ : Nat} {most : Int} (hf : from_ < W64) :
    Sp K n 32 [.ptr kl 0 0, .i .u64 (from_ : Nat), .i .i64 most] H N fun r H' N' => N ≤ N' ∧ (∀ j, j < N → lk H' j = lk H j) ∧ ∃ rv, r = .tup [rv, .i .i64 (l.read from_ most).1] ∧ LoggedV H' (fun j => N ≤ j ∧ j < N') rv (l.read from_ most).2 := by
  refine sp_cps fun Q hQ => ?_
  obtain ⟨n, rfl⟩ : ∃ m, n = m + 1 := ⟨n - 1, by omega⟩
  refine sp_of rfl (run_wp Tryz.func32 rfl (by simp [Tryz.f32]) ?_)
  have ht := h.top
  have hsl := h.slen
  have hsm := h.smv
  have hl := hB.last
  have hf1 : l.first < W64 := by
    unfold Lg.first
    split
    · exact Nat.mod_lt _ (by unfold W64; omega)
    · rename_i s r hs; exact (hB.seg s (by rw [hs]; simp)).1
  simp
  refine (c_first (n := n) (by omega) hB (h.low (H' := H) (N' := N + 2 + 25) (fun _ _ => rfl) (by omega))).cW ?_
  rintro _ H0 n1 ⟨rfl, hH0, e1⟩
  have hH0' := hH0.symm
  subst hH0'
  simp
  obtain ⟨X, hX⟩ : ∃ X : Bool, X = decide (from_ < l.first ∨ (l.last < from_ ∧ 1 < from_ - l.last) ∨ most < 0) := ⟨_, rfl⟩
  refine oW_cut (P := fun x => ∃ M', N ≤ M' ∧ x = (.normal, { env := [(0, .ptr kl 0 0), (1, .i .u64 (from_ : Nat)), (2, .i .i64 most), (38, .b X)], loc := [], hp := H, nx := M' })) (fun Q2 hQ2 => ?_) ?_
  · by_cases c1 : from_ < l.first
    · have hXt : X = true := by rw [hX]; simp [c1]
      simp [c1]
      exact hQ2 _ ⟨_, (by omega : N ≤ n1), by rw [hXt]⟩
    · by_cases c2 : l.last < from_
      · have w1 : IntKind.u64.wrap ((from_ : Int) - (l.last : Nat)) = ((from_ - l.last : Nat) : Int) := by rw [wrap_u64Z]; unfold W64 at *; omega
        obtain ⟨df, hdf⟩ : ∃ df, df = from_ - l.last := ⟨_, rfl⟩
        rw [← hdf] at w1
        by_cases c3 : (1 : Int) < df
        · have c3' : 1 < from_ - l.last := by omega
          have hXt : X = true := by rw [hX]; simp [c2, c3']
          simp [c1, ht, c2, w1, c3]
          refine hQ2 _ ⟨_, ?_, by rw [hXt]⟩
          omega
        · have c3' : ¬ 1 < from_ - l.last := by omega
          by_cases c4 : most < 0
          · have hXt : X = true := by rw [hX]; simp [c4]
            simp [c1, ht, c2, w1, c3, c4]
            refine hQ2 _ ⟨_, ?_, by rw [hXt]⟩
            omega
          · have hXt : X = false := by rw [hX]; simp [c1, c4]; omega
            simp [c1, ht, c2, w1, c3, c4]
            refine hQ2 _ ⟨_, ?_, by rw [hXt]⟩
            omega
      · by_cases c4 : most < 0
        · have hXt : X = true := by rw [hX]; simp [c4]
          simp [c1, ht, c2, c4]
          refine hQ2 _ ⟨_, ?_, by rw [hXt]⟩
          omega
        · have hXt : X = false := by rw [hX]; simp [c1, c4]; omega
          simp [c1, ht, c2, c4]
          refine hQ2 _ ⟨_, ?_, by rw [hXt]⟩
          omega
  rintro _ ⟨M1, hM1, rfl⟩
  cases X with
  | true =>
    have hc := of_decide_eq_true hX.symm
    have hr : l.read from_ most = (1, []) := by unfold Lg.read; rw [if_pos hc]
    rw [hr] at hQ
    simp
    exact hQ _ _ _ ⟨by omega, fun _ _ => rfl, _, rfl, .inl ⟨rfl, rfl⟩⟩
  | false =>
    have hc := of_decide_eq_false hX.symm
    have hm0 : 0 ≤ most := by omega
    obtain ⟨mo, rfl⟩ : ∃ mo : Nat, most = (mo : Nat) := ⟨most.toNat, by omega⟩
    have hr : l.read from_ (mo : Nat) = (0, l.all.foldl (rdStep from_ (mo : Nat)) []) := by
      unfold Lg.read
      rw [if_neg hc, rd_fold]
      simp
    rw [hr] at hQ
    simp [ht, hsm, lenA_sl, hsl]
    let dn : Nat → List (Nat × Bs) := fun i => ((l.segs.take i).map fun s => numberRecs s.no s.recs).flatten
    have dnE : dn l.segs.length = l.all := by simp only [dn, Lg.all, List.take_length]
    have dnL : ∀ i, (dn i).length ≤ 2 ^ 29 := fun i => by
      refine Nat.le_trans ?_ hall
      have : l.all = dn i ++ ((l.segs.drop i).map fun s => numberRecs s.no s.recs).flatten := by
        simp only [dn, Lg.all]
        rw [← List.flatten_append, ← List.map_append, List.take_append_drop]
      rw [this, List.length_append]
      omega
    have hlen := hB.segs
    refine loop_wp (ι := Nat × AV × Hp × Nat) (fun i => { env := [(1, .i .u64 (from_ : Nat)), (2, .i .i64 (mo : Nat)), (8, i.2.1), (42, sv), (43, .i .i64 (l.segs.length : Nat)), (44, .i .i64 (i.1 : Nat))], loc := [], hp := i.2.2.1, nx := i.2.2.2 }) (fun i => l.segs.length - i.1)
      (fun i => i.1 ≤ l.segs.length ∧ LoggedV i.2.2.1 (fun j => N ≤ j ∧ j < i.2.2.2) i.2.1 ((dn i.1).foldl (rdStep from_ (mo : Nat)) []) ∧ (∀ j, j < N → lk i.2.2.1 j = lk H j) ∧ N ≤ i.2.2.2) (0, .vs true 0 [], H, M1 + 1 + 6) rfl ⟨Nat.zero_le _, .inl ⟨by simp [dn], rfl⟩, fun _ _ => rfl, by simp only; omega⟩ (by simp; unfold big at hK; omega) ?_
    rintro Next ⟨i, rv, H2, M⟩ ⟨hi, hv, lw, hM⟩ hnext
    simp only at hi hv lw hM hnext ⊢
    by_cases hlt : i < l.segs.length
    · obtain ⟨s, hse⟩ : ∃ s, s = l.segs[i] := ⟨_, rfl⟩
      have hsi : l.segs[i]? = some s := by rw [hse]; exact List.getElem?_eq_getElem hlt
      have hsm2 := hB.seg s (List.mem_of_getElem? hsi)
      have dn1 : dn (i + 1) = dn i ++ numberRecs s.no s.recs := by
        simp only [dn]
        rw [List.take_add_one, hsi]
        simp
      have L2 := h.low lw hM
      obtain ⟨k, a, g, j0, all, p1, rfl, p2, p3, p4, p5, p6, p7, p8, p9⟩ := L2.at hsi
      obtain ⟨r1, r2, r3⟩ := p9.sl
      have c1 : (i : Int) < l.segs.length := by omega
      have c3 : IntKind.i64.wrap ((i : Int) + 1) = ((i + 1 : Nat) : Int) := by rw [wrap_i64 (by omega) (by omega)]; omega
      simp [c1, p2, p3, p7, lenA_sl, r1, r2]
      refine loop_wp (ι := Nat × AV × Hp × Nat) (fun x => { env := [(1, .i .u64 (from_ : Nat)), (2, .i .i64 (mo : Nat)), (8, x.2.1), (10, .ptr k 0 0), (42, .rs a g j0 l.segs.length 1), (43, .i .i64 (l.segs.length : Nat)), (44, .i .i64 (i : Nat)), (51, rvs k), (52, .i .i64 (s.recs.length : Nat)), (53, .i .i64 (x.1 : Nat))], loc := [], hp := x.2.2.1, nx := x.2.2.2 }) (fun x => s.recs.length - x.1)
        (fun x => x.1 ≤ s.recs.length ∧ LoggedV x.2.2.1 (fun j => N ≤ j ∧ j < x.2.2.2) x.2.1 ((dn i ++ (numberRecs s.no s.recs).take x.1).foldl (rdStep from_ (mo : Nat)) []) ∧ (∀ j, j < N → lk x.2.2.1 j = lk H j) ∧ M ≤ x.2.2.2) (0, rv, H2, _) rfl ⟨Nat.zero_le _, ?_, lw, ?_⟩ (by simp; unfold big at hK; omega) ?_
      · simp only [List.take_zero, List.append_nil]
        exact hv.mono (fun _ _ => rfl) fun j hj => ⟨hj.1, by omega⟩
      · simp only
        omega
      rintro Next2 ⟨j, rv2, H3, M2⟩ ⟨hj, hv2, lw2, hM2⟩ hnext2
      simp only at hj hv2 lw2 hM2 hnext2 ⊢
      by_cases hjl : j < s.recs.length
      · obtain ⟨b, hbe⟩ : ∃ b, s.recs[j]? = some b := ⟨_, List.getElem?_eq_getElem hjl⟩
        obtain ⟨no, hno⟩ : ∃ no, no = (s.no + j) % W64 := ⟨_, rfl⟩
        have htk : dn i ++ (numberRecs s.no s.recs).take (j + 1) = (dn i ++ (numberRecs s.no s.recs).take j) ++ [(no, b)] := by
          rw [List.take_add_one, number_get s.recs s.no j b hbe, ← hno]
          simp
        have L3 := h.low (H' := H3) (N' := M2) lw2 (by omega)
        have p7' := L3.sg p1 hsi
        have d1 : (j : Int) < s.recs.length := by omega
        have d3 : IntKind.i64.wrap ((j : Int) + 1) = ((j + 1 : Nat) : Int) := by rw [wrap_i64 (by omega) (by omega)]; omega
        have wj : IntKind.u64.wrap (j : Int) = (j : Nat) := wrap_u64' (by omega)
        have wn : IntKind.u64.wrap ((s.no : Int) + (j : Nat)) = (no : Nat) := by rw [wrap_u64Z, hno, W64]; omega
        have al := rd_len from_ (mo : Nat) (dn i ++ (numberRecs s.no s.recs).take j) []
        have al2 := dnL (i + 1)
        rw [dn1] at al2
        simp only [List.length_append, List.length_take, List.length_nil, number_len] at al al2
        obtain ⟨acc, hacc⟩ : ∃ acc, acc = (dn i ++ (numberRecs s.no s.recs).take j).foldl (rdStep from_ (mo : Nat)) [] := ⟨_, rfl⟩
        rw [← hacc] at hv2 al
        have hstep : (dn i ++ (numberRecs s.no s.recs).take (j + 1)).foldl (rdStep from_ (mo : Nat)) [] = rdStep from_ (mo : Nat) acc (no, b) := by rw [htk, List.foldl_append, ← hacc]; rfl
        obtain ⟨v1, v2⟩ := hv2.sl
        rcases hrr : p9 with ⟨e1, e2⟩ | ⟨ra, rg, vs, f0, f1, f2, f3, f4, f5⟩
        · rw [e1] at hjl; cases hjl
        have f2' : lk H3 ra = some (rg, .arr 1 (vs.map recRow)) := by
          have := h.lt ra f3
          rw [lw2 ra this, ← lw ra this]
          exact f2
        obtain ⟨v, hve⟩ : ∃ v, vs[j]? = some v := ⟨_, List.getElem?_eq_getElem (by omega)⟩
        have hvr : (vs.map recRow)[j]? = some [v] := by rw [List.getElem?_map, hve]; rfl
        have hvb := (f5 j v b hve hbe).bytes
        have key : ∀ rv' H4 M', M2 ≤ M' → LoggedV H4 (fun j => N ≤ j ∧ j < M') rv' (rdStep from_ (mo : Nat) acc (no, b)) → (∀ j, j < N → lk H4 j = lk H j) →
            Next2 { env := [(1, .i .u64 (from_ : Nat)), (2, .i .i64 (mo : Nat)), (8, rv'), (10, .ptr k 0 0), (42, .rs a g j0 l.segs.length 1), (43, .i .i64 (l.segs.length : Nat)), (44, .i .i64 (i : Nat)), (51, rvs k), (52, .i .i64 (s.recs.length : Nat)), (53, .i .i64 ((j : Int) + 1))], loc := [], hp := H4, nx := M' } := fun rv' H4 M' hM' k1 k2 =>
          hnext2 (j + 1, rv', H4, M') (by simp only; omega) ⟨hjl, by rw [hstep]; exact k1, k2, by simp only; omega⟩
        rw [f1] at p7' key ⊢
        have vmv : v.mv = true := by rcases hvb with ⟨_, rfl⟩ | ⟨_, _, rfl, _⟩ <;> rfl
        by_cases q1 : from_ ≤ no
        · by_cases q2 : acc.length < mo
          · have hs2 : rdStep from_ (mo : Nat) acc (no, b) = acc ++ [(no, b)] := by unfold rdStep; rw [if_pos ⟨q1, by omega⟩]
            rw [hs2] at key
            simp [d1, f2', hvr, p7', wj, wn, q1, lenA_sl, v1, v2, vmv, q2]
            have hbl : True := trivial
            have dd : (acc.length + 1) * 33 ≤ 68719476736 := by omega
            have g0 : ∀ c, M2 ≤ M2 + c := fun c => by omega
            rcases hvb with ⟨rfl, rfl⟩ | ⟨kb, gb, rfl, b1, b2⟩
            · refine f_use (args' := [.vs true 0 []]) (by simp) (c_sclone0 (K := K) (n := n) (by omega) 0) (by simp) ?_
              rcases hv2 with ⟨a1, rfl⟩ | ⟨ra2, rg2, rows2, a0, rfl, a1, a2, a3, a4⟩
              · subst a1
                simp [lk_set, Nat.add_assoc, mostB, d3]
                have hL : LoggedV H3 (fun j => N ≤ j ∧ j < M2) (.vs true 0 []) [] := .inl ⟨rfl, rfl⟩
                refine key (.rs (M2 + 29) 0 0 1 2) _ _ (by omega) (hL.push (v := .vs true 0 []) (fun j hj => ⟨hj.1, by omega⟩) (fun j x hj hx hkx => ?_) (.inl ⟨rfl, rfl⟩) (.inl ⟨rfl, M2 + 29, rfl, by simp [lk_set], by omega, by omega⟩)) (fun j hj => ?_)
                · have u2 : ∀ c, ¬ j = M2 + c := fun c => by omega
                  simp [lk_set, u2]
                · have u2 : ∀ c, ¬ j = M2 + c := fun c => by omega
                  simp [lk_set, u2, lw2 j hj]
              · have hra := a2
                have h1a : ∀ c, ¬ ra2 = M2 + c := fun c => by omega
                have h2a : ∀ c, ¬ M2 + c = ra2 := fun c => by omega
                have s0 : shown rows2 0 acc.length = rows2 := shown_all a3.symm
                simp [lk_set, Nat.add_assoc, mostB, d3, a1, h1a, h2a, a3, s0, dd]
                have hL : LoggedV H3 (fun j => N ≤ j ∧ j < M2) (.rs ra2 rg2 0 acc.length 2) acc := .inr ⟨ra2, rg2, rows2, a0, rfl, a1, a2, a3, a4⟩
                have hkd := LoggedR.kind ⟨a3, a4⟩ a0
                refine key (.rs ra2 (rg2 + 1) 0 (acc.length + 1) 2) _ _ (by omega) (hL.push (v := .vs true 0 []) (fun j hj => ⟨hj.1, by omega⟩) (fun j x hj hx hkx => ?_) (.inl ⟨rfl, rfl⟩) (.inr ⟨ra2, rg2, rows2, rfl, a1, rfl, by simp [lk_set]⟩)) (fun j hj => ?_)
                · have u2 : ∀ c, ¬ j = M2 + c := fun c => by omega
                  have u3 : ¬ j = ra2 := ne_of_kind hx a1 fun e => by rw [e, hkd] at hkx; omega
                  simp [lk_set, u2, u3]
                · have u2 : ∀ c, ¬ j = M2 + c := fun c => by omega
                  have u3 : ¬ j = ra2 := by omega
                  simp [lk_set, u2, u3, lw2 j hj]
            · have hkb := h.lt kb b2
              have b1' : lk H3 kb = some (gb, .arr 1 (byteRows b)) := by rw [lw2 kb hkb, ← lw kb hkb]; exact b1
              have hbl2 : b.length ≤ 2 ^ 30 := by have := hB.recs s (List.mem_of_getElem? hsi) b (List.mem_of_getElem? hbe); omega
              refine f_use (frz_all (b := b) (by simp [b1']) rfl) (c_sclone (K := K) (n := n) (by omega) b hbl2) (by simp) ?_
              rcases hv2 with ⟨a1, rfl⟩ | ⟨ra2, rg2, rows2, a0, rfl, a1, a2, a3, a4⟩
              · subst a1
                simp [lk_set, Nat.add_assoc, mostB, d3]
                have hL : LoggedV H3 (fun j => N ≤ j ∧ j < M2) (.vs true 0 []) [] := .inl ⟨rfl, rfl⟩
                refine key (.rs (M2 + 29) 0 0 1 2) _ _ (by omega) (hL.push (v := .rs (M2 + 34) (if b = [] then 0 else 1) 0 b.length 1) (fun j hj => ⟨hj.1, by omega⟩) (fun j x hj hx hkx => ?_) (.inr ⟨M2 + 34, if b = [] then 0 else 1, by simp, by simp [lk_set], by omega, by omega⟩) (.inl ⟨rfl, M2 + 29, rfl, by simp [lk_set], by omega, by omega⟩)) (fun j hj => ?_)
                · have u2 : ∀ c, ¬ j = M2 + c := fun c => by omega
                  simp [lk_set, u2]
                · have u2 : ∀ c, ¬ j = M2 + c := fun c => by omega
                  simp [lk_set, u2, lw2 j hj]
              · have h1a : ∀ c, ¬ ra2 = M2 + c := fun c => by omega
                have h2a : ∀ c, ¬ M2 + c = ra2 := fun c => by omega
                have s0 : shown rows2 0 acc.length = rows2 := shown_all a3.symm
                simp [lk_set, Nat.add_assoc, mostB, d3, a1, h1a, h2a, a3, s0, dd]
                have hL : LoggedV H3 (fun j => N ≤ j ∧ j < M2) (.rs ra2 rg2 0 acc.length 2) acc := .inr ⟨ra2, rg2, rows2, a0, rfl, a1, a2, a3, a4⟩
                have hkd := LoggedR.kind ⟨a3, a4⟩ a0
                refine key (.rs ra2 (rg2 + 1) 0 (acc.length + 1) 2) _ _ (by omega) (hL.push (v := .rs (M2 + 34) (if b = [] then 0 else 1) 0 b.length 1) (fun j hj => ⟨hj.1, by omega⟩) (fun j x hj hx hkx => ?_) (.inr ⟨M2 + 34, if b = [] then 0 else 1, by simp, by simp [lk_set, h2a], by omega, by omega⟩) (.inr ⟨ra2, rg2, rows2, rfl, a1, rfl, by simp [lk_set]⟩)) (fun j hj => ?_)
                · have u2 : ∀ c, ¬ j = M2 + c := fun c => by omega
                  have u3 : ¬ j = ra2 := ne_of_kind hx a1 fun e => by rw [e, hkd] at hkx; omega
                  simp [lk_set, u2, u3]
                · have u2 : ∀ c, ¬ j = M2 + c := fun c => by omega
                  have u3 : ¬ j = ra2 := by omega
                  simp [lk_set, u2, u3, lw2 j hj]
          · have hs2 : rdStep from_ (mo : Nat) acc (no, b) = acc := by unfold rdStep; rw [if_neg (by omega)]
            rw [hs2] at key
            simp [d1, f2', hvr, p7', wj, wn, q1, lenA_sl, v1, v2, vmv, q2, d3]
            exact key _ _ _ (by omega) (hv2.mono (fun _ _ => rfl) fun j hj => ⟨hj.1, by omega⟩) lw2
        · have hs2 : rdStep from_ (mo : Nat) acc (no, b) = acc := by unfold rdStep; rw [if_neg (fun h => q1 h.1)]
          rw [hs2] at key
          simp [d1, f2', hvr, p7', wj, wn, q1, vmv, v2, d3]
          exact key _ _ _ (by omega) (hv2.mono (fun _ _ => rfl) fun j hj => ⟨hj.1, by omega⟩) lw2
      · obtain rfl : j = s.recs.length := by omega
        rw [List.take_of_length_le (Nat.le_of_eq (number_len _ _)), ← dn1] at hv2
        simp [c3]
        have key : ∀ M', M2 ≤ M' → Next { env := [(1, .i .u64 (from_ : Nat)), (2, .i .i64 (mo : Nat)), (8, rv2), (42, .rs a g j0 l.segs.length 1), (43, .i .i64 (l.segs.length : Nat)), (44, .i .i64 ((i : Int) + 1))], loc := [], hp := H3, nx := M' } := fun M' hM' =>
          hnext (i + 1, rv2, H3, M') (by simp only; omega) ⟨hlt, hv2.mono (fun _ _ => rfl) fun j hj => ⟨hj.1, by simp only; omega⟩, lw2, by simp only; omega⟩
        exact key _ (by omega)
    · obtain rfl : i = l.segs.length := by omega
      rw [dnE] at hv
      simp
      obtain ⟨v1, v2⟩ := hv.sl
      exact ⟨v2, _, ⟨v2, rfl⟩, hQ _ _ _ ⟨by omega, lw, rv, rfl, hv.mono (fun _ _ => rfl) fun j hj => ⟨hj.1, by omega⟩⟩⟩

end Ab
end Go.Proofs.YtmbbnoipoifhhaaGreatDoor

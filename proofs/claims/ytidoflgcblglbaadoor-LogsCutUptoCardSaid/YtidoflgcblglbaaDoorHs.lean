/-
  DERIVED. slices.SortFunc told by a relation: that the program does so.
  Conditions: none.
-/
import Derived.Test.YtidoflgcblglbaaDoorLays
import Derived.Test.YtidoflgcblglbaaDoorWG
import Derived.Test.YtidoflgcblglbaaDoorAbE
import Derived.WalkKit
import Derived.Below
set_option linter.all false
set_option maxHeartbeats 4000000
namespace Go.Proofs.YtidoflgcblglbaaDoor
open Go.RowKit Go.Sort Go.Shelf
set_option maxRecDepth 100000
set_option maxHeartbeats 4000000
set_option linter.all false

/-- The closure by which records are sorted. -/
theorem closure_ord (x y : Int) (a b c d e a' b' c' d' e' : Value) (W : World) : Calls Tryd.prog 38 #[.agg #[.int .u64 x, a, b, c, d, e], .agg #[.int .u64 y, a', b', c', d', e']] W fun r w' => r = .returned (.int .i64 (if x < y then -1 else 1)) ∧ ∃ q os', w' = grow (W.drewN q) os' := by
  go_enter Tryd.func38, Tryd.ntmps38
  go_wp2
  all_goals go_ret
  all_goals exact ⟨by simp_all, 0, _, by rw [alloc_eq_grow, alloc_eq_grow, grow_grow]; rfl⟩

/-- The world behind a sort, at the sorted block and elsewhere. -/
theorem sortK_at {enc : Nat → List Value} {w : World} {b off m : Nat} {d : Array Nat} {os : Array Obj} {c : Array Value} {e : TypeId} {fr : Nat × Nat} (h : w.heap[b]? = some (.cells c e fr)) :
    (sortWorldK enc 6 w b off m d os).heap[b]? = some (.cells (putCells id off (flatK enc 6 d) c) e fr) := by
  have hb : b < w.heap.size := (Array.getElem?_eq_some_iff.1 h).1
  unfold sortWorldK grow putRowK putRow mapBlock Sort.ahead
  simp only
  rw [Array.getElem?_append_left (by rw [Array.size_modify]; exact hb), Array.getElem?_modify, if_pos rfl, h]
  rfl
theorem sortK_other {enc : Nat → List Value} {w : World} {b off m : Nat} {d : Array Nat} {os : Array Obj} {b' : Nat} (hb : b' < w.heap.size) (hne : b' ≠ b) : (sortWorldK enc 6 w b off m d os).heap[b']? = w.heap[b']? := by
  unfold sortWorldK grow putRowK putRow mapBlock Sort.ahead
  simp only
  rw [Array.getElem?_append_left (by rw [Array.size_modify]; exact hb), Array.getElem?_modify, if_neg (fun e => hne e.symm)]
theorem sortK_size {enc : Nat → List Value} {w : World} {b off m : Nat} {d : Array Nat} {os : Array Obj} : w.heap.size ≤ (sortWorldK enc 6 w b off m d os).heap.size := by
  unfold sortWorldK grow putRowK putRow mapBlock Sort.ahead
  simp
namespace Ab
variable [WX]
theorem vals2 {vals : Array Value} (h : vals.size = 2) : ∃ v u, vals = #[v, u] := ⟨vals[0], vals[1], by
  apply Array.ext
  · simp [h]
  · intro i h1 h2
    have : i = 0 ∨ i = 1 := by omega
    rcases this with rfl | rfl
    · rfl
    · rfl⟩
theorem lkg_of {hp : Hp} {k g : Nat} {o : AO} (h : lk hp k = some (g, o)) : hget hp (.h k g) = some o := by simp [hget, lkg, h]
/-- A function told by a relation. -/
theorem hint_ok {P : Program} {f : FuncId} {R : RelT} (hf : ∃ fn c, P.funcs[f]? = some fn ∧ fn.body = some c)
    (h : ∀ args hp nx r hp' nx', R args hp nx (r, hp', nx') → nx ≤ nx' ∧ (∀ k g o, lkg hp' k g = some o → (∃ g' o', lkg hp k g' = some o') ∨ (nx ≤ k ∧ k < nx')) ∧
      ∀ I β w vals, Sim I β (hget hp) w → FrIn β nx nx' → Args I w β vals args →
        Calls P f vals w fun e w' => ∃ v I' β', e = .returned v ∧ RV I' w' β' v r ∧ Sim I' β' (hget hp') w' ∧ Step I β (hget hp) w I' β' (hget hp') w' ∧ Keeps (fun n => nx ≤ n ∧ n < nx') β β') :
    CallOk P fun g args hp nx => if g = f then hintOf R args hp nx else none := by
  intro g args hp nx r hp' nx' hc
  simp only at hc
  split at hc
  · rename_i hg
    subst hg
    obtain ⟨h1, h2, h3⟩ := h _ _ _ _ _ _ (hintOf_some hc)
    exact ⟨h1, h2, hf, h3⟩
  · cases hc
theorem hget_up {hp : Hp} {k g : Nat} {o o' : AO} (h : lk hp k = some (g, o)) : hget (up hp k (g, o')) = wrG (hget hp) (.h k g, some o') := by
  funext r
  cases r with
  | l d n => simp [hget, wrG, Ref.key]
  | h k' g' =>
    simp only [hget, lkg, wrG, Ref.key, lk_up, Prod.mk.injEq, true_and]
    by_cases hk : k' = k
    · subst hk
      by_cases hg : g' = g
      · subst hg; simp
      · have h1 : ¬ g = g' := fun h => hg h.symm
        simp [h1, hg]
    · simp [hk]
theorem hget_same {hp : Hp} {k g : Nat} {o : AO} (h : lk hp k = some (g, o)) : hget (up hp k (g, o)) = hget hp := by
  funext r
  cases r with
  | l d n => rfl
  | h k' g' =>
    simp only [hget, lkg, lk_up]
    by_cases hk : k' = k
    · subst hk; simp [h]
    · simp [hk]
theorem slice_none {I : Nat → Prop} {w : World} {β : BMap} {v : Value} {z : Bool} {sz : Nat} (h : RV I w β v (.vs z sz [])) : ∃ p cap, v = .slice p 0 cap := by
  generalize hx : AV.vs z sz [] = x at h
  cases h <;> first | (cases hx; done) | skip
  · exact ⟨_, _, rfl⟩
  · exact ⟨_, _, rfl⟩
  · rename_i hlen _ _ _
    injection hx with _ _ h3
    subst h3
    simp at hlen
    subst hlen
    exact ⟨_, _, rfl⟩

theorem sort_ok : CallOk Tryd.prog fun g args hp nx => if g = 37 then hintOf RSort args hp nx else none := by
  refine hint_ok ⟨Tryd.f37, _, Tryd.func37, rfl⟩ fun args hp nx r hp' nx' hR => ?_
  rcases hR with ⟨z, sz, f, rfl, rfl, ho⟩ | ⟨k, g, rows, rows', rfl, hk, hkr, hnd, hlen, hperm, hsrt, ho⟩
  · simp only [Prod.mk.injEq] at ho
    obtain ⟨rfl, rfl, rfl⟩ := ho
    refine ⟨Nat.le_refl _, fun k g o h => .inl ⟨g, o, h⟩, fun I β w vals hs hfr ha => ?_⟩
    obtain ⟨hl, hv⟩ := ha
    obtain ⟨v, u, rfl⟩ := vals2 hl
    obtain ⟨p, cap, rfl⟩ := slice_none (hv 0 v _ rfl rfl)
    refine (AnyF.slices_SortFunc_none (P := Tryd.prog) (ρ := Tryd.laysSortF_ren) Tryd.laysSortF p cap u w).mono fun e w' ⟨he, hw⟩ => ?_
    subst hw
    exact ⟨_, I, β, he, .tup _ _ _ rfl (by simp), hs, .refl _ _ _ _, .refl _ _⟩
  · simp only [Prod.mk.injEq] at ho
    obtain ⟨rfl, rfl, rfl⟩ := ho
    refine ⟨Nat.le_refl _, fun k' g' o h => ?_, fun I β w vals hs hfr ha => ?_⟩
    · unfold lkg at h
      rw [lk_up] at h
      by_cases hk' : k' = k
      · subst hk'
        exact .inl ⟨g, .arr 6 rows, by simp [lkg, hk]⟩
      · rw [if_neg hk'] at h
        exact .inl ⟨g', o, h⟩
    obtain ⟨hl, hv⟩ := ha
    obtain ⟨v, u, rfl⟩ := vals2 hl
    have h0 := hv 0 v _ rfl rfl
    have h1 := hv 1 u _ rfl rfl
    obtain ⟨p, hp1, q0, q1, c, e, fr, q2, q3, q4, q5⟩ := hs.obj _ _ (lkg_of hk)
    generalize hx : AV.rs k g 0 rows.length 6 = x at h0
    generalize hy : AV.fn 38 [] = y at h1
    cases h0 <;> first | (cases hx; done) | skip
    rename_i k1 g1 i01 len1 sz1 b o cap a hcap hsz haa hb
    injection hx with e1 e2 e3 e4 e5
    subst e1 e2 e3 e4 e5
    cases h1 <;> first | (cases hy; done) | skip
    rename_i f1 vs1 cs1 hl2 hh2
    injection hy with e1 e2
    subst e1 e2
    obtain rfl : vs1 = #[] := Array.eq_empty_of_size_eq_zero hl2
    rw [hb] at hp1
    cases hp1
    by_cases hz : rows = []
    · subst hz
      have hz' : rows' = [] := List.perm_nil.1 hperm
      subst hz'
      refine (AnyF.slices_SortFunc_none (P := Tryd.prog) (ρ := Tryd.laysSortF_ren) Tryd.laysSortF (some a) cap _ w).mono fun e w' ⟨he, hw⟩ => ?_
      subst hw
      rw [hget_same hk]
      exact ⟨_, I, β, he, .tup _ _ _ rfl (by simp), hs, .refl _ _ _ _, .refl _ _⟩
    · have hn0 : 0 < rows.length := List.length_pos_iff.2 hz
      obtain rfl : a = ⟨b, o + 0 * 6, none⟩ := haa.resolve_left (by omega)
      simp only at q1 q2 q3 q4 q5
      have hblk : b < w.heap.size := (Array.getElem?_eq_some_iff.1 q2).1
      let idf : Nat → Nat := fun t => keyRow (rows.getD t [])
      let x : Nat → Nat → Value := fun t j => if t < rows.length then (c[o + t * 6 + j]?).getD (.int .u64 0) else .int .u64 0
      let enc : Nat → List Value := fun t => [.int .u64 (idf t : Nat), x t 1, x t 2, x t 3, x t 4, x t 5]
      -- what lies in the row
      have hrow : ∀ t, t < rows.length → ∃ r, rows[t]? = some r ∧ rows.getD t [] = r ∧ KeyRow r := fun t ht => by
        refine ⟨rows[t], List.getElem?_eq_getElem ht, by rw [List.getD_eq_getElem?_getD, List.getElem?_eq_getElem ht]; rfl, hkr _ (List.getElem_mem _)⟩
      have hcell : ∀ t j, t < rows.length → j < 6 → ∃ v, c[o + t * 6 + j]? = some v ∧ (enc t)[j]! = v ∧ v.oneCell' = true ∧ ∀ a, (rows.getD t [])[j]? = some a → RV I w β v a := fun t j ht hj => by
        obtain ⟨r, h1, h2, h3, n, cc, h4, h5⟩ := hrow t ht
        obtain ⟨a, ha⟩ : ∃ a, r[j]? = some a := ⟨_, List.getElem?_eq_getElem (by omega)⟩
        obtain ⟨v, w1, w2, w3⟩ := q5 t j r a h1 ha
        refine ⟨v, w1, ?_, w2, fun a' ha' => ?_⟩
        · have hxj : x t j = v := by simp only [x, if_pos ht, w1, Option.getD_some]
          have hj6 : j = 0 ∨ j = 1 ∨ j = 2 ∨ j = 3 ∨ j = 4 ∨ j = 5 := by omega
          rcases hj6 with rfl | rfl | rfl | rfl | rfl | rfl
          · subst h4
            cases ha
            have hid : idf t = n := by simp only [idf, h2, keyRow]; simp
            cases w3
            show Value.int .u64 (idf t : Nat) = _
            rw [hid]
          all_goals exact hxj
        · rw [h2, ha] at ha'
          cases ha'
          exact w3
      have hk6 : ∀ t, (enc t).length = 6 := fun _ => rfl
      have hx1 : ∀ t j, 1 ≤ j → j < 6 → (x t j).oneCell' = true := fun t j hj1 hj => by
        by_cases ht : t < rows.length
        · obtain ⟨v, w1, _, w2, _⟩ := hcell t j ht hj
          simp only [x, if_pos ht, w1, Option.getD_some]
          exact w2
        · simp only [x, if_neg ht]
          rfl
      have h1c : ∀ t, ∀ v ∈ enc t, v.oneCell' = true := fun t v hv => by
        simp only [enc, List.mem_cons, List.not_mem_nil, or_false] at hv
        rcases hv with rfl | rfl | rfl | rfl | rfl | rfl
        · rfl
        all_goals exact hx1 t _ (by omega) (by omega)
      have hH : HoldsK enc 6 w b (o + 0 * 6) (Array.range rows.length) := by
        intro j hj
        rw [size_flatK, Array.size_range] at hj
        rw [get_flatK _ _ _ _ (by rw [Array.size_range]; exact hj)]
        have ht : j / 6 < rows.length := by omega
        have hd : (Array.range rows.length)[j / 6]! = j / 6 := by simp [ht]
        rw [hd]
        obtain ⟨v, w1, w2, _, _⟩ := hcell (j / 6) (j % 6) ht (by omega)
        rw [w2]
        have hjj : o + 0 * 6 + j = o + j / 6 * 6 + j % 6 := by omega
        refine ⟨?_, ?_⟩
        · unfold World.cell?
          simp only [q2]
          rw [hjj]
          exact w1
        · unfold World.frozen?
          obtain ⟨f1, f2⟩ := fr
          simp only [q2]
          exact q4.at _ (by omega)
      let cf : Nat → Nat → Int := fun s t => if idf s < idf t then -1 else 1
      have hlt : ∀ s t, ltOf cf s t = decide (idf s < idf t) := fun s t => by
        unfold ltOf
        simp only [cf]
        by_cases h : idf s < idf t <;> simp [h]
      have hO : SWO (ltOf cf) := by
        refine ⟨fun s => ?_, fun s t u h1 h2 => ?_, fun s t u h1 h2 => ?_⟩
        · rw [hlt]; simp
        · rw [hlt] at *; simp at *; omega
        · rw [hlt] at *; simp at *; omega
      have hcmp : CmpLays Tryd.prog 38 #[] enc 6 cf b (o + 0 * 6) (Array.range rows.length).size w := fun m os dk hs s t => by
        refine (closure_ord (idf s : Nat) (idf t : Nat) _ _ _ _ _ _ _ _ _ _ _).mono fun r w' ⟨h1, h2⟩ => ⟨?_, h2⟩
        rw [h1]
        by_cases h : idf s < idf t
        · have h' : (idf s : Int) < idf t := by omega
          simp [cf, h, h']
        · have h' : ¬ (idf s : Int) < idf t := by omega
          simp [cf, h, h']
      have eg : ∀ args w, (callFunc 38 args).run Tryd.prog w = .ok (.enter 38 args) w := enters_of Tryd.func38 (by kernel_rfl) rfl
      have hsz2 : (Array.range rows.length).size < 4611686018427387904 := by rw [Array.size_range]; omega
      have hcon := AnyQ.slices_SortFunc (P := Tryd.prog) (ρ := Tryd.laysSortF_ren) Tryd.laysSortF 6 Tryd.isAgg39 Tryd.sizeOf39 enc hk6 h1c cf hO 38 #[] b (o + 0 * 6) cap (Array.range rows.length) w eg hcmp hH hblk hsz2
      rw [Array.size_range] at hcon
      refine hcon.mono ?_
      rintro ee w' ⟨he, d', m, os, hP, hS, rfl⟩
      obtain ⟨hd1, _, hd3⟩ := hP
      rw [Array.size_range] at hd1
      have hdl : d'.toList.Perm (List.range rows.length) := by
        have e1 : d'.extract 0 rows.length = d' := by
          rw [← hd1]; exact Array.extract_size
        have e2 : (Array.range rows.length).extract 0 rows.length = Array.range rows.length := by
          have : (Array.range rows.length).extract 0 (Array.range rows.length).size = Array.range rows.length := Array.extract_size
          rwa [Array.size_range] at this
        rw [e1, e2] at hd3
        simpa using hd3
      have hdlt : ∀ t ∈ d'.toList, t < rows.length := fun t ht => List.mem_range.1 (hdl.mem_iff.1 ht)
      have hrange : (List.range rows.length).map (fun t => rows.getD t []) = rows := by
        apply List.ext_getElem?
        intro i
        rw [List.getElem?_map]
        by_cases hi : i < rows.length
        · rw [List.getElem?_range hi, List.getElem?_eq_getElem hi]
          simp [List.getD_eq_getElem?_getD, hi]
        · rw [List.getElem?_eq_none (by rw [List.length_range]; omega), List.getElem?_eq_none (by omega)]
          rfl
      have hp2 : (d'.toList.map fun t => rows.getD t []).Perm rows := by
        have := hdl.map fun t => rows.getD t []
        rwa [hrange] at this
      have hs2 : ((d'.toList.map fun t => rows.getD t []).map keyRow).Pairwise (· < ·) := by
        have hnd2 : ((d'.toList.map fun t => rows.getD t []).map keyRow).Nodup := (hp2.map keyRow).nodup_iff.2 hnd
        rw [List.pairwise_iff_getElem]
        intro i j hi hj hij
        have hle : ((d'.toList.map fun t => rows.getD t []).map keyRow)[i] ≤ ((d'.toList.map fun t => rows.getD t []).map keyRow)[j] := by
          simp only [List.length_map, Array.length_toList] at hi hj
          have h9 := hS i j (Nat.zero_le _) hij (by omega)
          rw [hlt] at h9
          simp only [decide_eq_false_iff_not, Nat.not_lt] at h9
          rw [getElem!_pos d' i (by omega), getElem!_pos d' j (by omega)] at h9
          simpa [idf] using h9
        have hne : ((d'.toList.map fun t => rows.getD t []).map keyRow)[i] ≠ ((d'.toList.map fun t => rows.getD t []).map keyRow)[j] := fun e => by
          have := (List.nodup_iff_pairwise_ne.1 hnd2)
          exact (List.pairwise_iff_getElem.1 this i j hi hj hij) e
        omega
      have hrows : rows' = d'.toList.map fun t => rows.getD t [] := sorted_one (hperm.trans hp2.symm) hsrt hs2
      have hcs : ∀ b', csz w b' ≤ csz (sortWorldK enc 6 w b (o + 0 * 6) m d' os) b' := fun b' => by
        by_cases hb' : b' < w.heap.size
        · by_cases hne : b' = b
          · subst hne
            unfold csz
            rw [q2, sortK_at q2]
            simp [putCells]
          · unfold csz
            rw [sortK_other hb' hne]
            exact Nat.le_refl _
        · have : csz w b' = 0 := by
            unfold csz
            rw [Array.getElem?_eq_none (by omega)]
          omega
      have himm : ∀ b', I b' → (sortWorldK enc 6 w b (o + 0 * 6) m d' os).heap[b']? = w.heap[b']? := fun b' hI => by
        have := hs.imm b' hI
        exact sortK_other this.1 fun e => this.2 ⟨_, _, _, lkg_of hk, hb, e.symm⟩
      have hOR : OR I (sortWorldK enc 6 w b (o + 0 * 6) m d' os) β (b, o) (.arr 6 rows') := by
        have hlen2 : rows'.length = rows.length := hperm.length_eq
        refine ⟨by omega, fun r hr => (hkr r (hperm.mem_iff.1 hr)).1, putCells id (o + 0 * 6) (flatK enc 6 d') c, e, fr, sortK_at q2, by simp only [putCells, Array.size_mapIdx]; rw [hlen2]; exact q3, ?_, fun i j r a hr ha => ?_⟩
        · unfold unfz at q4 ⊢
          simpa [putCells] using q4
        · rw [hrows, List.getElem?_map] at hr
          have hi : i < rows.length := by rw [← hlen2, hrows]; have := (List.getElem?_eq_some_iff.1 (by rw [List.getElem?_map]; exact hr : (d'.toList.map fun t => rows.getD t [])[i]? = some r)).1; simpa using this
          have hdi : i < d'.size := by omega
          have hgi : d'.toList[i]? = some d'[i]! := by
            rw [getElem!_pos d' i hdi, Array.getElem?_toList, Array.getElem?_eq_getElem hdi]
          rw [hgi] at hr
          simp only [Option.map_some, Option.some.injEq] at hr
          have ht := hdlt _ (List.mem_of_getElem? hgi)
          have hj : j < 6 := by
            have := (List.getElem?_eq_some_iff.1 ha).1
            rw [← hr, (hrow _ ht).choose_spec.2.1] at this
            rw [(hrow _ ht).choose_spec.2.2.1] at this
            exact this
          obtain ⟨v, w1, w2, w3, w4⟩ := hcell (d'[i]!) j ht hj
          refine ⟨v, ?_, w3, ?_⟩
          · have hjc : o + i * 6 + j < c.size := by omega
            simp only [putCells, Array.getElem?_mapIdx, Array.getElem?_eq_getElem hjc, Option.map_some, size_flatK]
            rw [if_pos (by omega), get_flatK _ _ _ _ (by omega)]
            have e1 : (o + i * 6 + j - (o + 0 * 6)) / 6 = i := by omega
            have e2 : (o + i * 6 + j - (o + 0 * 6)) % 6 = j := by omega
            rw [e1, e2, w2]
            rfl
          · refine (w4 a (by rw [hr]; exact ha)).mono (fun _ h => h) himm (fun _ _ h => h) hcs
      rw [hget_up hk]
      have hput := hs.put (β' := β) (w' := sortWorldK enc 6 w b (o + 0 * 6) m d' os) (r := .h k g) (o' := .arr 6 rows') (p := (b, o)) (fun _ _ => rfl) (.inr hb) hb hOR rfl rfl rfl sortK_size hcs (fun b' hb' hne => sortK_other hb' hne) (.inl ⟨_, _, _, lkg_of hk, hb, rfl, rfl⟩) (fun k' g' e => by
        injection e with e1 e2
        subst e1 e2
        exact hs.gen _ _ _ (lkg_of hk))
      exact ⟨_, I, β, he, .tup _ _ _ rfl (by simp), hput.1, hput.2, .refl _ _⟩
end Ab
end Go.Proofs.YtidoflgcblglbaaDoor

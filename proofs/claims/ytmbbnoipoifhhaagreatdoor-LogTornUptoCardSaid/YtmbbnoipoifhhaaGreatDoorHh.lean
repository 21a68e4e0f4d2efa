/-
  DERIVED. How long a disk's files are together, maps.Clone, a disk's names: functions told by a relation of their own: that the program does so.
  Conditions: none.
-/
import Derived.Test.YtmbbnoipoifhhaaGreatDoorCf
import Derived.WalkKit
import Derived.IntWalk
import Derived.Maps.RangeWalk
import Derived.Below
set_option linter.all false
set_option maxHeartbeats 4000000
namespace Go.Proofs.YtmbbnoipoifhhaaGreatDoor
open Go.RowKit
set_option maxRecDepth 100000
set_option maxHeartbeats 4000000
set_option linter.all false

theorem left_push (mes : Array MapEntry) (seen : Array Nat) (n : Nat) : (leftOf mes (seen.push n)).toList = (leftOf mes seen).toList.filter (fun x => x.born != n) := by
  simp only [leftOf, Array.toList_filter, List.filter_filter]
  apply List.filter_congr
  intro x _
  simp only [Array.contains_push]
  cases h1 : seen.contains x.born <;> cases h2 : (x.born == n) <;> simp [bne, h2]
theorem left_nodup (mes : Array MapEntry) (seen : Array Nat) (h : (mes.toList.map (·.born)).Nodup) : ((leftOf mes seen).toList.map (·.born)).Nodup := by
  simp only [leftOf, Array.toList_filter]
  exact h.sublist ((List.filter_sublist ..).map _)
theorem filter_none (e : Nat) : ∀ (l : List MapEntry), (∀ x ∈ l, x.born ≠ e) → l.filter (fun x => x.born != e) = l := by
  intro l h
  rw [List.filter_eq_self]
  intro x hx
  simpa using h x hx
theorem sum_one (ln : MapEntry → Nat) (e : MapEntry) : ∀ (l : List MapEntry), (l.map (·.born)).Nodup → e ∈ l → (l.map ln).sum = ln e + ((l.filter (fun x => x.born != e.born)).map ln).sum
  | [], _, h => by simp at h
  | x :: r, hn, h => by
    simp only [List.map_cons, List.nodup_cons] at hn
    by_cases hx : x.born = e.born
    · have : e = x := by
        rcases List.mem_cons.1 h with h | h
        · exact h
        · exact absurd (List.mem_map.2 ⟨e, h, hx.symm⟩) hn.1
      subst this
      have hf : r.filter (fun x => x.born != e.born) = r := filter_none _ r fun y hy he => hn.1 (List.mem_map.2 ⟨y, hy, he⟩)
      simp [hf]
    · have h2 : e ∈ r := by
        rcases List.mem_cons.1 h with h | h
        · subst h; exact absurd rfl hx
        · exact h
      have ih := sum_one ln e r hn.2 h2
      have hb : (x.born != e.born) = true := by simpa using hx
      simp only [List.filter_cons, hb, if_true, List.map_cons, List.sum_cons, ih]
      omega
theorem len_one (e : MapEntry) (l : List MapEntry) (h : e ∈ l) : (l.filter (fun x => x.born != e.born)).length < l.length := by
  rw [List.length_filter_lt_length_iff_exists]
  exact ⟨e, h, by simp⟩

theorem used_walk (kb ko m total : Nat) (mes : Array MapEntry) (clock : Nat) (ln : MapEntry → Nat) (pp : MapEntry → Addr) (w : World)
    (hl : w.cell? ⟨kb, ko + 1, none⟩ = some (.map (some m)))
    (hm : w.heap[m]? = some (.map mes clock)) (hst : (∀ x ∈ mes.toList, x.born < clock) ∧ (mes.toList.map (·.born)).Nodup)
    (hv : ∀ x ∈ mes.toList, x.val = .pointer (some (pp x)) ∧ ∀ w' : World, Below w.heap.size w w' → ∃ p c, w'.cell? (pp x) = some (.slice p (ln x) c))
    (hs : (mes.toList.map ln).sum = total) (ht : total < 2 ^ 62) :
    Calls Tryz.prog 47 #[.pointer (some ⟨kb, ko, none⟩)] w fun e w' => e = .returned (.int .i64 (total : Nat)) ∧ Below w.heap.size w w' := by
  have hrr := run_range_map (P := Tryz.prog) w 85 _ _ m mes clock Tryz.underlying85 hm
  have hml : m < w.heap.size := (Array.getElem?_eq_some_iff.1 hm).1
  go_enter Tryz.func47, Tryz.ntmps47
  go_wp2
  go_loopw [3] (fun v wr => ∃ acc seen, v = .int .i64 (acc : Nat) ∧ wr.heap[w.heap.size]? = some (.mapIter (some m) clock seen clock) ∧ Below w.heap.size w wr ∧ acc + ((leftOf mes seen).toList.map ln).sum = total)
    (fun _ wr => wr.rangeLeft m w.heap.size)
  case atStart =>
    refine ⟨0, #[], rfl, by simp only [World.alloc]; simp, (Below.refl _ _).alloc (Nat.le_refl _) _, ?_⟩
    have e2 : (leftOf mes #[]).toList = mes.toList := by simp [leftOf]
    rw [e2, Nat.zero_add]; exact hs
  case round =>
    obtain ⟨acc, seen, rfl, hit, hb, hsum⟩ := hrel
    have hm' : wr.heap[m]? = some (.map mes clock) := (hb.block m hml).trans hm
    have hrun := run_next_at (P := Tryz.prog) wr 0 w.heap.size m clock clock seen mes clock hit hm' hst.1 (Nat.le_refl _)
    rcases hrun with ⟨h0, hrun⟩ | ⟨e, he, w1, hw1, hrun⟩
    · go_wp2
      go_ret
      have e0 : (leftOf mes seen) = #[] := Array.eq_empty_of_size_eq_zero h0
      rw [e0] at hsum
      simp at hsum
      subst hsum
      exact ⟨rfl, hb⟩
    · have hem : e ∈ mes.toList := by
        have : e ∈ leftOf mes seen := by simpa using he
        simp [leftOf] at this
        simpa using this.1
      obtain ⟨hval, hcell⟩ := hv e hem
      have hit1 : w1.heap[w.heap.size]? = some (.mapIter (some m) clock seen clock) := by rcases hw1 with rfl | rfl <;> exact hit
      have hb1 : Below w.heap.size w w1 := by rcases hw1 with rfl | rfl <;> first | exact hb | exact hb.drew
      have hlt1 : w.heap.size < w1.heap.size := (Array.getElem?_eq_some_iff.1 hit1).1
      have hb2 : Below w.heap.size w (ChangeMaps.setBlock w1 w.heap.size (.mapIter (some m) clock (seen.push e.born) clock)) := by
        refine hb1.trans ⟨rfl, rfl, rfl, by simp [ChangeMaps.setBlock], fun k hk => ?_⟩
        simp only [ChangeMaps.setBlock]
        rw [Array.getElem?_setIfInBounds_ne (by omega)]
      have hit2 : (ChangeMaps.setBlock w1 w.heap.size (.mapIter (some m) clock (seen.push e.born) clock)).heap[w.heap.size]? = some (.mapIter (some m) clock (seen.push e.born) clock) := by
        simp [ChangeMaps.setBlock, hlt1]
      have hm2 : (ChangeMaps.setBlock w1 w.heap.size (.mapIter (some m) clock (seen.push e.born) clock)).heap[m]? = some (.map mes clock) := (hb2.block m hml).trans hm
      have hent := run_entry_at (P := Tryz.prog) _ w.heap.size m clock seen mes clock e hit2 hm2 hem hst.2
      obtain ⟨p, c, hcl⟩ := hcell _ hb2
      generalize ChangeMaps.setBlock w1 w.heap.size (.mapIter (some m) clock (seen.push e.born) clock) = w2 at hrun hb2 hit2 hm2 hent hcl
      rw [hval] at hrun hent
      generalize hpe : pp e = ae at hcl hrun hent
      obtain ⟨ab, ao, asp⟩ := ae
      go_wp2
      have hone := sum_one ln e _ (left_nodup mes seen hst.2) he
      rw [← left_push] at hone
      refine ⟨⟨acc + ln e, seen.push e.born, ?_, hit2, hb2, by omega⟩, ?_⟩
      · have : wrap64 ((acc : Int) + (ln e : Int)) = ((acc + ln e : Nat) : Int) := by
          unfold wrap64; omega
        rw [this]
      · simp only [World.rangeLeft, hm2, hit2, hm', hit]
        rw [← Array.length_toList, ← Array.length_toList, left_push]
        exact len_one e _ he

namespace Ab
variable [WX]
theorem keep_below {w w' : World} (h : Below w.heap.size w w') : Keep (fun _ => False) w w' := by
  refine ⟨h.os, h.tape, h.output, h.size, fun b => ?_, fun b hb _ => h.block b hb⟩
  by_cases hb : b < w.heap.size
  · unfold csz
    rw [h.block b hb]
    exact Nat.le_refl _
  · have : csz w b = 0 := by
      unfold csz
      rw [Array.getElem?_eq_none (by omega)]
    omega
theorem grow_sound {I : Nat → Prop} {β : BMap} {get : GetF} {w w' : World} (hs : Sim I β get w) (hk : Keep (fun _ => False) w w') : Sim I β get w' ∧ Step I β get w I β get w' := by
  have hb : ∀ b, b < w.heap.size → w'.heap[b]? = w.heap[b]? := fun b hb => hk.block b hb id
  refine ⟨⟨fun r o hr => ?_, hs.inj, fun b hbI => ⟨Nat.lt_of_lt_of_le (hs.imm b hbI).1 hk.size, (hs.imm b hbI).2⟩, hs.gen, WX.stable (fun _ h => h) (fun b hbI => hb b (hs.imm b hbI).1) hs.wx⟩, ⟨fun _ h => h, fun _ _ h => h, ⟨hk.os, hk.tape, hk.output, hk.size, hk.csz, fun b hb' _ => hb b hb'⟩, fun _ h => .inl h, fun _ h => .inl h⟩⟩
  obtain ⟨p, hp, ho⟩ := hs.obj r o hr
  exact ⟨p, hp, ho.mono (hb _ ho.lt) (fun _ h => h) (fun b hbI => hb b (hs.imm b hbI).1) (fun _ _ h => h) hk.csz⟩
theorem vals1 {vals : Array Value} (h : vals.size = 1) : ∃ v, vals = #[v] := ⟨vals[0], by
  apply Array.ext
  · simp [h]
  · intro i h1 h2
    have : i = 0 := by omega
    subst this
    simp⟩
/-- A function told by a relation. -/
theorem hint_ok {P : Program} {f : FuncId} {R : RelT} (hf : ∃ fn c, P.funcs[f]? = some fn ∧ fn.body = some c)
    (h : ∀ args hp nx r hp' nx', R args hp nx (r, hp', nx') → nx ≤ nx' ∧ (∀ k g o, lkg hp' k g = some o → (∃ g' o', lkg hp k g' = some o') ∨ (nx ≤ k ∧ k < nx')) ∧
      ∀ I β w vals, Sim I β (hget hp) w → FrIn β nx nx' → Args I w β vals args →
        Calls P f vals w fun e w' => ∃ v I' β', e = .returned v ∧ RV I' w' β' v r ∧ Sim I' β' (hget hp') w' ∧ Step I β (hget hp) w I' β' (hget hp') w' ∧ Keeps (fun n => nx ≤ n ∧ n < nx') β β') :
    CallOk P fun g args hp nx => if g = f then hintOf R args hp nx else none := by
  intro g args hp nx r hp' nx' hc
  simp only at hc
  split at hc
  · rename_i hg
    subst hg
    obtain ⟨h1, h2, h3⟩ := h _ _ _ _ _ _ (hintOf_some hc)
    exact ⟨h1, h2, hf, h3⟩
  · cases hc

theorem lkg_of {hp : Hp} {k g : Nat} {o : AO} (h : lk hp k = some (g, o)) : hget hp (.h k g) = some o := by simp [hget, lkg, h]
theorem same_old {hp : Hp} {nx nx' : Nat} (k g : Nat) (o : AO) (h : lkg hp k g = some o) : (∃ g' o', lkg hp k g' = some o') ∨ (nx ≤ k ∧ k < nx') := .inl ⟨g, o, h⟩

/-- The entries of a map. -/
theorem map_entries {I : Nat → Prop} {w : World} {β : BMap} {hp : Hp} {k : Nat} {es : List (AV × AV)} {p : Blk} (hs : Sim I β (hget hp) w) (h : lk hp k = some (0, .mp es)) (hb : β (.h k 0) = some p) :
    ∃ mes clock, w.heap[p.1]? = some (.map mes clock) ∧ mes.size = es.length ∧ stampsOk mes clock ∧ ∀ (j : Nat) (m : MapEntry) (e : AV × AV), mes[j]? = some m → es[j]? = some e → RV I w β m.key e.1 ∧ RV I w β m.val e.2 := by
  obtain ⟨p', hp', ho⟩ := hs.obj _ _ (lkg_of h)
  rw [hb] at hp'; cases hp'
  exact ho

def ppOf (x : MapEntry) : Addr := match x.val with
  | .pointer (some a) => a
  | _ => ⟨0, 0, none⟩
def lnOf (w : World) (x : MapEntry) : Nat := match w.cell? (ppOf x) with
  | some (.slice _ n _) => n
  | _ => 0

theorem used_ok : CallOk Tryz.prog fun g args hp nx => if g = 47 then hintOf RUsed args hp nx else none := by
  refine hint_ok ⟨Tryz.f47, _, Tryz.func47, rfl⟩ fun args hp nx r hp' nx' hR => ?_
  obtain ⟨k, m, q, ws, st, es, ln, rfl, hk, hm, he, hsum, ho⟩ := hR
  simp only [Prod.mk.injEq] at ho
  obtain ⟨rfl, rfl, rfl⟩ := ho
  refine ⟨Nat.le_refl _, same_old, fun I β w vals hs hfr ha => ?_⟩
  obtain ⟨hl, hv⟩ := ha
  obtain ⟨v, rfl⟩ := vals1 hl
  have h0 := hv 0 v _ rfl rfl
  cases h0 with
  | ptr _ _ _ _ b o hb =>
    obtain ⟨p, hp1, c, e, fr, q1, q2, q3, q4⟩ := hs.obj _ _ (lkg_of hk)
    rw [hb] at hp1; cases hp1
    simp only at q1 q2 q4
    obtain ⟨mv, m1, m2, m3⟩ := q4 1 _ rfl
    cases m3 with
    | mp _ _ rr oo hbm =>
      obtain ⟨mes, clock, e1, e2, e3, e4⟩ := map_entries hs hm hbm
      simp only at e1
      have hent : ∀ (j : Nat) (x : MapEntry), mes.toList[j]? = some x → ∃ (e : Bs × Nat) (n : Nat), es[j]? = some e ∧ n = ln e.2 ∧ x.val = .pointer (some (ppOf x)) ∧ lnOf w x = ln e.2 ∧ ∀ w' : World, Below w.heap.size w w' → ∃ p c, w'.cell? (ppOf x) = some (.slice p (lnOf w x) c) := by
        intro j x hx
        have hj : j < es.length := by
          have := (List.getElem?_eq_some_iff.1 hx).1
          simp at this e2; omega
        have hes : (encM es)[j]? = some (.s (ba es[j].1), .ptr es[j].2 0 0) := by simp [encM, hj]
        obtain ⟨_, f2⟩ := e4 j x _ (by simpa using hx) hes
        obtain ⟨fv, ff, g1, g2⟩ := he es[j] (List.getElem_mem _)
        cases hxv : x.val with
        | pointer oa =>
          rw [hxv] at f2
          cases f2 with
          | ptr _ _ _ _ fb fo hfb =>
            obtain ⟨p2, hp2, c2, e22, fr2, r1, r2, r3, r4⟩ := hs.obj _ _ (lkg_of g1)
            rw [hfb] at hp2; cases hp2
            simp only at r1 r2 r4
            obtain ⟨sv, s1, s2, s3⟩ := r4 0 _ rfl
            have hsl : ∃ p c, sv = .slice p (ln es[j].2) c := by
              cases s3 <;> simp only [slLen] at g2 <;> first
                | (cases g2; done)
                | skip
              all_goals
                first
                  | (simp at g2; rw [← g2]; exact ⟨_, _, rfl⟩)
                  | (rename_i hlen _ _ _; simp at g2; rw [← g2, ← hlen]; exact ⟨_, _, rfl⟩)
            obtain ⟨p3, c3, rfl⟩ := hsl
            have hpp : ppOf x = ⟨fb, fo + 0, none⟩ := by simp [ppOf, hxv]
            have hcell : w.cell? (ppOf x) = some (.slice p3 (ln es[j].2) c3) := by rw [hpp, cell_of r1]; exact s1
            have hln : lnOf w x = ln es[j].2 := by simp [lnOf, hcell]
            have hfl : fb < w.heap.size := (Array.getElem?_eq_some_iff.1 r1).1
            refine ⟨es[j], _, by simp [hj], rfl, by rw [hpp], hln, fun w' hw' => ⟨p3, c3, ?_⟩⟩
            rw [hln, hpp, cell_of ((hw'.block fb hfl).trans r1)]
            exact s1
        | _ => rw [hxv] at f2; cases f2
      have hsumeq : mes.toList.map (lnOf w) = es.map fun e => ln e.2 := by
        apply List.ext_getElem?
        intro j
        rw [List.getElem?_map, List.getElem?_map]
        cases hx : mes.toList[j]? with
        | none =>
          have : es[j]? = none := by
            rw [List.getElem?_eq_none_iff] at hx ⊢
            simp at hx e2; omega
          rw [this]; rfl
        | some x =>
          obtain ⟨e, n, a1, a2, a3, a4, _⟩ := hent j x hx
          rw [a1]; simp [a4]
      have hw := used_walk b (o + 0) rr _ mes clock (lnOf w) ppOf w (by rw [cell_of q1]; simpa using m1) e1 e3 (fun x hx => by
        obtain ⟨j, hj⟩ := List.mem_iff_getElem?.1 hx
        obtain ⟨e, n, a1, a2, a3, a4, a5⟩ := hent j x hj
        exact ⟨a3, a5⟩) (by rw [hsumeq]) hsum
      refine hw.mono fun e w' ⟨h1, h2⟩ => ?_
      obtain ⟨g1, g2⟩ := grow_sound hs (keep_below h2)
      exact ⟨_, I, β, h1, .i _ _ _, g1, g2, .refl _ _⟩

theorem clone_ok (L : ∀ (b : Nat) (es : Array MapEntry) (clock : Nat) (w : World), w.heap[b]? = some (.map es clock) →
    Calls Tryz.prog 80 #[.map (some b)] w fun e w' => e = .returned (.map (some w.heap.size)) ∧ w' = w.alloc (.map es clock)) : CallOk Tryz.prog fun g args hp nx => if g = 80 then hintOf RClone args hp nx else none := by
  refine hint_ok ⟨Tryz.f80, _, Tryz.func80, rfl⟩ fun args hp nx r hp' nx' hR => ?_
  obtain ⟨m, es, rfl, hm, ho⟩ := hR
  simp only [Prod.mk.injEq] at ho
  obtain ⟨rfl, rfl, rfl⟩ := ho
  refine ⟨by omega, fun k g o hk => ?_, fun I β w vals hs hfr ha => ?_⟩
  · by_cases hkn : k = nx
    · exact .inr ⟨by omega, by omega⟩
    · unfold lkg at hk
      rw [lk_set, if_neg hkn] at hk
      exact .inl ⟨g, o, hk⟩
  · obtain ⟨hl, hv⟩ := ha
    obtain ⟨v, rfl⟩ := vals1 hl
    have h0 := hv 0 v _ rfl rfl
    cases h0 with
    | mp _ _ rr oo hbm =>
      obtain ⟨mes, clock, e1, e2, e3, e4⟩ := map_entries hs hm hbm
      simp only at e1
      refine (L rr mes clock w e1).mono fun e w' ⟨h1, h2⟩ => ?_
      subst h2
      obtain ⟨hf1, hf2⟩ := hfr nx (Nat.le_refl _) (by omega)
      have hG : hget (up hp nx (0, .mp es)) = wrG (hget hp) (.h nx 0, some (.mp es)) := by
        funext r
        cases r with
        | l d n => simp [hget, wrG, Ref.key]
        | h k g =>
          simp only [hget, lkg, wrG, Ref.key, lk_set, Prod.mk.injEq, true_and]
          by_cases hk : k = nx
          · subst hk
            by_cases hg : g = 0
            · subst hg; simp
            · have h1 : ¬ 0 = g := fun h => hg h.symm
              simp [h1, hg]
          · have h1 : ¬ nx = k := fun h => hk h.symm
            simp [hk, h1]
      obtain ⟨g1, g2⟩ := hs.new (w' := w.alloc (.map mes clock)) (r := .h nx 0) (o' := .mp es) (off := 0) (x := .map mes clock) rfl rfl rfl rfl (hf1 0) (fun k g e g' _ => by cases e; exact hf1 g') (fun hmn =>
        ⟨mes, clock, (heap_push (w := w) (w' := w.alloc (.map mes clock)) (x := .map mes clock) rfl).2.1, e2, e3, fun j m e hm he => ⟨hmn _ _ (e4 j m e hm he).1, hmn _ _ (e4 j m e hm he).2⟩⟩)
      rw [← hG] at g1 g2
      refine ⟨_, I, _, h1, .mp _ nx _ _ (ext_self _ _ _), g1, g2, fun n hn hno => ⟨fun g => ?_, fun d => ?_⟩⟩
      · rw [ext_ne _ _ (by intro e; cases e; exact hno ⟨by omega, by omega⟩)]
        exact hn.1 g
      · rw [ext_ne _ _ (by intro e; cases e)]
        exact hn.2 d
end Ab
end Go.Proofs.YtmbbnoipoifhhaaGreatDoor

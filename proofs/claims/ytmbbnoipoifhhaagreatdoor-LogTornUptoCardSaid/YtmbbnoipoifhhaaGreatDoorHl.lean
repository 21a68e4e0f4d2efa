/-
  DERIVED. A disk's names, rising: that the program does so (maps.Keys, slices.Sorted by the shelf's contracts).
  Conditions: none.
-/
import Derived.Test.YtmbbnoipoifhhaaGreatDoorHh
import Derived.Test.YtmbbnoipoifhhaaGreatDoorLays
set_option linter.all false
set_option maxHeartbeats 4000000
namespace Go.Proofs.YtmbbnoipoifhhaaGreatDoor
open Go.RowKit Go.Maps Go.Sort Go.Shelf
open Go.WideElems (Fit rd rg pl)
set_option maxRecDepth 100000
set_option maxHeartbeats 4000000
set_option linter.all false

theorem sortsT (m : Nat) : AnyZ.SortsIn Tryz.prog Tryz.laysSorted_ren Fence.wide m :=
  ⟨fun blk off cap ss W hH hblk hsz => callsIn_wide.2 (AnyM.slices_Sort_string Tryz.laysSort blk off cap ss W hH hblk hsz),
   fun p cap W => callsIn_wide.2 (AnyM.slices_Sort_string_none Tryz.laysSort p cap W)⟩

theorem list_walk {H : Type} (kb ko b nn : Nat) (D0 : DataW H) (R : Value → Option (DataW H × List MemPlace)) (w : World) (hl : w.cell? ⟨kb, ko + 1, none⟩ = some (.map (some b))) (hown : w.ownsMap Tryz.prog 9 R b nn D0) (hmax : Maps.size D0 ≤ maxLen) (hbytes : Maps.size D0 * 16 ≤ 140737488355328) :
    Calls Tryz.prog 49 #[.pointer (some ⟨kb, ko, none⟩)] w fun e w' => ∃ (v : Value) (ss : List (List UInt8)), e = .returned v ∧ ss.Perm (strKeys D0) ∧
      w'.ownsRow w.heap.size 9 1 v ss.length ((ss.mergeSort (fun x y => decide (x ≤ y))).map encStr) ∧ (v = .slice none 0 0 ↔ ss = []) ∧ Below w.heap.size w w' := by
  refine (callsIn_wide (n := 6)).1 ?_
  have hbl := hown.lt
  have hseq : SeqGives Fence.wide 2 Tryz.prog 123 #[.pointer (some ⟨w.heap.size, 0, none⟩)] encStr (fun ss => ss.Perm (strKeys D0)) (Maps.size D0) (w.alloc (.cells #[.map (some b)] 85)) :=
    AnyZ.keys_gives (ρ := Tryz.laysKeys_ren) { Tryz.laysKeys with } Fence.wide _ trivial rfl (by omega) w.heap.size b nn D0 _ (by simp) (by simp) (by
      obtain ⟨es, clock, hb, Ft, hs, hD⟩ := hown
      exact ⟨es, clock, (Below.heap_alloc _ _ b hbl).trans hb, Ft, hs, hD⟩)
  have cK : ∀ mb W, CallsIn Fence.wide 5 Tryz.prog 82 #[.map mb] W fun e w' => e = .returned (.func (.func 123) #[] #[.pointer (some ⟨W.heap.size, 0, none⟩)]) ∧ w' = W.alloc (.cells #[.map mb] 85) := fun mb W => AnyZ.keys_in Tryz.laysKeys Fence.wide 5 trivial rfl mb W
  have cS := AnyZ.sorted_in Tryz.laysSorted Fence.wide 5 trivial trivial trivial trivial rfl (by omega) (sortsT _) (enters_of Tryz.func122 (by kernel_rfl) rfl) 123 #[.pointer (some ⟨w.heap.size, 0, none⟩)] trivial (enters_of Tryz.func123 (by kernel_rfl) rfl) _ _ hmax hbytes _ hseq
  change CallsIn _ _ Tryz.prog 81 _ _ _ at cS
  have hfK : Fence.wide.fn 82 := trivial
  have hfS : Fence.wide.fn 81 := trivial
  refine callsIn_of_wp Tryz.func49 rfl trivial ?_ rfl
  simp only [Tryz.ntmps49, List.size_toArray, List.length_cons, List.length_nil, Nat.reduceAdd, Nat.reduceSub, Array.replicate_succ, Array.replicate_zero, List.push_toArray, List.append_toArray, List.nil_append, List.cons_append]
  gi_wp2_with (first
    | (gi_at_call 82; refine (cK _ _).mono ?_; rintro e w' ⟨rfl, rfl⟩)
    | (gi_at_call 81; refine cS.mono ?_; rintro e w' ⟨v, ss, rfl, hS, hrow, hnil, hb⟩))
  go_ret
  exact ⟨v, ss, rfl, hS, ownsRow_base_a hrow (by simp), hnil, ((Below.refl _ w).alloc (Nat.le_refl _) _).trans (hb.mono (by simp))⟩

end Go.Proofs.YtmbbnoipoifhhaaGreatDoor
namespace Go.Proofs.YtmbbnoipoifhhaaGreatDoor
open Go.RowKit Go.Maps Go.Sort Go.Shelf
set_option maxRecDepth 100000
set_option maxHeartbeats 4000000
set_option linter.all false
namespace Ab
variable [WX]

theorem ms_perm {a b : List Bs} (h : a.Perm b) : (a.mergeSort fun x y => decide (x ≤ y)) = b.mergeSort fun x y => decide (x ≤ y) := by
  have tr : ∀ (x y z : Bs), decide (x ≤ y) = true → decide (y ≤ z) = true → decide (x ≤ z) = true := fun x y z h1 h2 => by
    simp only [decide_eq_true_eq] at *
    exact List.le_trans h1 h2
  have to : ∀ (x y : Bs), (decide (x ≤ y) || decide (y ≤ x)) = true := fun x y => by
    simp only [Bool.or_eq_true, decide_eq_true_eq]
    exact List.le_total x y
  refine List.Perm.eq_of_pairwise (le := fun x y => decide (x ≤ y) = true) ?_ (List.pairwise_mergeSort tr to a) (List.pairwise_mergeSort tr to b) ((List.mergeSort_perm a _).trans (h.trans (List.mergeSort_perm b _).symm))
  intro x y _ _ h1 h2
  simp only [decide_eq_true_eq] at h1 h2
  exact List.le_antisymm h1 h2

theorem list_ok : CallOk Tryz.prog fun g args hp nx => if g = 49 then hintOf RList args hp nx else none := by
  refine hint_ok ⟨Tryz.f49, _, Tryz.func49, rfl⟩ fun args hp nx r hp' nx' hR => ?_
  obtain ⟨k, m, q, ws, st, es, rfl, hk, hm, hnd, hlen, hkl, ho⟩ := hR
  have hnx : nx ≤ nx' := by
    split at ho <;> (simp only [Prod.mk.injEq] at ho; omega)
  refine ⟨hnx, fun k g o hk2 => ?_, fun I β w vals hs hfr ha => ?_⟩
  · split at ho
    · simp only [Prod.mk.injEq] at ho
      obtain ⟨rfl, rfl, rfl⟩ := ho
      exact .inl ⟨g, o, hk2⟩
    · simp only [Prod.mk.injEq] at ho
      obtain ⟨rfl, rfl, rfl⟩ := ho
      by_cases hkn : k = nx
      · exact .inr ⟨by omega, by omega⟩
      · unfold lkg at hk2
        rw [lk_set, if_neg hkn] at hk2
        exact .inl ⟨g, o, hk2⟩
  obtain ⟨hl, hv⟩ := ha
  obtain ⟨v, rfl⟩ := vals1 hl
  have h0 := hv 0 v _ rfl rfl
  cases h0 with
  | ptr _ _ _ _ b o hb =>
    obtain ⟨p, hp1, c, e, fr, q1, q2, q3, q4⟩ := hs.obj _ _ (lkg_of hk)
    rw [hb] at hp1; cases hp1
    simp only at q1 q2 q4
    obtain ⟨mv, m1, m2, m3⟩ := q4 1 _ rfl
    cases m3 with
    | mp _ _ rr oo hbm =>
      obtain ⟨mes, clock, e1, e2, e3, e4⟩ := map_entries hs hm hbm
      simp only at e1
      have hsz : mes.size = es.length := by simpa [encM] using e2
      let R : Value → Option (DataW Unit × List MemPlace) := fun _ => some (.nil, [])
      have hkey : ∀ (j : Nat) (x : MapEntry), mes.toList[j]? = some x → ∃ e : Bs × Nat, es[j]? = some e ∧ x.key = .string (ba e.1) := by
        intro j x hx
        have hj : j < es.length := by
          have := (List.getElem?_eq_some_iff.1 hx).1
          simp at this; omega
        have hes : (encM es)[j]? = some (.s (ba es[j].1), .ptr es[j].2 0 0) := by simp [encM, hj]
        obtain ⟨f1, _⟩ := e4 j x _ (by simpa using hx) hes
        refine ⟨es[j], by simp [hj], ?_⟩
        generalize x.key = kk at f1
        cases f1; rfl
      have hrd : ∀ (j : Nat) (x : MapEntry), mes.toList[j]? = some x → ∃ e : Bs × Nat, es[j]? = some e ∧ Go.WideElems.rd Tryz.prog 9 R x = some (.string e.1, .nil) := by
        intro j x hx
        obtain ⟨e, he, hxk⟩ := hkey j x hx
        refine ⟨e, he, ?_⟩
        have hle := hkl e (List.mem_of_getElem? he)
        have hml : (ba e.1).size ≤ maxLen := by
          show e.1.toArray.size ≤ 2 ^ 63 - 1
          simp; omega
        have : keyOf Tryz.prog 9 x.key = some (.string e.1) := by
          rw [hxk]
          simp only [keyOf, Tryz.underlying9, mapKey, if_pos hml]
          simp [ba]
        simp [Go.WideElems.rd, this, R]
      have hkeys : mes.toList.map (·.key) = es.map fun e => Value.string (ba e.1) := by
        apply List.ext_getElem?
        intro j
        rw [List.getElem?_map, List.getElem?_map]
        cases hx : mes.toList[j]? with
        | none =>
          have : es[j]? = none := by
            rw [List.getElem?_eq_none_iff] at hx ⊢
            simp at hx; omega
          rw [this]; rfl
        | some x =>
          obtain ⟨e, a1, a2⟩ := hkey j x hx
          rw [a1]; simp [a2]
      have hrg : mes.toList.map (Go.WideElems.rg Tryz.prog 9 R) = es.map fun e => (Lit.string e.1, DataW.nil) := by
        apply List.ext_getElem?
        intro j
        rw [List.getElem?_map, List.getElem?_map]
        cases hx : mes.toList[j]? with
        | none =>
          have : es[j]? = none := by
            rw [List.getElem?_eq_none_iff] at hx ⊢
            simp at hx; omega
          rw [this]; rfl
        | some x =>
          obtain ⟨e, a1, a2⟩ := hrd j x hx
          rw [a1]; simp [Go.WideElems.rg, a2]
      have hfit : Go.WideElems.Fit Tryz.prog 9 R mes clock := by
        refine ⟨?_, ⟨e3.1, e3.2, ?_⟩, fun x hx => ?_⟩
        · show mes.size ≤ 2 ^ 63 - 1
          omega
        · rw [hkeys, show (es.map fun e => Value.string (ba e.1)) = (es.map (·.1)).map fun s => Value.string (ba s) by simp]
          refine List.Pairwise.map _ ?_ hnd
          intro a b hab he
          injection he with he
          exact hab (ba_inj he)
        · obtain ⟨j, hj⟩ := List.mem_iff_getElem?.1 hx
          obtain ⟨e, _, h2⟩ := hrd j x hj
          exact ⟨_, h2⟩
      have hperm := Go.WideShapes.sorted_perm (mes.toList.map (Go.WideElems.rg Tryz.prog 9 R))
      generalize hD : DataW.map ((mes.toList.map (Go.WideElems.rg Tryz.prog 9 R)).foldr DataW.insert []) = D0
      have hsize : Maps.size D0 = es.length := by
        subst hD
        simp only [Maps.size]
        rw [hperm.length_eq]; simp [hsz]
      have hstr : (strKeys D0).Perm (es.map (·.1)) := by
        subst hD
        simp only [strKeys]
        refine (hperm.map _).trans ?_
        rw [hrg]
        simp [strOf, Function.comp_def]
      have hmaxl : maxLen = 9223372036854775807 := rfl
      refine (list_walk (H := Unit) b (o + 0) rr es.length D0 R w (by rw [cell_of q1]; simpa using m1) ⟨mes, clock, e1, hfit, by omega, hD.symm⟩ (by omega) (by omega)).mono fun e w' ⟨v, ss, h1, h2, h3, h4, h5⟩ => ?_
      have hss := h2.trans hstr
      have hsl : ss.length = es.length := by rw [hss.length_eq]; simp
      have hkb := keep_below h5
      by_cases hes : es = []
      · rw [if_pos hes] at ho
        simp only [Prod.mk.injEq] at ho
        obtain ⟨rfl, rfl, rfl⟩ := ho
        have hss0 : ss = [] := List.eq_nil_of_length_eq_zero (by rw [hsl, hes]; rfl)
        obtain ⟨g1, g2⟩ := grow_sound hs hkb
        exact ⟨_, I, β, h1, by rw [h4.2 hss0]; exact .vsn _ _, g1, g2, .refl _ _⟩
      · rw [if_neg hes] at ho
        simp only [Prod.mk.injEq] at ho
        obtain ⟨rfl, rfl, rfl⟩ := ho
        obtain ⟨hr1, hr2 | ⟨g, cap, cur, hr2, hr3, hr4, hr5, hr6, hr7, hr8⟩⟩ := h3
        · exact absurd (List.eq_nil_of_length_eq_zero (by omega)) hes
        obtain ⟨hf1, hf2⟩ := hfr nx (Nat.le_refl _) (by omega)
        rw [ms_perm hss] at hr8
        generalize hxs : ((es.map (·.1)).mergeSort fun x y => decide (x ≤ y)) = xs at hr8 ⊢
        have hxl : xs.length = es.length := by rw [← hxs]; simp
        have hG : hget (up hp nx (0, .arr 1 (xs.map fun x => [.s (ba x)]))) = wrG (hget hp) (.h nx 0, some (.arr 1 (xs.map fun x => [.s (ba x)]))) := by
          funext r
          cases r with
          | l d n => simp [hget, wrG, Ref.key]
          | h k g =>
            simp only [hget, lkg, wrG, Ref.key, lk_set, Prod.mk.injEq, true_and]
            by_cases hk : k = nx
            · subst hk
              by_cases hg : g = 0
              · subst hg; simp
              · have h1 : ¬ 0 = g := fun h => hg h.symm
                simp [h1, hg]
            · have h1 : ¬ nx = k := fun h => hk h.symm
              simp [hk, h1]
        have hput := hs.put (w' := w') (β' := ext β (.h nx 0) (g, 0)) (r := .h nx 0) (o' := .arr 1 (xs.map fun x => [.s (ba x)])) (p := (g, 0)) (fun q hq => ext_ne _ _ hq) (.inl (hf1 0)) (ext_self _ _ _)
          ⟨by omega, fun r hr => by simp at hr; obtain ⟨_, _, rfl⟩ := hr; rfl, cur, 9, (0, 0), hr4, by simp; omega, .inl rfl, fun i j r x hr hx => by
            simp only [List.getElem?_map, Option.map_eq_some_iff] at hr
            obtain ⟨u, hu, rfl⟩ := hr
            cases j with
            | succ j => simp at hx
            | zero =>
              simp at hx; subst hx
              refine ⟨.string (ba u), ?_, rfl, .s _ _⟩
              have hi : i < es.length := by rw [← hxl]; exact (List.getElem?_eq_some_iff.1 hu).1
              have : (cur.toList.take (ss.length * 1))[i]? = some (encStr u) := by rw [hr8]; simp [hu]
              rw [List.getElem?_take_of_lt (by omega)] at this
              have h9 : encStr u = .string (ba u) := rfl
              rw [h9] at this
              simpa using this⟩
          h5.os h5.tape h5.output h5.size hkb.csz (fun b hb _ => h5.block b hb) (.inr hr3) (fun k g' e g'' _ => by
            cases e
            rw [ext_ne _ _ (by intro e; cases e; omega)]
            exact hf1 g'')
        rw [← hG] at hput
        refine ⟨_, I, _, h1, ?_, hput.1, hput.2, fun n hn hno => ⟨fun g => ?_, fun d => ?_⟩⟩
        · rw [hr2, hsl]
          exact RV.rs (I := I) (w := w') _ nx 0 0 es.length 1 g 0 cap _ (ext_self _ _ _) (by omega) (by simp [csz, hr4]; omega) (.inr rfl)
        · rw [ext_ne _ _ (by intro e; cases e; exact hno ⟨by omega, by omega⟩)]
          exact hn.1 g
        · rw [ext_ne _ _ (by intro e; cases e)]
          exact hn.2 d
end Ab
end Go.Proofs.YtmbbnoipoifhhaaGreatDoor
namespace Go.Proofs.YtmbbnoipoifhhaaGreatDoor
namespace Ab
variable [WX]
theorem hint_all (f : FuncId) (h : List AV → Hp → Nat → Option (AV × Hp × Nat)) (hh : hint04 f = some h) : CallOk Tryz.prog fun g args hp nx => if g = f then h args hp nx else none := by
  unfold hint04 at hh
  split at hh
  · cases hh; exact used_ok
  · cases hh; exact clone_ok fun b es clock w hb => AnyW.maps_Clone Tryz.laysClone b es clock w hb
  · cases hh; exact list_ok
  · cases hh
end Ab
end Go.Proofs.YtmbbnoipoifhhaaGreatDoor

/-
  DERIVED. WHAT THE MODEL's OPERATIONS COME TO WHERE THE ABSTRACT ONES COME TO SOMETHING: loads, stores.
  Conditions: none of a program's.
-/
import Derived.Test.YtidoflgcblglbaaDoorAbA
import Derived.IntWalk
import Derived.Laws.StructEq
set_option linter.all false
set_option maxHeartbeats 4000000
namespace Go.Proofs.YtidoflgcblglbaaDoor
namespace Ab
variable [WX]

section
variable {P : Program}

theorem run_und {t : TypeId} {d : TypeDesc} (h : P.underlying t = some d) (w : World) : (Go.underlying t).run P w = .ok d w := by
  simp [Go.underlying, h]

theorem run_szOf {t : TypeId} {n : Nat} (h : szOf P t = some n) (w : World) : (Go.sizeOf t).run P w = .ok n w := by
  unfold szOf at h
  cases hi : P.info? t with
  | none => simp [hi] at h
  | some i => simp [hi] at h; simp [Go.sizeOf, Go.typeInfo, hi, h]

theorem run_aggD {t : TypeId} {d : TypeDesc} (h : P.underlying t = some d) (w : World) : (Go.isAgg t).run P w = .ok (aggD d) w := by
  simp only [Go.isAgg, Sem.run_bind, run_und h, Result.andThen_ok]
  cases d <;> rfl

theorem addr_add (b o n : Nat) : (⟨b, o, none⟩ : Addr).add n = ⟨b, o + n, none⟩ := by unfold Addr.add; split <;> simp_all

/-- Cells of a block that a list of abstract values tells. -/
def CellsAt (I : Nat → Prop) (w : World) (β : BMap) (b o : Nat) (cs : List AV) : Prop :=
  ∀ j x, cs[j]? = some x → ∃ v, w.cell? ⟨b, o + j, none⟩ = some v ∧ cellV v = true ∧ RV I w β v x

theorem CellsAt.drop {I : Nat → Prop} {w : World} {β : BMap} {b o : Nat} {cs : List AV} (h : CellsAt I w β b o cs) (k : Nat) : CellsAt I w β b (o + k) (cs.drop k) := by
  intro j x hx
  rw [List.getElem?_drop] at hx
  obtain ⟨v, h1, h2, h3⟩ := h _ _ hx
  exact ⟨v, by rw [Nat.add_assoc]; exact h1, h2, h3⟩

theorem CellsAt.take {I : Nat → Prop} {w : World} {β : BMap} {b o : Nat} {cs : List AV} (h : CellsAt I w β b o cs) (k : Nat) : CellsAt I w β b o (cs.take k) := by
  intro j x hx
  rw [List.getElem?_take] at hx
  split at hx
  · exact h _ _ hx
  · cases hx

/-- All cells together. -/
theorem CellsAt.all {I : Nat → Prop} {w : World} {β : BMap} {b o : Nat} {cs : List AV} (h : CellsAt I w β b o cs) :
    ∃ vs : List Value, vs.length = cs.length ∧ (∀ (j : Nat) (v : Value), vs[j]? = some v → w.cell? ⟨b, o + j, none⟩ = some v) ∧ (∀ v ∈ vs, cellV v = true) ∧
      ∀ (j : Nat) (v : Value) (x : AV), vs[j]? = some v → cs[j]? = some x → RV I w β v x := by
  induction cs generalizing o with
  | nil => exact ⟨[], rfl, by simp, by simp, by simp⟩
  | cons c r ih =>
    obtain ⟨v, h1, h2, h3⟩ := h 0 c rfl
    obtain ⟨vs, a1, a2, a3, a4⟩ := ih (o := o + 1) (fun j x hx => by
      obtain ⟨v, b1, b2, b3⟩ := h (j + 1) x (by simpa using hx)
      exact ⟨v, by rwa [show o + 1 + j = o + (j + 1) by omega], b2, b3⟩)
    refine ⟨v :: vs, by simp [a1], fun j u hu => ?_, fun u hu => ?_, fun j u x hu hx => ?_⟩
    · cases j with
      | zero => simp at hu; subst hu; exact h1
      | succ j => have := a2 j u (by simpa using hu); rwa [show o + 1 + j = o + (j + 1) by omega] at this
    · rcases List.mem_cons.1 hu with rfl | hu
      · exact h2
      · exact a3 _ hu
    · cases j with
      | zero => simp at hu hx; subst hu; subst hx; exact h3
      | succ j => exact a4 j u x (by simpa using hu) (by simpa using hx)

/-- A load. -/
theorem load_row {I : Nat → Prop} {w : World} {β : BMap} {b o p : Nat} {cs : List AV} {t : TypeId} {y : AV} (h : CellsAt I w β b o cs) (hl : ldA P t cs p = some y) :
    ∃ v, (loadVar t ⟨b, o + p, none⟩).run P w = .ok v w ∧ RV I w β v y := by
  unfold ldA at hl
  cases hu : P.underlying t with
  | none => simp [hu] at hl
  | some d =>
    simp only [hu] at hl
    by_cases hd : aggD d = true
    · simp only [hd, if_true] at hl
      cases hz : szOf P t with
      | none => simp [hz] at hl
      | some n =>
        simp only [hz] at hl
        split at hl
        · rename_i hle
          cases hl
          obtain ⟨vs, a1, a2, a3, a4⟩ := CellsAt.all ((h.drop p).take n)
          have hn : vs.length = n := by rw [a1]; simp; omega
          refine ⟨.agg vs.toArray, ?_, ?_⟩
          · simp only [loadVar, Sem.run_bind, run_aggD hu, Result.andThen_ok, hd, if_true, run_szOf hz, Sem.run_pure]
            rw [← hn, run_loadCells_list w ⟨b, o + p, none⟩ vs (fun j v hv => by rw [addr_add]; exact a2 j v hv)]
            rfl
          · exact .agg _ _ _ (by simpa using a1) (fun j v hv => a3 v (by simp at hv; exact List.mem_of_getElem? hv)) fun j v c hv hc => a4 j v c (by simpa using hv) hc
        · cases hl
    · have hd' : aggD d = false := by simpa using hd
      simp only [hd', Bool.false_eq_true, if_false] at hl
      obtain ⟨v, h1, _, h3⟩ := h _ _ hl
      exact ⟨v, by simp only [loadVar, Sem.run_bind, run_aggD hu, Result.andThen_ok, hd', Bool.false_eq_true, if_false, run_load, h1], h3⟩

theorem cell_of {w : World} {b o : Nat} {c : Array Value} {e : TypeId} {fr : Nat × Nat} (h : w.heap[b]? = some (.cells c e fr)) : w.cell? ⟨b, o, none⟩ = c[o]? := by
  simp [World.cell?, h]

theorem OR.cellsAt {I : Nat → Prop} {w : World} {β : BMap} {p : Blk} {cs : List AV} (h : OR I w β p (.cells cs)) : CellsAt I w β p.1 p.2 cs := by
  obtain ⟨c, e, fr, h1, _, _, h4⟩ := h
  intro j x hx
  obtain ⟨v, a, b, r⟩ := h4 j x hx
  exact ⟨v, by rw [cell_of h1]; exact a, b, r⟩

theorem OR.rowAt {I : Nat → Prop} {w : World} {β : BMap} {p : Blk} {sz : Nat} {rows : List (List AV)} (h : OR I w β p (.arr sz rows)) {i : Nat} {r : List AV} (hr : rows[i]? = some r) :
    CellsAt I w β p.1 (p.2 + i * sz) r := by
  obtain ⟨_, _, c, e, fr, h1, _, _, h4⟩ := h
  intro j x hx
  obtain ⟨v, a, b, q⟩ := h4 i j r x hr hx
  exact ⟨v, by rw [cell_of h1]; exact a, b, q⟩

theorem loadA_sound {I : Nat → Prop} {w : World} {β : BMap} {get : GetF} {t : TypeId} {a : AV} {x : Value} {y : AV} (hs : Sim I β get w) (ha : RV I w β x a) (hl : loadA P get t a = some y) :
    ∃ v, (Instr.loadAt t x).run P w = .ok v w ∧ RV I w β v y := by
  cases a with
  | lp d n o =>
    cases ha with
    | lp _ _ _ _ b o' hb =>
      simp only [loadA] at hl
      split at hl
      · rename_i cs hg
        obtain ⟨p, hp, ho⟩ := hs.obj _ _ hg
        rw [hb] at hp; cases hp
        obtain ⟨v, h1, h2⟩ := load_row (P := P) ho.cellsAt hl
        exact ⟨v, by simp only [Instr.loadAt, Instr.sureAddr, Sem.run_bind, Sem.run_pure, Result.andThen_ok]; exact h1, h2⟩
      · cases hl
  | ptr k g o =>
    cases ha with
    | ptr _ _ _ _ b o' hb =>
      simp only [loadA] at hl
      split at hl
      · rename_i cs hg
        obtain ⟨p, hp, ho⟩ := hs.obj _ _ hg
        rw [hb] at hp; cases hp
        obtain ⟨v, h1, h2⟩ := load_row (P := P) ho.cellsAt hl
        exact ⟨v, by simp only [Instr.loadAt, Instr.sureAddr, Sem.run_bind, Sem.run_pure, Result.andThen_ok]; exact h1, h2⟩
      · cases hl
  | pe k g i o sz =>
    cases ha with
    | pe _ _ _ _ _ _ b o' hb =>
      simp only [loadA] at hl
      split at hl
      · rename_i sz' rows hg
        split at hl
        · rename_i he; subst he
          split at hl
          · rename_i r hr
            obtain ⟨p, hp, ho⟩ := hs.obj _ _ hg
            rw [hb] at hp; cases hp
            obtain ⟨v, h1, h2⟩ := load_row (P := P) (ho.rowAt hr) hl
            exact ⟨v, by simp only [Instr.loadAt, Instr.sureAddr, Sem.run_bind, Sem.run_pure, Result.andThen_ok]; exact h1, h2⟩
          · cases hl
        · cases hl
      · cases hl
  | vp cs =>
    cases ha with
    | vp _ b o _ f hb hc h =>
      obtain ⟨v, h1, h2⟩ := load_row (P := P) (b := b) (o := o) (p := 0) (cs := cs) (I := I) (w := w) (β := β) (fun j x hx =>
        ⟨f j, (hc j x hx).1, (hc j x hx).2, (h j x hx).mono (fun _ h => h) (fun _ _ => rfl) (fun _ _ e => by cases e) fun _ => Nat.le_refl _⟩) hl
      exact ⟨v, by simp only [Instr.loadAt, Instr.sureAddr, Sem.run_bind, Sem.run_pure, Result.andThen_ok]; exact h1, h2⟩
  | _ => simp [loadA] at hl

end
end Ab
end Go.Proofs.YtidoflgcblglbaaDoor

/-
  DERIVED. STORES AND NEW OBJECTS: how the relation goes on where one object is written or laid.
  Conditions: none of a program's.
-/
namespace Go.Proofs.YtidoflgcblglbaaDoor
namespace Ab
variable [WX]

/-- The abstract heap behind one write. -/
def wrG (get : GetF) (x : Wr) : GetF := fun r => if r.key = x.1.key then (if r = x.1 then x.2 else none) else get r

theorem lk_up {α : Type} (l : List (Nat × α)) (k : Nat) (x : α) (j : Nat) : lk (up l k x) j = if j = k then some x else lk l j := by
  induction l with
  | nil => simp only [up, lk]; split <;> split <;> simp_all
  | cons a r ih =>
    obtain ⟨i, y⟩ := a
    simp only [up]
    by_cases h : i = k
    · subst h
      simp only [if_true, lk]
      by_cases h2 : i = j
      · simp [h2]
      · have h3 : ¬ j = i := fun e => h2 e.symm
        simp [h2, h3]
    · simp only [h, if_false, lk, ih]
      by_cases h2 : i = j
      · subst h2; simp [h]
      · simp [h2]

theorem lk_rm {α : Type} (l : List (Nat × α)) (k j : Nat) : lk (rm l k) j = if j = k then none else lk l j := by
  induction l with
  | nil => simp [rm, lk]
  | cons a r ih =>
    obtain ⟨i, y⟩ := a
    simp only [rm]
    by_cases h : i = k
    · subst h
      simp only [if_true, ih, lk]
      by_cases h2 : j = i
      · simp [h2]
      · have h3 : ¬ i = j := fun e => h2 e.symm
        simp [h2, h3]
    · simp only [h, if_false, lk, ih]
      by_cases h2 : i = j
      · subst h2; simp [h]
      · simp [h2]

theorem get_wr1 (st : St) (x : Wr) : (st.wr1 x).get = wrG st.get x := by
  funext r
  obtain ⟨q, o⟩ := x
  cases q with
  | l d n =>
    cases o with
    | some o =>
      cases r with
      | l d' n' =>
        simp only [St.wr1, St.get, lkg, lk_up, wrG, Ref.key]
        by_cases h : d' = d
        · subst h
          by_cases h2 : n = n'
          · subst h2; simp
          · have : ¬ n' = n := fun e => h2 e.symm
            simp [h2, this]
        · simp [h]
      | h k g => simp [St.wr1, St.get, wrG, Ref.key]
    | none =>
      cases r with
      | l d' n' =>
        simp only [St.wr1, St.get, lkg, lk_rm, wrG, Ref.key]
        by_cases h : d' = d
        · subst h; simp
        · simp [h]
      | h k g => simp [St.wr1, St.get, wrG, Ref.key]
  | h k g =>
    cases o with
    | some o =>
      cases r with
      | h k' g' =>
        simp only [St.wr1, St.get, lkg, lk_up, wrG, Ref.key]
        by_cases h : k' = k
        · subst h
          by_cases h2 : g = g'
          · subst h2; simp
          · have : ¬ g' = g := fun e => h2 e.symm
            simp [h2, this]
        · simp [h]
      | l k g => simp [St.wr1, St.get, wrG, Ref.key]
    | none =>
      cases r with
      | h k' g' =>
        simp only [St.wr1, St.get, lkg, lk_rm, wrG, Ref.key]
        by_cases h : k' = k
        · subst h; simp
        · simp [h]
      | l k g => simp [St.wr1, St.get, wrG, Ref.key]

theorem OR.lt {I : Nat → Prop} {w : World} {β : BMap} {p : Blk} {o : AO} (h : OR I w β p o) : p.1 < w.heap.size := by
  have key : ∀ x : Obj, w.heap[p.1]? = some x → p.1 < w.heap.size := fun x hx => (Array.getElem?_eq_some_iff.1 hx).1
  cases o with
  | cells cs => obtain ⟨c, e, fr, h1, _⟩ := h; exact key _ h1
  | arr sz rows => obtain ⟨_, _, c, e, fr, h1, _⟩ := h; exact key _ h1
  | mp es => obtain ⟨_, _, h1, _⟩ := h; exact key _ h1
  | sit s pos => exact key _ h.2

/-- One object written, or laid anew. -/
theorem Sim.put {I : Nat → Prop} {β β' : BMap} {get : GetF} {w w' : World} (hs : Sim I β get w) {r : Ref} {o' : AO} {p : Blk}
    (hβ : ∀ q, q ≠ r → β' q = β q) (hr : β r = none ∨ β r = some p) (hp : β' r = some p) (ho : OR I w' β' p o')
    (hos : w'.os = w.os) (htape : w'.tape = w.tape) (hout : w'.output = w.output) (hsz : w.heap.size ≤ w'.heap.size) (hcsz : ∀ b, csz w b ≤ csz w' b)
    (hblk : ∀ b, b < w.heap.size → b ≠ p.1 → w'.heap[b]? = w.heap[b]?)
    (hown : (∃ r0 o0 p0, get r0 = some o0 ∧ β r0 = some p0 ∧ p0.1 = p.1 ∧ r0.key = r.key) ∨ w.heap.size ≤ p.1)
    (hgen : ∀ k g, r = .h k g → ∀ g', g < g' → β' (.h k g') = none) :
    Sim I β' (wrG get (r, some o')) w' ∧ Step I β get w I β' (wrG get (r, some o')) w' := by
  have hmono : ∀ q x, β q = some x → β' q = some x := fun q x hq => by
    by_cases e : q = r
    · subst e
      rcases hr with h | h
      · rw [h] at hq; cases hq
      · rw [h] at hq; cases hq; exact hp
    · rw [hβ q e]; exact hq
  have hkeep : Keep (Own get β) w w' := by
    refine ⟨hos, htape, hout, hsz, hcsz, fun b hb hn => hblk b hb fun e => ?_⟩
    rcases hown with ⟨r0, o0, p0, h1, h2, h3, _⟩ | h
    · exact hn ⟨r0, o0, p0, h1, h2, h3.trans e.symm⟩
    · omega
  have himm : ∀ b, I b → w'.heap[b]? = w.heap[b]? := fun b hb => hkeep.block b (hs.imm b hb).1 (hs.imm b hb).2
  -- of another key: its block is another one
  have hother : ∀ q o x, get q = some o → q.key ≠ r.key → β q = some x → x.1 ≠ p.1 ∧ x.1 < w.heap.size := fun q o x hq hk hx => by
    obtain ⟨x', hx', hor⟩ := hs.obj q o hq
    rw [hx] at hx'; cases hx'
    refine ⟨fun e => ?_, hor.lt⟩
    rcases hown with ⟨r0, o0, p0, h1, h2, h3, h4⟩ | h
    · exact hk ((hs.inj q r0 o o0 x p0 hq h1 hx h2 (e.trans h3.symm)) ▸ h4)
    · have := hor.lt; omega
  have hget : ∀ q o, wrG get (r, some o') q = some o → (q = r ∧ o = o') ∨ (q.key ≠ r.key ∧ get q = some o) := fun q o h => by
    unfold wrG at h
    by_cases hk : q.key = r.key
    · simp only [hk, if_true] at h
      split at h
      · rename_i e; cases h; exact .inl ⟨e, rfl⟩
      · cases h
    · simp only [hk, if_false] at h
      exact .inr ⟨hk, h⟩
  have hne : ∀ q, q.key ≠ r.key → q ≠ r := fun q h e => h (e ▸ rfl)
  have hown' : ∀ b, Own (wrG get (r, some o')) β' b → Own get β b ∨ w.heap.size ≤ b := by
    rintro b ⟨q, o, x, hq, hx, rfl⟩
    rcases hget q o hq with ⟨rfl, rfl⟩ | ⟨hk, hg⟩
    · rw [hp] at hx; cases hx
      rcases hown with ⟨r0, o0, p0, h1, h2, h3, _⟩ | h
      · exact .inl ⟨r0, o0, p0, h1, h2, h3⟩
      · exact .inr h
    · rw [hβ q (hne q hk)] at hx
      exact .inl ⟨q, o, x, hg, hx, rfl⟩
  refine ⟨⟨fun q o hq => ?_, fun q q' o o2 x x' hq hq' hx hx' he => ?_, fun b hb => ⟨Nat.lt_of_lt_of_le (hs.imm b hb).1 hsz, fun h => ?_⟩, fun k g o hq g' hg' => ?_, WX.stable (fun _ h => h) himm hs.wx⟩,
    ⟨fun _ h => h, hmono, hkeep, hown', fun _ h => .inl h⟩⟩
  · rcases hget q o hq with ⟨rfl, rfl⟩ | ⟨hk, hg⟩
    · exact ⟨p, hp, ho⟩
    · obtain ⟨x, hx, hor⟩ := hs.obj q o hg
      obtain ⟨n1, n2⟩ := hother q o x hg hk hx
      exact ⟨x, hmono q x hx, hor.mono (hblk _ n2 n1) (fun _ h => h) himm hmono hcsz⟩
  · rcases hget q o hq with ⟨rfl, rfl⟩ | ⟨hk, hg⟩ <;> rcases hget q' o2 hq' with ⟨rfl, rfl⟩ | ⟨hk', hg'⟩
    · rfl
    · rw [hp] at hx; cases hx
      rw [hβ q' (hne q' hk')] at hx'
      exact absurd he.symm (hother q' o2 x' hg' hk' hx').1
    · rw [hp] at hx'; cases hx'
      rw [hβ q (hne q hk)] at hx
      exact absurd he (hother q o x hg hk hx).1
    · rw [hβ q (hne q hk)] at hx
      rw [hβ q' (hne q' hk')] at hx'
      exact hs.inj q q' o o2 x x' hg hg' hx hx' he
  · rcases hown' b h with h | h
    · exact (hs.imm b hb).2 h
    · have := (hs.imm b hb).1; omega
  · rcases hget _ o hq with ⟨h, _⟩ | ⟨hk, hg⟩
    · exact hgen k g h.symm g' hg'
    · have : (Ref.h k g').key ≠ r.key := hk
      rw [hβ _ (hne _ this)]
      exact hs.gen k g o hg g' hg'

end Ab
end Go.Proofs.YtidoflgcblglbaaDoor

/-
  DERIVED. A STORE; A NEW ROW OF CELLS: the model's operation and the abstract one.
  Conditions: none of a program's.
-/
namespace Go.Proofs.YtidoflgcblglbaaDoor
namespace Ab
variable [WX]

section
variable {P : Program}

theorem heap_setCells (b : Nat) : ∀ (vs : List Value) (o : Nat) (w : World) (c : Array Value) (e : TypeId) (fr : Nat × Nat), w.heap[b]? = some (.cells c e fr) → o + vs.length ≤ c.size →
    ∃ c', (w.setCells b o vs).heap[b]? = some (.cells c' e fr) ∧ c'.size = c.size ∧ (∀ j, j < vs.length → c'[o + j]? = vs[j]?) ∧ (∀ j, j < o ∨ o + vs.length ≤ j → c'[j]? = c[j]?)
  | [], o, w, c, e, fr, h, _ => ⟨c, h, rfl, fun j hj => by simp at hj, fun _ _ => rfl⟩
  | v :: r, o, w, c, e, fr, h, hl => by
    have h1 : (w.setCell ⟨b, o, none⟩ v).heap[b]? = some (.cells (c.setIfInBounds o v) e fr) := by
      simp only [World.setCell, Array.getElem?_modify, h, if_true, Option.map_some]; rfl
    obtain ⟨c', a1, a2, a3, a4⟩ := heap_setCells b r (o + 1) (w.setCell ⟨b, o, none⟩ v) _ e fr h1 (by simp at hl ⊢; omega)
    refine ⟨c', a1, by simpa using a2, fun j hj => ?_, fun j hj => ?_⟩
    · cases j with
      | zero =>
        simp at hl
        have : o < c.size := by omega
        rw [Nat.add_zero, a4 o (by omega)]
        simp [this]
      | succ j =>
        have := a3 j (by simp at hj; omega)
        rw [show o + (j + 1) = o + 1 + j by omega, this]; rfl
    · simp at hj hl
      rw [a4 j (by omega), Array.getElem?_setIfInBounds_ne (by omega)]

theorem setCells_rest (b : Nat) : ∀ (vs : List Value) (o : Nat) (w : World), (w.setCells b o vs).os = w.os ∧ (w.setCells b o vs).tape = w.tape ∧ (w.setCells b o vs).output = w.output ∧
    (w.setCells b o vs).heap.size = w.heap.size ∧ ∀ k, k ≠ b → (w.setCells b o vs).heap[k]? = w.heap[k]?
  | [], _, _ => ⟨rfl, rfl, rfl, rfl, fun _ _ => rfl⟩
  | v :: r, o, w => by
    obtain ⟨h1, h2, h3, h4, h5⟩ := setCells_rest b r (o + 1) (w.setCell ⟨b, o, none⟩ v)
    refine ⟨h1, h2, h3, by rw [World.setCells, h4]; simp [World.setCell], fun k hk => ?_⟩
    rw [World.setCells, h5 k hk]
    exact RowKit.Below.heap_setCell w ⟨b, o, none⟩ v k hk

theorem csz_setCells (b : Nat) (vs : List Value) (o : Nat) (w : World) (c : Array Value) (e : TypeId) (fr : Nat × Nat) (h : w.heap[b]? = some (.cells c e fr)) (hl : o + vs.length ≤ c.size) (k : Nat) :
    csz w k ≤ csz (w.setCells b o vs) k := by
  by_cases hk : k = b
  · subst hk
    obtain ⟨c', a1, a2, _, _⟩ := heap_setCells k vs o w c e fr h hl
    simp [csz, h, a1, a2]
  · simp [csz, (setCells_rest b vs o w).2.2.2.2 k hk]

/-- The cells of a value that may be stored. -/
theorem cells_ok {I : Nat → Prop} {w : World} {β : BMap} {x : Value} {v : AV} (h : RV I w β x v) (hc : ∀ c ∈ v.cells, c.okc = true) :
    x.cells.toList.length = v.cells.length ∧ (∀ y ∈ x.cells.toList, cellV y = true) ∧ ∀ (j : Nat) (y : Value) (c : AV), x.cells.toList[j]? = some y → v.cells[j]? = some c → RV I w β y c := by
  have one : ∀ (x : Value) (v : AV), RV I w β x v → x.cells = #[x] → v.cells = [v] → cellV x = true →
      x.cells.toList.length = v.cells.length ∧ (∀ y ∈ x.cells.toList, cellV y = true) ∧ ∀ (j : Nat) (y : Value) (c : AV), x.cells.toList[j]? = some y → v.cells[j]? = some c → RV I w β y c := by
    intro x v hr h1 h2 h3
    rw [h1, h2]
    refine ⟨rfl, by simpa using h3, fun j y c hy hc => ?_⟩
    cases j with
    | zero => simp at hy hc; subst hy; subst hc; exact hr
    | succ j => simp at hy
  cases h with
  | undef => simp [AV.cells, AV.okc] at hc
  | agg _ vs cs hl hv h =>
    refine ⟨by simpa [Value.cells, AV.cells] using hl, fun y hy => ?_, fun j y c hy hc => h j y c (by simpa [Value.cells] using hy) hc⟩
    obtain ⟨j, hj⟩ := List.getElem?_of_mem hy
    exact hv j y (by simpa [Value.cells] using hj)
  | tup => simp [AV.cells, AV.okc] at hc
  | lp => simp [AV.cells, AV.okc] at hc
  | b => exact one _ _ (.b _ _) rfl rfl rfl
  | i => exact one _ _ (.i _ _ _) rfl rfl rfl
  | s => exact one _ _ (.s _ _) rfl rfl rfl
  | np => exact one _ _ (.np _) rfl rfl rfl
  | nfn => exact one _ _ (.nfn _) rfl rfl rfl
  | mpn => exact one _ _ (.mpn _) rfl rfl rfl
  | vsn => exact one _ _ (.vsn _ _) rfl rfl rfl
  | vs0 => exact one _ _ (.vs0 _ _ _ _) rfl rfl rfl
  | vs _ b o len cap sz rows f hb hr hlen hcap h1 h2 => exact one _ _ (.vs _ b o len cap sz rows f hb hr hlen hcap h1 h2) rfl rfl rfl
  | rs _ k g i0 len sz b o cap a hb h1 h2 h3 => exact one _ _ (.rs _ k g i0 len sz b o cap a hb h1 h2 h3) rfl rfl rfl
  | ptr _ k g p b o hb => exact one _ _ (.ptr _ k g p b o hb) rfl rfl rfl
  | pe _ k g i p sz b o hb => exact one _ _ (.pe _ k g i p sz b o hb) rfl rfl rfl
  | vp _ b o cs f hb h1 h2 => exact one _ _ (.vp _ b o cs f hb h1 h2) rfl rfl rfl
  | fn _ f vs cs hl h => exact one _ _ (.fn _ f vs cs hl h) rfl rfl rfl
  | mp _ k r o hb => exact one _ _ (.mp _ k r o hb) rfl rfl rfl

theorem stA_spec {t : TypeId} {cs cs' : List AV} {o : Nat} {v : AV} (h : stA P t cs o v = some cs') :
    szOf P t = some v.cells.length ∧ o + v.cells.length ≤ cs.length ∧ (∀ c ∈ v.cells, c.okc = true) ∧ cs' = cs.take o ++ v.cells ++ cs.drop (o + v.cells.length) := by
  have one : ∀ v : AV, v.cells = [v] → (if szOf P t = some 1 ∧ o < cs.length ∧ v.okc = true then some (cs.set o v) else none) = some cs' →
      szOf P t = some v.cells.length ∧ o + v.cells.length ≤ cs.length ∧ (∀ c ∈ v.cells, c.okc = true) ∧ cs' = cs.take o ++ v.cells ++ cs.drop (o + v.cells.length) := by
    intro v hv h
    split at h
    · rename_i hh
      cases h
      rw [hv]
      refine ⟨hh.1, by simp; omega, by simpa using hh.2.2, ?_⟩
      rw [List.set_eq_take_append_cons_drop, if_pos hh.2.1]
      simp
    · cases h
  unfold stA at h
  cases v with
  | agg vs =>
    simp only at h
    split at h
    · rename_i hh
      cases h
      exact ⟨hh.1, hh.2.1, by simpa [AV.cells] using hh.2.2, rfl⟩
    · cases h
  | _ => exact one _ rfl h

/-- A value written into a block, from a place on. -/
theorem run_storeVar_at {t : TypeId} {w : World} {b o : Nat} {x : Value} {c : Array Value} {e : TypeId} {fr : Nat × Nat} (hz : szOf P t = some x.cells.toList.length) (hb : w.heap[b]? = some (.cells c e fr))
    (hl : o + x.cells.toList.length ≤ c.size) (hf : unfz c fr) (hv : ∀ y ∈ x.cells.toList, cellV y = true) : (storeVar t ⟨b, o, none⟩ x).run P w = .ok () (w.setCells b o x.cells.toList) := by
  have h := run_storeCells_cells (P := P) b o x.cells.toList 0 w
    (fun j hj => by rw [cell_of hb, Array.getElem?_eq_getElem (show o + 0 + j < c.size by omega)]; rfl)
    (fun j hj => by simp only [World.frozen?, hb]; exact hf.at _ (by omega))
    hv
  have hz' : szOf P t = some x.cells.size := by simpa using hz
  simp only [storeVar, Sem.run_bind, run_szOf hz', Result.andThen_ok, ne_eq, not_true_eq_false, if_false]
  simpa using h

theorem storeA_sound {I : Nat → Prop} {w : World} {β : BMap} {get : GetF} {t : TypeId} {a v : AV} {x y : Value} {wr : Wr} (hs : Sim I β get w) (ha : RV I w β x a) (hv : RV I w β y v)
    (h : storeA P get t a v = some wr) : ∃ w', (Instr.storeAt t x y).run P w = .ok () w' ∧ Sim I β (wrG get wr) w' ∧ Step I β get w I β (wrG get wr) w' := by
  -- a row of cells inside an object
  have core : ∀ (r : Ref) (p : Blk) (o0 o1 : AO) (b o : Nat) (c : Array Value) (e : TypeId) (fr : Nat × Nat), get r = some o0 → β r = some p → p.1 = b → w.heap[b]? = some (.cells c e fr) → unfz c fr →
      szOf P t = some v.cells.length → o + v.cells.length ≤ c.size → (∀ c ∈ v.cells, c.okc = true) →
      (∀ c', c'.size = c.size → (∀ j, j < v.cells.length → c'[o + j]? = y.cells.toList[j]?) → (∀ j, j < o ∨ o + v.cells.length ≤ j → c'[j]? = c[j]?) →
        (w.setCells b o y.cells.toList).heap[b]? = some (.cells c' e fr) → OR I (w.setCells b o y.cells.toList) β p o1) →
      (∀ k g, r = .h k g → ∀ g', g < g' → β (.h k g') = none) →
      ∃ w', (storeVar t ⟨b, o, none⟩ y).run P w = .ok () w' ∧ Sim I β (wrG get (r, some o1)) w' ∧ Step I β get w I β (wrG get (r, some o1)) w' := by
    intro r p o0 o1 b o c e fr hg hp hpb hb hf hz hl hok hor hgen
    obtain ⟨c1, c2, c3⟩ := cells_ok hv hok
    obtain ⟨c', a1, a2, a3, a4⟩ := heap_setCells b y.cells.toList o w c e fr hb (by omega)
    obtain ⟨q1, q2, q3, q4, q5⟩ := setCells_rest b y.cells.toList o w
    refine ⟨_, run_storeVar_at (by rw [c1]; exact hz) hb (by omega) hf c2, ?_⟩
    exact hs.put (r := r) (o' := o1) (p := p) (fun _ _ => rfl) (.inr hp) hp (hor c' a2 (fun j hj => a3 j (by omega)) (fun j hj => a4 j (by omega)) a1) q1 q2 q3 (by omega)
      (csz_setCells b _ o w c e fr hb (by omega)) (fun k _ hk => q5 k (by rw [← hpb]; exact hk)) (.inl ⟨r, o0, p, hg, hp, rfl, rfl⟩) hgen
  have himm : ∀ {r : Ref} {o0 : AO} {p : Blk} {b o : Nat} {vs : List Value}, get r = some o0 → β r = some p → p.1 = b → ∀ k, I k → (w.setCells b o vs).heap[k]? = w.heap[k]? := by
    intro r o0 p b o vs hg hp hb k hk
    refine (setCells_rest b vs o w).2.2.2.2 k fun e => ?_
    exact (hs.imm k hk).2 ⟨r, o0, p, hg, hp, hb.trans e.symm⟩
  cases a with
  | lp d n o =>
    cases ha with
    | lp _ _ _ _ b o' hb =>
      simp only [storeA] at h
      split at h
      · rename_i cs hg
        cases hst : stA P t cs o v with
        | none => simp [hst] at h
        | some cs' =>
          simp [hst] at h; subst h
          obtain ⟨s1, s2, s3, s4⟩ := stA_spec hst
          obtain ⟨p, hp, ho⟩ := hs.obj _ _ hg
          rw [hb] at hp; cases hp
          obtain ⟨c, e, fr, h1, h2, h3, h4⟩ := ho
          simp only [Instr.storeAt, Instr.sureAddr, Sem.run_bind, Sem.run_pure, Result.andThen_ok]
          obtain ⟨cl, cv, cr⟩ := cells_ok hv s3
          refine core (.l d n) (b, o') (.cells cs) (.cells cs') b (o' + o) c e fr hg hb rfl h1 h3 s1 (by simp at h2; omega) s3 ?_ (fun k g e => by cases e)
          intro c' hc1 hc2 hc3 hc4
          refine ⟨c', e, fr, hc4, by subst s4; simp at h2 ⊢; omega, by unfold unfz; rw [hc1]; exact h3, fun j z hz => ?_⟩
          have hmono : ∀ {v : Value} {x : AV}, RV I w β v x → RV I (w.setCells b (o' + o) y.cells.toList) β v x := fun hr =>
            hr.mono (fun _ h => h) (fun k hk => himm hg hb rfl k hk) (fun _ _ h => h) (csz_setCells b _ _ w c e fr h1 (by simp at h2; omega))
          subst s4
          by_cases hj : j < o
          · rw [List.append_assoc, List.getElem?_append_left (by simp; omega), List.getElem?_take_of_lt hj] at hz
            obtain ⟨u, u1, u2, u3⟩ := h4 j z hz
            exact ⟨u, by rw [hc3 _ (.inl (by simp; omega))]; exact u1, u2, hmono u3⟩
          · by_cases hj2 : j < o + v.cells.length
            · rw [List.append_assoc, List.getElem?_append_right (by simp; omega), List.getElem?_append_left (by simp; omega)] at hz
              simp at hz
              have hlt : j - o < y.cells.toList.length := by omega
              have := hc2 (j - o) (by omega)
              refine ⟨y.cells.toList[j - o], ?_, cv _ (List.getElem_mem _), hmono (cr (j - o) _ z (List.getElem?_eq_getElem hlt) ?_)⟩
              · simp only
                rw [show o' + j = o' + o + (j - o) by omega, this, List.getElem?_eq_getElem hlt]
              · rwa [show j - min o cs.length = j - o by omega] at hz
            · rw [List.append_assoc, List.getElem?_append_right (by simp; omega), List.getElem?_append_right (by simp; omega), List.getElem?_drop] at hz
              simp at hz
              rw [show o + v.cells.length + (j - min o cs.length - v.cells.length) = j by omega] at hz
              obtain ⟨u, u1, u2, u3⟩ := h4 j z hz
              exact ⟨u, by rw [hc3 _ (.inr (by simp; omega))]; exact u1, u2, hmono u3⟩
      · cases h
  | ptr k g o =>
    cases ha with
    | ptr _ _ _ _ b o' hb =>
      simp only [storeA] at h
      split at h
      · rename_i cs hg
        cases hst : stA P t cs o v with
        | none => simp [hst] at h
        | some cs' =>
          simp [hst] at h; subst h
          obtain ⟨s1, s2, s3, s4⟩ := stA_spec hst
          obtain ⟨p, hp, ho⟩ := hs.obj _ _ hg
          rw [hb] at hp; cases hp
          obtain ⟨c, e, fr, h1, h2, h3, h4⟩ := ho
          simp only [Instr.storeAt, Instr.sureAddr, Sem.run_bind, Sem.run_pure, Result.andThen_ok]
          obtain ⟨cl, cv, cr⟩ := cells_ok hv s3
          refine core (.h k g) (b, o') (.cells cs) (.cells cs') b (o' + o) c e fr hg hb rfl h1 h3 s1 (by simp at h2; omega) s3 ?_ (fun k' g' e => by cases e; exact hs.gen k g _ hg)
          intro c' hc1 hc2 hc3 hc4
          refine ⟨c', e, fr, hc4, by subst s4; simp at h2 ⊢; omega, by unfold unfz; rw [hc1]; exact h3, fun j z hz => ?_⟩
          have hmono : ∀ {v : Value} {x : AV}, RV I w β v x → RV I (w.setCells b (o' + o) y.cells.toList) β v x := fun hr =>
            hr.mono (fun _ h => h) (fun k hk => himm hg hb rfl k hk) (fun _ _ h => h) (csz_setCells b _ _ w c e fr h1 (by simp at h2; omega))
          subst s4
          by_cases hj : j < o
          · rw [List.append_assoc, List.getElem?_append_left (by simp; omega), List.getElem?_take_of_lt hj] at hz
            obtain ⟨u, u1, u2, u3⟩ := h4 j z hz
            exact ⟨u, by rw [hc3 _ (.inl (by simp; omega))]; exact u1, u2, hmono u3⟩
          · by_cases hj2 : j < o + v.cells.length
            · rw [List.append_assoc, List.getElem?_append_right (by simp; omega), List.getElem?_append_left (by simp; omega)] at hz
              simp at hz
              have hlt : j - o < y.cells.toList.length := by omega
              have := hc2 (j - o) (by omega)
              refine ⟨y.cells.toList[j - o], ?_, cv _ (List.getElem_mem _), hmono (cr (j - o) _ z (List.getElem?_eq_getElem hlt) ?_)⟩
              · simp only
                rw [show o' + j = o' + o + (j - o) by omega, this, List.getElem?_eq_getElem hlt]
              · rwa [show j - min o cs.length = j - o by omega] at hz
            · rw [List.append_assoc, List.getElem?_append_right (by simp; omega), List.getElem?_append_right (by simp; omega), List.getElem?_drop] at hz
              simp at hz
              rw [show o + v.cells.length + (j - min o cs.length - v.cells.length) = j by omega] at hz
              obtain ⟨u, u1, u2, u3⟩ := h4 j z hz
              exact ⟨u, by rw [hc3 _ (.inr (by simp; omega))]; exact u1, u2, hmono u3⟩
      · cases h
  | pe k g i o sz =>
    cases ha with
    | pe _ _ _ _ _ _ b o' hb =>
      simp only [storeA] at h
      split at h
      · rename_i sz' rows hg
        split at h
        · rename_i hee; subst hee
          split at h
          · rename_i row hrow
            cases hst : stA P t row o v with
            | none => simp [hst] at h
            | some row' =>
              simp [hst] at h; subst h
              obtain ⟨s1, s2, s3, s4⟩ := stA_spec hst
              obtain ⟨p, hp, ho⟩ := hs.obj _ _ hg
              rw [hb] at hp; cases hp
              obtain ⟨z0, zr, c, e, fr, h1, h2, h3, h4⟩ := ho
              have hilt : i < rows.length := (List.getElem?_eq_some_iff.1 hrow).1
              have hrl : row.length = sz' := zr row (List.mem_of_getElem? hrow)
              have hrl' : row'.length = sz' := by subst s4; simp; omega
              have hmul : (i + 1) * sz' ≤ rows.length * sz' := Nat.mul_le_mul_right _ hilt
              rw [Nat.add_mul, Nat.one_mul] at hmul
              simp only at h2 h4
              simp only [Instr.storeAt, Instr.sureAddr, Sem.run_bind, Sem.run_pure, Result.andThen_ok]
              obtain ⟨cl, cv, cr⟩ := cells_ok hv s3
              refine core (.h k g) (b, o') (.arr sz' rows) (.arr sz' (rows.set i row')) b (o' + i * sz' + o) c e fr hg hb rfl h1 h3 s1 (by omega) s3 ?_ (fun k' g' e => by cases e; exact hs.gen k g _ hg)
              intro c' hc1 hc2 hc3 hc4
              refine ⟨z0, fun r hr => ?_, c', e, fr, hc4, by simp; omega, by unfold unfz; rw [hc1]; exact h3, fun i' j r z hr hz => ?_⟩
              · rcases List.mem_or_eq_of_mem_set hr with hr | rfl
                · exact zr r hr
                · exact hrl'
              have hmono : ∀ {v : Value} {x : AV}, RV I w β v x → RV I (w.setCells b (o' + i * sz' + o) y.cells.toList) β v x := fun hr =>
                hr.mono (fun _ h => h) (fun k hk => himm hg hb rfl k hk) (fun _ _ h => h) (csz_setCells b _ _ w c e fr h1 (by omega))
              simp only
              by_cases hii : i' = i
              · subst hii
                rw [List.getElem?_set_self hilt] at hr
                cases hr
                subst s4
                by_cases hj : j < o
                · rw [List.append_assoc, List.getElem?_append_left (by simp; omega), List.getElem?_take_of_lt hj] at hz
                  obtain ⟨u, u1, u2, u3⟩ := h4 _ j _ z hrow hz
                  exact ⟨u, by rw [hc3 _ (.inl (by omega))]; exact u1, u2, hmono u3⟩
                · by_cases hj2 : j < o + v.cells.length
                  · rw [List.append_assoc, List.getElem?_append_right (by simp; omega), List.getElem?_append_left (by simp; omega)] at hz
                    simp at hz
                    have hlt : j - o < y.cells.toList.length := by omega
                    have := hc2 (j - o) (by omega)
                    refine ⟨y.cells.toList[j - o], ?_, cv _ (List.getElem_mem _), hmono (cr (j - o) _ z (List.getElem?_eq_getElem hlt) ?_)⟩
                    · rw [show o' + i' * sz' + j = o' + i' * sz' + o + (j - o) by omega, this, List.getElem?_eq_getElem hlt]
                    · rwa [show j - min o row.length = j - o by omega] at hz
                  · rw [List.append_assoc, List.getElem?_append_right (by simp; omega), List.getElem?_append_right (by simp; omega), List.getElem?_drop] at hz
                    simp at hz
                    rw [show o + v.cells.length + (j - min o row.length - v.cells.length) = j by omega] at hz
                    obtain ⟨u, u1, u2, u3⟩ := h4 _ j _ z hrow hz
                    exact ⟨u, by rw [hc3 _ (.inr (by omega))]; exact u1, u2, hmono u3⟩
              · rw [List.getElem?_set_ne (fun e => hii e.symm)] at hr
                obtain ⟨u, u1, u2, u3⟩ := h4 i' j r z hr hz
                have hj : j < sz' := by rw [← zr r (List.mem_of_getElem? hr)]; exact (List.getElem?_eq_some_iff.1 hz).1
                refine ⟨u, ?_, u2, hmono u3⟩
                rw [hc3 _ ?_]; exact u1
                rcases Nat.lt_or_ge i' i with hlt | hge
                · left
                  have : (i' + 1) * sz' ≤ i * sz' := Nat.mul_le_mul_right _ hlt
                  rw [Nat.add_mul, Nat.one_mul] at this; omega
                · right
                  have : (i + 1) * sz' ≤ i' * sz' := Nat.mul_le_mul_right _ (by omega)
                  rw [Nat.add_mul, Nat.one_mul] at this; omega
          · cases h
        · cases h
      · cases h
  | _ => simp [storeA] at h

end
end Ab
end Go.Proofs.YtidoflgcblglbaaDoor

/-
  DERIVED. NEW OBJECTS: 'alloc', 'box', the rows that 'make' and a literal lay.
  Conditions: none of a program's.
-/
namespace Go.Proofs.YtidoflgcblglbaaDoor
namespace Ab
variable [WX]

section
variable {P : Program}

/-- The names with one more. -/
def ext (β : BMap) (r : Ref) (p : Blk) : BMap := fun q => if q = r then some p else β q

theorem ext_self (β : BMap) (r : Ref) (p : Blk) : ext β r p r = some p := by simp [ext]
theorem ext_ne (β : BMap) {r q : Ref} (p : Blk) (h : q ≠ r) : ext β r p q = β q := by simp [ext, h]

theorem heap_push {w w' : World} {x : Obj} (h : w'.heap = w.heap.push x) : (∀ b, b < w.heap.size → w'.heap[b]? = w.heap[b]?) ∧ w'.heap[w.heap.size]? = some x ∧ w'.heap.size = w.heap.size + 1 := by
  rw [h]
  refine ⟨fun b hb => ?_, by simp, by simp⟩
  rw [Array.getElem?_push, if_neg (by omega)]

theorem csz_push {w w' : World} {x : Obj} (h : w'.heap = w.heap.push x) (b : Nat) : csz w b ≤ csz w' b := by
  by_cases hb : b < w.heap.size
  · simp [csz, (heap_push h).1 b hb]
  · simp [csz, Array.getElem?_eq_none (Nat.le_of_not_lt hb)]

/-- A new object. -/
theorem Sim.new {I : Nat → Prop} {β : BMap} {get : GetF} {w w' : World} (hs : Sim I β get w) {r : Ref} {o' : AO} {off : Nat} {x : Obj} (hh : w'.heap = w.heap.push x)
    (hos : w'.os = w.os) (htape : w'.tape = w.tape) (hout : w'.output = w.output) (hr : β r = none) (hg : ∀ k g, r = .h k g → ∀ g', g < g' → β (.h k g') = none)
    (ho : (∀ v y, RV I w β v y → RV I w' (ext β r (w.heap.size, off)) v y) → OR I w' (ext β r (w.heap.size, off)) (w.heap.size, off) o') :
    Sim I (ext β r (w.heap.size, off)) (wrG get (r, some o')) w' ∧ Step I β get w I (ext β r (w.heap.size, off)) (wrG get (r, some o')) w' := by
  obtain ⟨h1, h2, h3⟩ := heap_push hh
  have hmono : ∀ v y, RV I w β v y → RV I w' (ext β r (w.heap.size, off)) v y := fun v y hv =>
    hv.mono (fun _ h => h) (fun b hb => h1 b (hs.imm b hb).1) (fun q p hq => by
      by_cases e : q = r
      · subst e; rw [hr] at hq; cases hq
      · rw [ext_ne _ _ e]; exact hq) (csz_push hh)
  refine hs.put (r := r) (p := (w.heap.size, off)) (fun q hq => ext_ne _ _ hq) (.inl hr) (ext_self _ _ _) (ho hmono) hos htape hout (by omega) (csz_push hh) (fun b hb _ => h1 b hb) (.inr (Nat.le_refl _)) ?_
  intro k g e g' hlt
  subst e
  rw [ext_ne _ _ (by intro e; cases e; omega)]
  exact hg k g rfl g' hlt

theorem ofC0_RV (I : Nat → Prop) (w : World) (β : BMap) (v : Value) : RV I w β v (ofC0 v) := by
  unfold ofC0
  split
  · exact .b _ _
  · exact .i _ _ _
  · exact .s _ _
  · exact .vsn _ _
  · exact .np _
  · exact .nfn _
  · exact .mpn _
  · exact .undef _ _

theorem ofC0_okc {v : Value} (h : (ofC0 v).okc = true) : cellV v = true := by
  cases v <;> first | rfl | (simp [ofC0, AV.okc] at h)

theorem ofC_RV (I : Nat → Prop) (w : World) (β : BMap) (v : Value) : RV I w β v (ofC v) := by
  unfold ofC
  split
  · rename_i cs
    split
    · rename_i hok
      refine .agg _ _ _ (by simp) (fun j v hv => ?_) fun j v c hv hc => ?_
      · have : ofC0 v ∈ cs.toList.map ofC0 := List.mem_map_of_mem (List.mem_of_getElem? (by simpa using hv))
        exact ofC0_okc (List.all_eq_true.1 hok _ this)
      · simp [hv] at hc
        subst hc
        exact ofC0_RV _ _ _ _
    · exact .undef _ _
  · exact ofC0_RV _ _ _ _

theorem zeroOf_spec {t : TypeId} {z : List AV} (h : zeroOf P t = some z) : ∃ v i, P.info? t = some i ∧ i.zero = some v ∧ z = (ofC v).cells := by
  unfold zeroOf at h
  cases hi : P.info? t with
  | none => simp [hi] at h
  | some i =>
    cases hz : i.zero with
    | none => simp [hi, hz] at h
    | some v => simp [hi, hz] at h; exact ⟨v, i, rfl, hz, h.symm⟩

theorem run_zeroOf {t : TypeId} {v : Value} {i : TypeInfo} (h : P.info? t = some i) (hz : i.zero = some v) (w : World) : (zeroValue t).run P w = .ok v w := by
  simp [zeroValue, typeInfo, h, hz]

/-- Cells of a new block. -/
theorem OR.newCells {I : Nat → Prop} {w : World} {β : BMap} {b : Nat} {e : TypeId} {vs : List Value} {cs : List AV} (hb : w.heap[b]? = some (.cells vs.toArray e (0, 0))) (hl : vs.length = cs.length)
    (hv : ∀ y ∈ vs, cellV y = true) (h : ∀ (j : Nat) (y : Value) (c : AV), vs[j]? = some y → cs[j]? = some c → RV I w β y c) : OR I w β (b, 0) (.cells cs) := by
  refine ⟨vs.toArray, e, (0, 0), hb, by simp; omega, .inl rfl, fun j x hx => ?_⟩
  have hj : j < vs.length := by rw [hl]; exact (List.getElem?_eq_some_iff.1 hx).1
  refine ⟨vs[j], by simp [hj], hv _ (List.getElem_mem _), h j _ x (List.getElem?_eq_getElem hj) hx⟩

/-- The pointer to a new variable, the frame's own or of the heap. -/
theorem newVar_sound {I : Nat → Prop} {w : World} {β : BMap} {get : GetF} {t : TypeId} {x : Value} {cs : List AV} (hs : Sim I β get w) (r : Ref)
    (hr : β r = none) (hg : ∀ k g, r = .h k g → ∀ g', g < g' → β (.h k g') = none)
    (hl : x.cells.toList.length = cs.length) (hv : ∀ y ∈ x.cells.toList, cellV y = true) (h : ∀ (j : Nat) (y : Value) (c : AV), x.cells.toList[j]? = some y → cs[j]? = some c → RV I w β y c) :
    ∃ w', (newVar t x).run P w = .ok ⟨w.heap.size, 0, none⟩ w' ∧ Sim I (ext β r (w.heap.size, 0)) (wrG get (r, some (.cells cs))) w' ∧
      Step I β get w I (ext β r (w.heap.size, 0)) (wrG get (r, some (.cells cs))) w' := by
  refine ⟨{ w with heap := w.heap.push (.cells x.cells t) }, by simp [newVar, newRow], ?_⟩
  refine hs.new (x := .cells x.cells t) rfl rfl rfl rfl hr hg fun hm => ?_
  refine OR.newCells (e := t) (vs := x.cells.toList) (by simp) hl hv fun j y c hy hc => hm _ _ (h j y c hy hc)

end
end Ab
end Go.Proofs.YtidoflgcblglbaaDoor

/-
  DERIVED. ROWS: 'make', literals of slices and structs; strings turned into bytes; ranges over strings.
  Conditions: none of a program's.
-/
namespace Go.Proofs.YtidoflgcblglbaaDoor
namespace Ab
variable [WX]

section
variable {P : Program}

theorem run_elemOf {t e : TypeId} (h : elemOf P t = some e) : P.underlying t = some (.slice e) := by
  unfold elemOf at h
  split at h
  · cases h; assumption
  · cases h

theorem szOf_info {t : TypeId} {n : Nat} (h : szOf P t = some n) : ∃ i, P.info? t = some i ∧ i.size = n := by
  unfold szOf at h
  cases hi : P.info? t with
  | none => simp [hi] at h
  | some i => simp [hi] at h; exact ⟨i, rfl, h⟩

theorem byOf_info {t : TypeId} {n : Nat} (h : byOf P t = some n) : ∃ i, P.info? t = some i ∧ i.bytes = n := by
  unfold byOf at h
  cases hi : P.info? t with
  | none => simp [hi] at h
  | some i => simp [hi] at h; exact ⟨i, rfl, h⟩

/-- Cells that a list tells. -/
def CR (I : Nat → Prop) (w : World) (β : BMap) (vs : Array Value) (cs : List AV) : Prop :=
  vs.size = cs.length ∧ ∀ (j : Nat) (c : AV), cs[j]? = some c → ∃ v, vs[j]? = some v ∧ cellV v = true ∧ RV I w β v c

theorem foldl_put (off : Nat) : ∀ (l : List Value) (k : Nat) (cells : Array Value), off + k + l.length ≤ cells.size →
    ((l.zipIdx k).foldl (fun cs (p : Value × Nat) => cs.setIfInBounds (off + p.2) p.1) cells).size = cells.size ∧
    (∀ i, i < l.length → ((l.zipIdx k).foldl (fun cs (p : Value × Nat) => cs.setIfInBounds (off + p.2) p.1) cells)[off + k + i]? = l[i]?) ∧
    (∀ i, i < off + k ∨ off + k + l.length ≤ i → ((l.zipIdx k).foldl (fun cs (p : Value × Nat) => cs.setIfInBounds (off + p.2) p.1) cells)[i]? = cells[i]?)
  | [], k, cells, _ => ⟨rfl, fun i hi => by simp at hi, fun _ _ => rfl⟩
  | v :: r, k, cells, h => by
    simp at h
    obtain ⟨h1, h2, h3⟩ := foldl_put off r (k + 1) (cells.setIfInBounds (off + k) v) (by simp; omega)
    simp only [List.zipIdx_cons, List.foldl_cons]
    refine ⟨by rw [h1]; simp, fun i hi => ?_, fun i hi => ?_⟩
    · cases i with
      | zero =>
        rw [Nat.add_zero, h3 _ (by omega)]
        have : off + k < cells.size := by omega
        simp [this]
      | succ i =>
        rw [show off + k + (i + 1) = off + (k + 1) + i by omega, h2 i (by simp at hi; omega)]
        rfl
    · simp at hi
      rw [h3 i (by omega), Array.getElem?_setIfInBounds_ne (by omega)]

theorem arr_foldl_put (off : Nat) (a cells : Array Value) : (a.zipIdx.foldl (fun cs (c, j) => cs.setIfInBounds (off + j) c) cells) =
    (a.toList.zipIdx 0).foldl (fun cs (p : Value × Nat) => cs.setIfInBounds (off + p.2) p.1) cells := by
  rw [← Array.foldl_toList]
  congr 1
  simp

/-- A part put into its place. -/
theorem CR.put {I : Nat → Prop} {w : World} {β : BMap} {vs : Array Value} {cs : List AV} (h : CR I w β vs cs) {x : Value} {v : AV} (hx : RV I w β x v) (hok : ∀ c ∈ v.cells, c.okc = true) {off : Nat}
    (hl : off + v.cells.length ≤ cs.length) :
    CR I w β (x.cells.zipIdx.foldl (fun cs (c, j) => cs.setIfInBounds (off + j) c) vs) (cs.take off ++ v.cells ++ cs.drop (off + v.cells.length)) := by
  obtain ⟨c1, c2, c3⟩ := cells_ok hx hok
  obtain ⟨h0, h1⟩ := h
  rw [arr_foldl_put]
  obtain ⟨f1, f2, f3⟩ := foldl_put off x.cells.toList 0 vs (by omega)
  refine ⟨by rw [f1]; simp; omega, fun j c hc => ?_⟩
  by_cases hj : j < off
  · rw [List.append_assoc, List.getElem?_append_left (by simp; omega), List.getElem?_take_of_lt hj] at hc
    rw [f3 j (by omega)]
    exact h1 j c hc
  · by_cases hj2 : j < off + v.cells.length
    · rw [List.append_assoc, List.getElem?_append_right (by simp; omega), List.getElem?_append_left (by simp; omega)] at hc
      simp at hc
      rw [show j - min off cs.length = j - off by omega] at hc
      have hlt : j - off < x.cells.toList.length := by omega
      have := f2 (j - off) hlt
      rw [show off + 0 + (j - off) = j by omega, List.getElem?_eq_getElem hlt] at this
      exact ⟨_, this, c2 _ (List.getElem_mem _), c3 _ _ c (List.getElem?_eq_getElem hlt) hc⟩
    · rw [List.append_assoc, List.getElem?_append_right (by simp; omega), List.getElem?_append_right (by simp; omega), List.getElem?_drop] at hc
      simp at hc
      rw [show off + v.cells.length + (j - min off cs.length - v.cells.length) = j by omega] at hc
      rw [f3 j (by omega)]
      exact h1 j c hc

/-- Pairs of values and what they are told as. -/
def PR (I : Nat → Prop) (w : World) (β : BMap) : List (Nat × Value) → List (Nat × AV) → Prop
  | [], [] => True
  | (i, x) :: r, (j, v) :: s => i = j ∧ RV I w β x v ∧ PR I w β r s
  | _, _ => False

theorem fill_sound {I : Nat → Prop} {w : World} {β : BMap} {place : Nat → Option (Nat × Nat)} : ∀ {ps : List (Nat × Value)} {qs : List (Nat × AV)} {vs : Array Value} {cs cs' : List AV}, PR I w β ps qs →
    CR I w β vs cs → fillA place cs qs = some cs' → ∃ vs', Instr.fill place vs ps = some vs' ∧ CR I w β vs' cs'
  | [], [], vs, cs, cs', _, h, hf => by simp [fillA] at hf; subst hf; exact ⟨vs, rfl, h⟩
  | (i, x) :: r, (j, v) :: s, vs, cs, cs', hp, h, hf => by
    obtain ⟨rfl, hx, hr⟩ := hp
    simp only [fillA] at hf
    cases hpl : place i with
    | none => simp [hpl] at hf
    | some os =>
      obtain ⟨off, size⟩ := os
      simp only [hpl] at hf
      split at hf
      · rename_i hh
        obtain ⟨e1, e2, e3⟩ := hh
        have hok : ∀ c ∈ v.cells, c.okc = true := by simpa using e3
        obtain ⟨c1, _, _⟩ := cells_ok hx hok
        subst e1
        have := h.put hx hok (off := off) (by omega)
        obtain ⟨vs', g1, g2⟩ := fill_sound hr this hf
        refine ⟨vs', ?_, g2⟩
        have hsz : x.cells.size = v.cells.length := by simpa using c1
        simp only [Instr.fill, hpl]
        rw [if_neg (by rw [hsz, h.1]; simp; omega)]
        exact g1
      · cases hf
  | [], _ :: _, _, _, _, hp, _, _ => hp.elim
  | _ :: _, [], _, _, _, hp, _, _ => hp.elim

theorem rowsBuilt_lens {sz : Nat} : ∀ {qs : List (Nat × AV)} {j : Nat} {rows : List (List AV)}, rowsBuilt sz j qs = some rows → rows.length = qs.length ∧ ∀ r ∈ rows, r.length = sz
  | [], j, rows, h => by simp [rowsBuilt] at h; subst h; simp
  | (i, v) :: s, j, rows, h => by
    simp only [rowsBuilt] at h
    split at h
    · rename_i hh
      cases hr : rowsBuilt sz (j + 1) s with
      | none => simp [hr] at h
      | some rows' =>
        simp [hr] at h; subst h
        obtain ⟨h1, h2⟩ := rowsBuilt_lens hr
        refine ⟨by simp [h1], fun r hr => ?_⟩
        rcases List.mem_cons.1 hr with rfl | hr
        · exact hh.2.1
        · exact h2 r hr
    · cases h

theorem fillRows_sound {I : Nat → Prop} {w : World} {β : BMap} {sz : Nat} : ∀ {ps : List (Nat × Value)} {qs : List (Nat × AV)} {j : Nat} {vs : Array Value} {rows : List (List AV)}, PR I w β ps qs →
    rowsBuilt sz j qs = some rows → (j + rows.length) * sz ≤ vs.size → ∃ vs', Instr.fill (fun i => some (i * sz, sz)) vs ps = some vs' ∧ vs'.size = vs.size ∧ (∀ k, k < j * sz → vs'[k]? = vs[k]?) ∧
      ∀ (i k : Nat) (r : List AV) (c : AV), rows[i]? = some r → r[k]? = some c → ∃ v, vs'[(j + i) * sz + k]? = some v ∧ cellV v = true ∧ RV I w β v c
  | [], [], j, vs, rows, _, h, _ => by simp [rowsBuilt] at h; subst h; exact ⟨vs, rfl, rfl, fun _ _ => rfl, fun i k r c hr => by simp at hr⟩
  | (i, x) :: p, (i', v) :: s, j, vs, rows, hp, h, hl => by
    obtain ⟨rfl, hx, hr⟩ := hp
    simp only [rowsBuilt] at h
    split at h
    · rename_i hh
      obtain ⟨rfl, e2, e3⟩ := hh
      cases hrb : rowsBuilt sz (i + 1) s with
      | none => simp [hrb] at h
      | some rows' =>
        simp [hrb] at h; subst h
        have hok : ∀ c ∈ v.cells, c.okc = true := by simpa using e3
        obtain ⟨c1, c2, c3⟩ := cells_ok hx hok
        have hsz : x.cells.size = sz := by rw [← e2]; simpa using c1
        have hmul : i * sz + sz + rows'.length * sz ≤ vs.size := by
          simp only [List.length_cons] at hl
          rw [show (i + (rows'.length + 1)) * sz = i * sz + sz + rows'.length * sz by rw [Nat.add_mul, Nat.add_mul]; omega] at hl
          exact hl
        obtain ⟨f1, f2, f3⟩ := foldl_put (i * sz) x.cells.toList 0 vs (by simp [hsz]; omega)
        rw [← arr_foldl_put] at f1 f2 f3
        obtain ⟨vs', g1, g2, g3, g4⟩ := fillRows_sound (vs := x.cells.zipIdx.foldl (fun cs (c, j) => cs.setIfInBounds (i * sz + j) c) vs) hr hrb (by
          rw [f1, show (i + 1 + rows'.length) * sz = i * sz + sz + rows'.length * sz by rw [Nat.add_mul, Nat.add_mul]; omega]; exact hmul)
        refine ⟨vs', ?_, by rw [g2, f1], fun k hk => ?_, fun a k r c hra hc => ?_⟩
        · simp only [Instr.fill]
          rw [if_neg (by rw [hsz]; simp; omega)]
          exact g1
        · rw [g3 k (by rw [Nat.add_mul]; omega), f3 k (by omega)]
        · cases a with
          | zero =>
            simp at hra; subst hra
            have hk : k < v.cells.length := (List.getElem?_eq_some_iff.1 hc).1
            have hlt : k < x.cells.toList.length := by omega
            rw [Nat.add_zero, g3 _ (by rw [Nat.add_mul]; omega)]
            have := f2 k hlt
            rw [Nat.add_zero, List.getElem?_eq_getElem hlt] at this
            exact ⟨_, this, c2 _ (List.getElem_mem _), c3 k _ c (List.getElem?_eq_getElem hlt) hc⟩
          | succ a =>
            rw [show i + (a + 1) = i + 1 + a by omega]
            exact g4 a k r c (by simpa using hra) hc
    · cases h
  | [], _ :: _, _, _, _, hp, _, _ => hp.elim
  | _ :: _, [], _, _, _, hp, _, _ => hp.elim

/-- A new array of rows. -/
theorem newArr_sound {I : Nat → Prop} {w w' : World} {β : BMap} {get : GetF} {n sz : Nat} {c : Array Value} {e : TypeId} {fr : Nat × Nat} {rows : List (List AV)} (hs : Sim I β get w)
    (hn : ∀ g', β (.h n g') = none) (hh : w'.heap = w.heap.push (.cells c e fr)) (hos : w'.os = w.os) (htape : w'.tape = w.tape) (hout : w'.output = w.output) (hz : 0 < sz)
    (hr : ∀ r ∈ rows, r.length = sz) (hl : rows.length * sz ≤ c.size) (hf : unfz c fr)
    (h : ∀ (i k : Nat) (r : List AV) (x : AV), rows[i]? = some r → r[k]? = some x → ∃ v, c[i * sz + k]? = some v ∧ cellV v = true ∧ RV I w β v x) :
    Sim I (ext β (.h n 0) (w.heap.size, 0)) (wrG get (.h n 0, some (.arr sz rows))) w' ∧ Step I β get w I (ext β (.h n 0) (w.heap.size, 0)) (wrG get (.h n 0, some (.arr sz rows))) w' := by
  refine hs.new (x := .cells c e fr) hh hos htape hout (hn 0) (fun k g e g' _ => by cases e; exact hn g') fun hm => ?_
  refine ⟨hz, hr, c, e, fr, (heap_push hh).2.1, by simpa using hl, hf, fun i j r x h1 h2 => ?_⟩
  obtain ⟨v, a1, a2, a3⟩ := h i j r x h1 h2
  exact ⟨v, by simpa using a1, a2, hm _ _ a3⟩

/-- The header over a whole new array. -/
theorem rs_new {I : Nat → Prop} {w w' : World} {β : BMap} {n sz len cap : Nat} {c : Array Value} {e : TypeId} {fr : Nat × Nat} (hh : w'.heap = w.heap.push (.cells c e fr)) (hc : len ≤ cap) (hl : cap * sz ≤ c.size) :
    RV I w' (ext β (.h n 0) (w.heap.size, 0)) (.slice (some ⟨w.heap.size, 0, none⟩) len cap) (.rs n 0 0 len sz) := by
  exact RV.rs (I := I) (w := w') (ext β (.h n 0) (w.heap.size, 0)) n 0 0 len sz w.heap.size 0 cap _ (ext_self _ _ _) hc (by simp [csz, (heap_push hh).2.1]; exact hl) (.inr (by simp))

end
end Ab
end Go.Proofs.YtidoflgcblglbaaDoor

/-
  DERIVED. OPERATORS: sums, tests, equality of structs; turning one kind into another.
  Conditions: none of a program's.
-/
namespace Go.Proofs.YtidoflgcblglbaaDoor
namespace Ab
variable [WX]

section
variable {P : Program}

set_option maxHeartbeats 1600000 in
theorem eq1_sound {I : Nat → Prop} {w : World} {β : BMap} {t : TypeId} {x y : Value} {a b : AV} {r : Bool} (d : Nat) (hx : RV I w β x a) (hy : RV I w β y b) (h : eq1 P t a b = some r) :
    (Op.equalIn (d + 1) t x y).run P w = .ok r w := by
  unfold eq1 at h
  split at h <;> rename_i hu <;> first
    | (cases h; done)
    | skip
  all_goals
    cases hx <;> cases hy <;> first
      | (cases h; simp only [Op.equalIn, Sem.run_bind, run_und hu, Result.andThen_ok]; rfl)
      | (split at h
         · rename_i hk; cases h; subst hk; simp only [Op.equalIn, Sem.run_bind, run_und hu, Result.andThen_ok, if_true]; rfl
         · cases h)

theorem eqFs_sound {I : Nat → Prop} {w : World} {β : BMap} {xs ys : Array Value} {as bs : List AV} (d : Nat) (hx : RV I w β (.agg xs) (.agg as)) (hy : RV I w β (.agg ys) (.agg bs)) :
    ∀ {fs : List Field} {r : Bool}, eqFs P as bs fs = some r → (Op.eqFields (d + 1) xs ys fs).run P w = .ok r w
  | [], r, h => by simp [eqFs] at h; subst h; simp [Op.eqFields]
  | f :: fs, r, h => by
    simp only [eqFs] at h
    by_cases hn : f.name = "_"
    · simp only [hn, if_true] at h
      rw [Op.eqFields, if_neg (by simpa using hn)]
      exact eqFs_sound d hx hy h
    · simp only [hn, if_false] at h
      split at h
      · cases h
      · rename_i hagg
        split at h
        · rename_i a b ha hb
          have hl : ∀ {vs : Array Value} {cs : List AV} {c : AV} {o : Nat}, RV I w β (.agg vs) (.agg cs) → cs[o]? = some c → ∃ v, vs[o]? = some v ∧ RV I w β v c := by
            intro vs cs c o hr hc
            cases hr with
            | agg _ _ _ hl _ hv =>
              have ho : o < vs.size := by rw [hl]; exact (List.getElem?_eq_some_iff.1 hc).1
              exact ⟨vs[o], Array.getElem?_eq_getElem ho, hv o _ c (Array.getElem?_eq_getElem ho) hc⟩
          obtain ⟨x, x1, x2⟩ := hl hx ha
          obtain ⟨y, y1, y2⟩ := hl hy hb
          cases he : eq1 P f.type a b with
          | none => simp [he] at h
          | some q =>
            have hq := eq1_sound (P := P) d x2 y2 he
            have hag : (Go.isAgg f.type).run P w = .ok false w := by
              unfold isAgg at hagg
              cases hu : P.underlying f.type with
              | none => unfold eq1 at he; simp [hu] at he
              | some dd =>
                simp [hu] at hagg
                rw [run_aggD hu, hagg]
            have hpx : (part f.type xs f.offset).run P w = .ok x w := by simp [part, hag, x1]
            have hpy : (part f.type ys f.offset).run P w = .ok y w := by simp [part, hag, y1]
            rw [Op.eqFields]
            have hn' : f.name ≠ "_" := hn
            simp only [if_pos hn', Sem.run_bind, hpx, hpy, hq, Result.andThen_ok]
            simp only [he] at h
            cases q
            · cases h; simp
            · simp only [Bool.not_true, Bool.false_eq_true, if_false]
              exact eqFs_sound d hx hy h
        · cases h

theorem eqA_sound {I : Nat → Prop} {w : World} {β : BMap} {t : TypeId} {x y : Value} {a b : AV} {r : Bool} (d : Nat) (hx : RV I w β x a) (hy : RV I w β y b) (h : eqA P t a b = some r) :
    (Op.equalIn (d + 2) t x y).run P w = .ok r w := by
  unfold eqA at h
  split at h
  · rename_i as bs
    cases hx with
    | agg _ xs _ h1 h2 h3 =>
      cases hy with
      | agg _ ys _ k1 k2 k3 =>
        split at h
        · rename_i fields hu
          split at h
          · cases h
          · rename_i hg
            simp at hg
            have hf : P.fieldsOf t = fields := by simp [Program.fieldsOf, hu]
            rw [run_equalIn_struct (P := P) w (d + 1) t xs ys (by rw [hf]; exact hu) hg.1, hf]
            exact eqFs_sound d (.agg _ xs _ h1 h2 h3) (.agg _ ys _ k1 k2 k3) h
        · cases h
  · exact eq1_sound (d + 1) hx hy h

set_option maxHeartbeats 800000 in
theorem run_eqGuard {I : Nat → Prop} {w : World} {β : BMap} {op : BinOp} {t : TypeId} {x y : Value} {a b : AV} {xo yo : Operand} {r : Bool} (hx : RV I w β x a) (hy : RV I w β y b) (h : eqA P t a b = some r) :
    (eqGuard op t xo yo x y).run P w = .ok () w := by
  unfold eqGuard
  cases hx <;> cases hy <;> first
    | (cases op <;> simp; done)
    | (simp only [eqA] at h
       split at h
       · split at h
         · cases h
         · rename_i hg; simp at hg; cases op <;> simp [hg.2]
       · cases h)
    | (simp [eqA, eq1] at h; done)

set_option maxHeartbeats 1600000 in
theorem binA_sound {I : Nat → Prop} {w : World} {β : BMap} {op : BinOp} {t : TypeId} {x y : Value} {a b r : AV} {xo yo : Operand} (hx : RV I w β x a) (hy : RV I w β y b) (h : binA P op t a b = some r) :
    ∃ v, (do eqGuard op t xo yo x y; binOp op t x y : Sem Value).run P w = .ok v w ∧ RV I w β v r := by
  unfold binA at h
  split at h
  · rename_i k m k' m'
    cases hx; cases hy
    have hgd : (eqGuard op t xo yo (.int k m) (.int k' m')).run P w = .ok () w := by unfold eqGuard; cases op <;> simp
    simp only [Sem.run_bind, hgd, Result.andThen_ok]
    unfold intBin at h
    cases op <;> simp only at h
    case shl =>
      split at h
      · cases h
      · rename_i hk; cases h; exact ⟨_, by simp only [binOp, Op.shift, if_neg hk]; rfl, .i _ _ _⟩
    case shr =>
      split at h
      · cases h
      · rename_i hk; cases h; exact ⟨_, by simp only [binOp, Op.shift, if_neg hk]; rfl, .i _ _ _⟩
    case quo =>
      split at h
      · cases h
      · rename_i hk
        split at h
        · cases h
        · rename_i hz; cases h; simp at hk; subst hk; exact ⟨_, by simp only [binOp, ne_eq, not_true_eq_false, if_false, Op.intDiv, if_neg hz]; rfl, .i _ _ _⟩
    case rem =>
      split at h
      · cases h
      · rename_i hk
        split at h
        · cases h
        · rename_i hz; cases h; simp at hk; subst hk; exact ⟨_, by simp only [binOp, ne_eq, not_true_eq_false, if_false, Op.intDiv, if_neg hz]; rfl, .i _ _ _⟩
    all_goals
      split at h
      · cases h
      · rename_i hk
        simp at hk; subst hk
        first
          | (cases h; exact ⟨_, by simp only [binOp, ne_eq, not_true_eq_false, if_false]; rfl, .i _ _ _⟩)
          | (cases h; exact ⟨_, by simp only [binOp, ne_eq, not_true_eq_false, if_false]; rfl, .b _ _⟩)
          | (cases h; done)
  · rename_i s s'
    cases hx; cases hy
    have hgd : (eqGuard op t xo yo (.string s) (.string s')).run P w = .ok () w := by unfold eqGuard; cases op <;> simp
    simp only [Sem.run_bind, hgd, Result.andThen_ok]
    unfold strBin at h
    cases op <;> simp only at h <;> first
      | (cases h; done)
      | (cases h; exact ⟨_, rfl, .b _ _⟩)
      | (split at h
         · rename_i hl; cases h
           refine ⟨_, ?_, .s _ _⟩
           have : ¬ (((s.size + s'.size : Nat) : Int) > IntKind.i64.max) := by simp [IntKind.max, IntKind.signed, IntKind.bits]; omega
           simp only [binOp, Op.stringOp, if_neg this]; rfl
         · cases h)
  · rename_i hni hns
    have hb : (∀ k m k' m', x = .int k m → y = .int k' m' → False) ∧ (∀ s s', x = .string s → y = .string s' → False) := by
      refine ⟨fun k m k' m' e1 e2 => ?_, fun s s' e1 e2 => ?_⟩
      · subst e1; subst e2; cases hx <;> cases hy <;> first
          | exact hni _ _ _ _ rfl rfl
          | (cases op <;> simp [eqA, eq1] at h)
      · subst e1; subst e2; cases hx <;> cases hy <;> first
          | exact hns _ _ rfl rfl
          | (cases op <;> simp [eqA, eq1] at h)
    split at h
    · cases he : eqA P t a b with
      | none => simp [he] at h
      | some q =>
        simp [he] at h; subst h
        refine ⟨.bool q, ?_, .b _ _⟩
        simp only [Sem.run_bind, run_eqGuard hx hy he, Result.andThen_ok]
        have hq := eqA_sound (P := P) 9998 hx hy he
        have : binOp .eql t x y = (do pure (.bool (← Op.equal t x y)) : Sem Value) := by
          cases hx <;> cases hy <;> first
            | rfl
            | (exfalso; exact hb.1 _ _ _ _ rfl rfl)
            | (exfalso; exact hb.2 _ _ rfl rfl)
            | (simp [eqA, eq1] at he; done)
        rw [this]
        simp only [Op.equal, Op.maxDepth, Sem.run_bind, hq, Result.andThen_ok, Sem.run_pure]
    · cases he : eqA P t a b with
      | none => simp [he] at h
      | some q =>
        simp [he] at h; subst h
        refine ⟨.bool !q, ?_, .b _ _⟩
        simp only [Sem.run_bind, run_eqGuard hx hy he, Result.andThen_ok]
        have hq := eqA_sound (P := P) 9998 hx hy he
        have : binOp .neq t x y = (do pure (.bool (!(← Op.equal t x y))) : Sem Value) := by
          cases hx <;> cases hy <;> first
            | rfl
            | (exfalso; exact hb.1 _ _ _ _ rfl rfl)
            | (exfalso; exact hb.2 _ _ rfl rfl)
            | (simp [eqA, eq1] at he; done)
        rw [this]
        simp only [Op.equal, Op.maxDepth, Sem.run_bind, hq, Result.andThen_ok, Sem.run_pure]
    · cases h

theorem unA_sound {I : Nat → Prop} {w : World} {β : BMap} {op : UnOp} {x : Value} {a r : AV} (hx : RV I w β x a) (h : unA op a = some r) : ∃ v, (Op.unary op x).run P w = .ok v w ∧ RV I w β v r := by
  unfold unA at h
  split at h <;> cases h <;> cases hx
  · exact ⟨_, by simp [Op.unary, Op.intArith]; rfl, by simpa using .i _ _ _⟩
  · exact ⟨_, rfl, .i _ _ _⟩
  · exact ⟨_, rfl, .b _ _⟩

end
end Ab
end Go.Proofs.YtidoflgcblglbaaDoor

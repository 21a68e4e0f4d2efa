/-
  DERIVED. WHAT A READING TELLS OF AN ARGUMENT: cells of a type, all of them there before.
  Conditions: none of a program's.
-/
import Derived.Test.YtidoflgcblglbaaDoorAbE
import GoSem.ClaimChange
import Derived.OpenShut
import Derived.DataShut
import Derived.Handed
set_option linter.all false
set_option maxHeartbeats 4000000
namespace Go.Proofs.YtidoflgcblglbaaDoor
namespace Ab
variable [WX]

mutual
/-- How much a reading holds. -/
def bulkD {H : Type} : DataW H → Nat
  | .lit (.string bytes) => bytes.length + 1
  | .lit _ => 1
  | .nil => 1
  | .ptr d => bulkD d + 1
  | .slice elems spare => bulkDs elems + bulkDs spare + 1
  | .agg parts => bulkDs parts + 1
  | .iface _ d => bulkD d + 1
  | .map entries => bulkDes entries + 1
  | .held _ => 1
def bulkDs {H : Type} : List (DataW H) → Nat
  | [] => 0
  | d :: r => bulkD d + bulkDs r
def bulkDes {H : Type} : List (Lit × DataW H) → Nat
  | [] => 0
  | x :: r => bulkDe x + bulkDes r
def bulkDe {H : Type} : Lit × DataW H → Nat
  | (.string bytes, d) => bytes.length + bulkD d + 1
  | (_, d) => bulkD d + 1
end

/-- How much a value holds. -/
def bulkA : Nat → AV → Nat
  | _, .s s => s.size + 1
  | n + 1, .vs _ _ rows => (rows.map fun r => (r.map (bulkA n)).sum).sum + 1
  | _, _ => 1

/-- Parts, one behind the other. -/
def TyS (P : Program) (T : TypeId → List AV → Prop) : List TypeId → List AV → Prop
  | [], cs => cs = []
  | t :: ts, cs => ∃ a b, cs = a ++ b ∧ a.length = P.cellsOf t ∧ T t a ∧ TyS P T ts b

/-- Cells that are a value of a type. -/
def TyC (P : Program) : Nat → TypeId → List AV → Prop
  | 0, _, _ => False
  | n + 1, t, cs => match P.underlying t with
    | some .bool => ∃ b, cs = [.b b]
    | some (.int k) => ∃ x, cs = [.i k x] ∧ (Lit.int k x).wf = true
    | some .string => ∃ s : ByteArray, cs = [.s s] ∧ s.size ≤ maxLen
    | some (.slice e) => ∃ nil rows, cs = [.vs nil (P.cellsOf e) rows] ∧ (nil = true → rows = []) ∧ rows.length ≤ maxLen ∧ ∀ r ∈ rows, r.length = P.cellsOf e ∧ TyC P n e r
    | some (.struct fs) => TyS P (TyC P n) (fs.toList.map (·.type)) cs
    | some (.array m e) => TyS P (TyC P n) (List.replicate m e) cs
    | _ => False

/-- The parts of a struct lie side by side. -/
def segOk (P : Program) : Nat → List Field → Option Nat
  | off, [] => some off
  | off, f :: r => if f.offset = off then segOk P (off + P.cellsOf f.type) r else none

/-- Is a type of those that are told? -/
def tyOk (P : Program) : Nat → TypeId → Bool
  | 0, _ => false
  | n + 1, t => match P.underlying t with
    | some .bool | some (.int _) | some .string => true
    | some (.slice e) => decide (0 < P.cellsOf e) && tyOk P n e
    | some (.struct fs) => decide (segOk P 0 fs.toList = some (P.cellsOf t)) && fs.toList.all fun f => tyOk P n f.type
    | some (.array m e) => decide (P.cellsOf t = m * P.cellsOf e) && tyOk P n e
    | _ => false

def All2 (R : Value → AV → Prop) (cs : List Value) (xs : List AV) : Prop := cs.length = xs.length ∧ ∀ (j : Nat) (v : Value) (x : AV), cs[j]? = some v → xs[j]? = some x → R v x

theorem All2.one {R : Value → AV → Prop} {v : Value} {x : AV} (h : R v x) : All2 R [v] [x] := ⟨rfl, fun j v x hv hx => by
  cases j with
  | zero => simp at hv hx; subst hv hx; exact h
  | succ j => simp at hv⟩

theorem All2.nil {R : Value → AV → Prop} : All2 R [] [] := ⟨rfl, fun j v x hv => by simp at hv⟩

theorem All2.append {R : Value → AV → Prop} {a b : List Value} {x y : List AV} (h : All2 R a x) (k : All2 R b y) : All2 R (a ++ b) (x ++ y) := by
  refine ⟨by simp [h.1, k.1], fun j v z hv hz => ?_⟩
  by_cases hj : j < a.length
  · rw [List.getElem?_append_left hj] at hv
    rw [List.getElem?_append_left (by rw [← h.1]; exact hj)] at hz
    exact h.2 j v z hv hz
  · rw [List.getElem?_append_right (by omega)] at hv
    rw [List.getElem?_append_right (by rw [← h.1]; omega), ← h.1] at hz
    exact k.2 _ v z hv hz

theorem mapO_get {α β : Type} {f : α → Option β} : ∀ {l : List α} {r : List β}, l.mapM f = some r → r.length = l.length ∧ ∀ (i : Nat) (x : α), l[i]? = some x → ∃ y, r[i]? = some y ∧ f x = some y
  | [], r, h => by simp at h; subst h; exact ⟨rfl, fun i x hx => by simp at hx⟩
  | a :: l, r, h => by
    rw [List.mapM_cons] at h
    cases ha : f a with
    | none => simp [ha] at h
    | some b =>
      simp only [ha, Option.bind_eq_bind, Option.bind_some] at h
      cases hl : l.mapM f with
      | none => simp [hl] at h
      | some r' =>
        simp [hl] at h
        subst h
        obtain ⟨h1, h2⟩ := mapO_get hl
        refine ⟨by simp [h1], fun i x hx => ?_⟩
        cases i with
        | zero => simp at hx; subst hx; exact ⟨b, rfl, ha⟩
        | succ i => simp only [List.getElem?_cons_succ] at hx ⊢; exact h2 i x hx

def bulkL (n : Nat) (xs : List AV) : Nat := (xs.map (bulkA n)).sum

theorem bulkL_append (n : Nat) (a b : List AV) : bulkL n (a ++ b) = bulkL n a + bulkL n b := by simp [bulkL]

theorem bulkA_pos (n : Nat) (x : AV) : 1 ≤ bulkA n x := by
  cases n <;> cases x <;> simp [bulkA]

theorem bulkL_len (n : Nat) (xs : List AV) : xs.length ≤ bulkL n xs := by
  induction xs with
  | nil => exact Nat.le_refl _
  | cons x xs ih =>
    have := bulkA_pos n x
    simp only [bulkL, List.map_cons, List.sum_cons, List.length_cons] at ih ⊢
    omega

/-- Rows of a slice, one per place. -/
theorem rows_of {H : Type} {α : Type} {g : α → Option (DataW H × List MemPlace)} {Pr : α → List AV → Prop} : ∀ {l : List α} {es : List (DataW H × List MemPlace)}, l.mapM g = some es →
    (∀ i ∈ l, ∀ y, g i = some y → ∃ xs, Pr i xs ∧ ∀ n, bulkL n xs ≤ bulkD y.1) →
    ∃ rows : List (List AV), rows.length = l.length ∧ (∀ (k : Nat) (i : α) (r : List AV), l[k]? = some i → rows[k]? = some r → Pr i r) ∧ ∀ n, (rows.map (bulkL n)).sum ≤ bulkDs (es.map (·.1))
  | [], es, h, _ => by simp at h; subst h; exact ⟨[], rfl, fun k i r hi => by simp at hi, fun _ => Nat.le_refl _⟩
  | a :: l, es, h, hp => by
    rw [List.mapM_cons] at h
    cases ha : g a with
    | none => simp [ha] at h
    | some b =>
      simp only [ha, Option.bind_eq_bind, Option.bind_some] at h
      cases hl : l.mapM g with
      | none => simp [hl] at h
      | some es' =>
        simp [hl] at h
        subst h
        obtain ⟨rows, h1, h2, h3⟩ := rows_of hl fun i hi => hp i (List.mem_cons_of_mem _ hi)
        obtain ⟨xs, hx, hb⟩ := hp a List.mem_cons_self b ha
        refine ⟨xs :: rows, by simp [h1], fun k i r hi hr => ?_, fun n => ?_⟩
        · cases k with
          | zero => simp at hi hr; subst hi hr; exact hx
          | succ k => simp only [List.getElem?_cons_succ] at hi hr; exact h2 k i r hi hr
        · have := hb n
          have := h3 n
          simp only [List.map_cons, List.sum_cons, bulkDs]; omega

end Ab
end Go.Proofs.YtidoflgcblglbaaDoor

/-
  DERIVED. WHAT A READING TELLS OF AN ARGUMENT: the law.
  Conditions: none of a program's.
-/
namespace Go.Proofs.YtidoflgcblglbaaDoor
namespace Ab
variable [WX]

/-- A cell that was there before, and what is told of it. -/
def Rw (w : World) (v : Value) (x : AV) : Prop := RV (AllB w) w noB v x ∧ cellV v = true

section
variable {H : Type} {enc : TypeId × Value → H} {P : Program} {w : World} {spare : Nat → Bool} {held : Bool}

theorem cell?_add {a : Addr} {n : Nat} {v : Value} (h : w.cell? (a.add n) = some v) : w.cell? ⟨a.block, a.off + n, none⟩ = some v := by
  unfold Addr.add at h
  split at h
  · rename_i hn
    subst hn
    obtain ⟨b, o, sp⟩ := a
    cases sp with
    | none => exact h
    | some x =>
      unfold World.cell? at h
      split at h
      · simp at h
      · cases h
  · exact h

theorem add_at (a : Addr) (n : Nat) : (a.add n).block = a.block ∧ (a.add n).off = a.off + n := by
  unfold Addr.add
  split
  · rename_i hn; subst hn; exact ⟨rfl, rfl⟩
  · exact ⟨rfl, rfl⟩

theorem spot_none {a : Addr} {n : Nat} {cs : List Value} (h : w.cells? 0 a n = some cs) (hn : 0 < n) : a.spot = none := by
  unfold World.cells? at h
  rw [if_pos (Nat.zero_le _)] at h
  obtain ⟨_, h2⟩ := mapO_get h
  obtain ⟨y, _, hc⟩ := h2 0 0 (by simp [hn])
  unfold Addr.add at hc
  rw [if_pos rfl] at hc
  unfold World.cell? at hc
  split at hc
  · split at hc
    · cases hc
    · rename_i hs; simpa using hs
  · cases hc

theorem cells?_spec {a : Addr} {n : Nat} {cs : List Value} (h : w.cells? 0 a n = some cs) : cs.length = n ∧ ∀ j, j < n → ∃ v, cs[j]? = some v ∧ w.cell? ⟨a.block, a.off + j, none⟩ = some v := by
  unfold World.cells? at h
  rw [if_pos (Nat.zero_le _)] at h
  obtain ⟨h1, h2⟩ := mapO_get h
  refine ⟨by simpa using h1, fun j hj => ?_⟩
  obtain ⟨y, hy, hc⟩ := h2 j j (by simp [hj])
  exact ⟨y, hy, cell?_add hc⟩

/-- What is told of a list of types, each at its place. -/
theorem segs_typed {n m : Nat} (ih : ∀ (t : TypeId) (cs : List Value) (d : DataW H) (ps : List MemPlace), tyOk P n t = true → DataW.trod enc P w 0 spare held m t cs = some (d, ps) → ∃ xs, TyC P n t xs ∧ All2 (Rw w) cs xs ∧ ∀ k, bulkL k xs ≤ bulkD d) :
    ∀ (ts : List TypeId) (cs : List Value) (ds : List (DataW H)), (∀ t ∈ ts, tyOk P n t = true) → cs.length = (ts.map P.cellsOf).sum → ds.length = ts.length →
      (∀ (i : Nat) (t : TypeId), ts[i]? = some t → ∃ d ps, ds[i]? = some d ∧ DataW.trod enc P w 0 spare held m t ((cs.drop ((ts.take i).map P.cellsOf).sum).take (P.cellsOf t)) = some (d, ps)) →
      ∃ xs, TyS P (TyC P n) ts xs ∧ All2 (Rw w) cs xs ∧ ∀ k, bulkL k xs ≤ bulkDs ds
  | [], cs, ds, _, hl, hd, _ => by
    simp at hl hd
    subst hl hd
    exact ⟨[], rfl, .nil, fun _ => Nat.le_refl _⟩
  | t :: ts, cs, ds, hok, hl, hd, h => by
    match ds, hd with
    | d :: ds, hd =>
      simp only [List.map_cons, List.sum_cons, List.length_cons, Nat.add_right_cancel_iff] at hl hd
      obtain ⟨d0, ps, hd0, ht0⟩ := h 0 t rfl
      simp only [List.getElem?_cons_zero, Option.some.injEq] at hd0
      subst hd0
      simp only [List.take_zero, List.map_nil, List.sum_nil, List.drop_zero] at ht0
      obtain ⟨x0, h1, h2, h3⟩ := ih t _ d ps (hok t List.mem_cons_self) ht0
      obtain ⟨xr, k1, k2, k3⟩ := segs_typed ih ts (cs.drop (P.cellsOf t)) ds (fun t ht => hok t (List.mem_cons_of_mem _ ht)) (by simp [hl]) hd fun i t' ht' => by
        obtain ⟨d', ps', hd', hr'⟩ := h (i + 1) t' ht'
        refine ⟨d', ps', hd', ?_⟩
        rw [List.drop_drop]
        simpa [List.take_succ_cons] using hr'
      refine ⟨x0 ++ xr, ⟨x0, xr, rfl, ?_, h1, k1⟩, ?_, fun k => ?_⟩
      · rw [← h2.1, List.length_take]; omega
      · have := h2.append k2
        rwa [List.take_append_drop] at this
      · have := h3 k
        have := k3 k
        rw [bulkL_append]; simp only [bulkDs]; omega

theorem segOk_spec : ∀ (fs : List Field) (off tot : Nat), segOk P off fs = some tot → tot = off + ((fs.map (·.type)).map P.cellsOf).sum ∧
    ∀ (i : Nat) (f : Field), fs[i]? = some f → f.offset = off + (((fs.map (·.type)).take i).map P.cellsOf).sum
  | [], off, tot, h => by cases h; exact ⟨by simp, fun i f hf => by simp at hf⟩
  | f :: r, off, tot, h => by
    unfold segOk at h
    split at h
    · rename_i ho
      obtain ⟨h1, h2⟩ := segOk_spec r _ tot h
      refine ⟨by rw [h1]; simp; omega, fun i g hg => ?_⟩
      cases i with
      | zero => simp at hg ⊢; subst hg; exact ho
      | succ i =>
        simp only [List.getElem?_cons_succ] at hg
        have := h2 i g hg
        simp only [List.map_cons, List.take_succ_cons, List.sum_cons]
        omega
    · cases h

theorem trod_typed : ∀ (n m : Nat) (t : TypeId) (cs : List Value) (d : DataW H) (ps : List MemPlace), tyOk P n t = true → DataW.trod enc P w 0 spare held m t cs = some (d, ps) →
    ∃ xs, TyC P n t xs ∧ All2 (Rw w) cs xs ∧ ∀ k, bulkL k xs ≤ bulkD d
  | 0, m, t, cs, d, ps, hok, _ => by cases hok
  | n + 1, m, t, cs, d, ps, hok, h => by
    unfold tyOk at hok
    split at hok
    · rename_i hu
      obtain ⟨b, rfl, hx⟩ := DataW.trod_bool hu h
      cases hx
      refine ⟨[.b b], ?_, .one ⟨.b _ _, rfl⟩, fun k => by cases k <;> simp [bulkL, bulkA, bulkD]⟩
      unfold TyC; rw [hu]; exact ⟨b, rfl⟩
    · rename_i k hu
      obtain ⟨x, rfl, hx, hw⟩ := DataW.trod_int hu h
      cases hx
      refine ⟨[.i k x], ?_, .one ⟨.i _ _ _, rfl⟩, fun k => by cases k <;> simp [bulkL, bulkA, bulkD]⟩
      unfold TyC; rw [hu]; exact ⟨x, rfl, hw⟩
    · rename_i hu
      obtain ⟨s, rfl, hx, hw⟩ := DataW.trod_string hu h
      cases hx
      refine ⟨[.s s], ?_, .one ⟨.s _ _, rfl⟩, fun k => by cases k <;> simp [bulkL, bulkA, bulkD]⟩
      unfold TyC; rw [hu]; exact ⟨s, rfl, hw⟩
    · rename_i e hu
      rw [Bool.and_eq_true, decide_eq_true_iff] at hok
      rcases DataW.trod_slice hu h with ⟨rfl, hx⟩ | ⟨a, len, cap, elems, rest, m', rfl, rfl, hx, _, hlc, hcm, hel, hread, _⟩
      · cases hx
        refine ⟨[.vs true (P.cellsOf e) []], ?_, .one ⟨.vsn _ _, rfl⟩, fun k => by cases k <;> simp [bulkL, bulkA, bulkD]⟩
        unfold TyC; rw [hu]; exact ⟨true, [], rfl, fun _ => rfl, by simp, fun r hr => by cases hr⟩
      · cases hx
        have hM : (List.range len).mapM (fun i => (w.cells? 0 (a.add (i * P.cellsOf e)) (P.cellsOf e)).bind (DataW.trod enc P w 0 spare held m' e)) = some elems :=
          mapM_some_of_get _ _ (by simp [hel]) fun i x hx => by
            have hi : i < len := by simpa using (List.getElem?_eq_some_iff.1 hx).1
            have : x = i := by simpa [hi] using hx.symm
            subst this
            exact hread x hi
        obtain ⟨rows, r1, r2, r3⟩ := rows_of (Pr := fun i xs => TyC P n e xs ∧ xs.length = P.cellsOf e ∧ ∀ j x, xs[j]? = some x → ∃ v, w.cell? ⟨a.block, a.off + i * P.cellsOf e + j, none⟩ = some v ∧ Rw w v x) hM fun i hi y hy => by
          cases hc : w.cells? 0 (a.add (i * P.cellsOf e)) (P.cellsOf e) with
          | none => simp [hc] at hy
          | some cs' =>
            simp only [hc, Option.bind_some] at hy
            obtain ⟨c1, c2⟩ := cells?_spec hc
            obtain ⟨d', ps'⟩ := y
            obtain ⟨xs, x1, x2, x3⟩ := trod_typed n m' e cs' d' ps' hok.2 hy
            refine ⟨xs, ⟨x1, by rw [← x2.1, c1], fun j x hx => ?_⟩, x3⟩
            have hj : j < P.cellsOf e := by rw [← c1, x2.1]; exact (List.getElem?_eq_some_iff.1 hx).1
            obtain ⟨v, hv, hcv⟩ := c2 j hj
            refine ⟨v, ?_, x2.2 j v x hv hx⟩
            rwa [(add_at a _).1, (add_at a _).2] at hcv
        have hlen : rows.length = len := by simpa using r1
        have hrow : ∀ (i : Nat) (r : List AV), rows[i]? = some r → TyC P n e r ∧ r.length = P.cellsOf e ∧ ∀ j x, r[j]? = some x → ∃ v, w.cell? ⟨a.block, a.off + i * P.cellsOf e + j, none⟩ = some v ∧ Rw w v x := fun i r hr => by
          have hi : i < len := by rw [← hlen]; exact (List.getElem?_eq_some_iff.1 hr).1
          exact r2 i i r (by simp [hi]) hr
        refine ⟨[.vs false (P.cellsOf e) rows], ?_, .one ⟨?_, rfl⟩, ?_⟩
        · unfold TyC; rw [hu]
          refine ⟨false, rows, rfl, (fun h => nomatch h), by omega, fun r hr => ?_⟩
          obtain ⟨i, hi⟩ := List.getElem?_of_mem hr
          exact ⟨(hrow i r hi).2.1, (hrow i r hi).1⟩
        · match rows, hlen, hrow with
          | [], hlen, _ =>
            simp at hlen; subst hlen
            exact .vs0 _ _ _ _
          | r0 :: rr, hlen, hrow =>
            have h0 := hrow 0 r0 rfl
            have hlt : 0 < r0.length := by rw [h0.2.1]; exact hok.1
            obtain ⟨v0, hv0, _⟩ := h0.2.2 0 r0[0] (by simp [hlt])
            have hb : a.block < w.heap.size := by
              unfold World.cell? at hv0
              split at hv0
              · rename_i hh; exact (Array.getElem?_eq_some_iff.1 hh).1
              · cases hv0
            have hsp : a.spot = none := by
              have h1 := hread 0 (by rw [← hlen]; simp)
              have h2 : 0 < elems.length := by rw [hel, ← hlen]; simp
              rw [List.getElem?_eq_getElem h2] at h1
              cases hc : w.cells? 0 (a.add (0 * P.cellsOf e)) (P.cellsOf e) with
              | none => rw [hc] at h1; cases h1
              | some cs' =>
                rw [Nat.zero_mul] at hc
                have : a.add 0 = a := by simp [Addr.add]
                rw [this] at hc
                exact spot_none hc hok.1
            have ha : a = ⟨a.block, a.off, none⟩ := by
              obtain ⟨b, o, sp⟩ := a
              simp only at hsp
              rw [hsp]
            rw [ha]
            refine .vs _ a.block a.off len cap (P.cellsOf e) (r0 :: rr) (fun i j => (w.cell? ⟨a.block, a.off + i * P.cellsOf e + j, none⟩).getD undef) hb (fun r hr => ?_) hlen hlc (fun i j r c hi hj => ?_) fun i j r c hi hj => ?_
            · obtain ⟨i, hi⟩ := List.getElem?_of_mem hr
              exact (hrow i r hi).2.1
            · obtain ⟨v, hv, hvr⟩ := (hrow i r hi).2.2 j c hj
              rw [hv]; exact ⟨rfl, hvr.2⟩
            · obtain ⟨v, hv, hvr⟩ := (hrow i r hi).2.2 j c hj
              rw [hv]; exact hvr.1
        · intro k
          cases k with
          | zero => simp [bulkL, bulkA, bulkD]
          | succ k =>
            have : bulkL (k + 1) [AV.vs false (P.cellsOf e) rows] = (rows.map (bulkL k)).sum + 1 := by simp only [bulkL, List.map_cons, List.map_nil, List.sum_cons, List.sum_nil, bulkA]; rfl
            have := r3 k
            simp only [bulkD]; omega
    · rename_i fs hu
      rw [Bool.and_eq_true, decide_eq_true_iff, List.all_eq_true] at hok
      obtain ⟨xs, m', rfl, hx, hl, hxl, hread⟩ := DataW.trod_struct hu h
      cases hx
      obtain ⟨s1, s2⟩ := segOk_spec _ _ _ hok.1
      obtain ⟨ys, y1, y2, y3⟩ := segs_typed (fun t cs d ps => trod_typed n m' t cs d ps) (fs.toList.map (·.type)) cs (xs.map (·.1)) (fun t ht => by
        obtain ⟨f, hf, rfl⟩ := List.mem_map.1 ht
        exact hok.2 f hf) (by omega) (by simp [hxl]) fun i t ht => by
          simp only [List.getElem?_map, Option.map_eq_some_iff] at ht
          obtain ⟨f, hf, rfl⟩ := ht
          have hr := hread i f (by simpa using hf)
          have hi : i < xs.length := by rw [hxl]; have := (List.getElem?_eq_some_iff.1 hf).1; simpa using this
          refine ⟨xs[i].1, xs[i].2, by simp [hi], ?_⟩
          rw [s2 i f hf, Nat.zero_add] at hr
          rw [hr, List.getElem?_eq_getElem hi]
      refine ⟨ys, ?_, y2, ?_⟩
      · unfold TyC; rw [hu]; exact y1
      · intro k
        have := y3 k
        simp only [bulkD]; omega
    · rename_i mm e hu
      rw [Bool.and_eq_true, decide_eq_true_iff] at hok
      obtain ⟨xs, m', rfl, hx, hl, hxl, hread⟩ := DataW.trod_array hu h
      cases hx
      have hsum : ∀ k, ((List.replicate k e).map P.cellsOf).sum = k * P.cellsOf e := fun k => by
        induction k with
        | zero => simp
        | succ k ih => rw [List.replicate_succ, List.map_cons, List.sum_cons, ih, Nat.add_mul]; omega
      obtain ⟨ys, y1, y2, y3⟩ := segs_typed (fun t cs d ps => trod_typed n m' t cs d ps) (List.replicate mm e) cs (xs.map (·.1)) (fun t ht => by
        rw [(List.mem_replicate.1 ht).2]; exact hok.2) (by rw [hsum, hl, hok.1]) (by simp [hxl]) fun i t ht => by
          have hi : i < mm := by have := (List.getElem?_eq_some_iff.1 ht).1; simpa using this
          have : t = e := by simpa [hi] using ht.symm
          subst this
          have hr := hread i hi
          have hi' : i < xs.length := by omega
          refine ⟨xs[i].1, xs[i].2, by simp [hi'], ?_⟩
          rw [List.take_replicate, hsum, Nat.min_eq_left (Nat.le_of_lt hi), hr, List.getElem?_eq_getElem hi']
      refine ⟨ys, ?_, y2, ?_⟩
      · unfold TyC; rw [hu]; exact y1
      · intro k
        have := y3 k
        simp only [bulkD]; omega
    · cases hok

end
end Ab
end Go.Proofs.YtidoflgcblglbaaDoor

/-
  DERIVED. FROM A CALL TO A LAW: the arguments told of, the answer, and all that was there as it was.
  Conditions: none of a program's.
-/
namespace Go.Proofs.YtidoflgcblglbaaDoor
namespace Ab
variable [WX]

/-- What is told of an argument of a type. -/
def ArgOf (P : Program) (n : Nat) (t : TypeId) (x : AV) : Prop := match P.underlying t with
  | some (.struct _) | some (.array _ _) => ∃ xs, x = .agg xs ∧ TyC P n t xs
  | _ => TyC P n t [x]

section
variable {H : Type} {enc : TypeId × Value → H} {P : Program} {w : World} {spare : Nat → Bool} {held : Bool}

theorem arg_typed {n : Nat} {t : TypeId} {v : Value} {d : DataW H} {ps : List MemPlace} {base : Nat} (hok : tyOk P n t = true) (hv : Value.okWide P w .any base t v) (h : DataW.Trod enc P w 0 spare held t v d ps) :
    ∃ x, ArgOf P n t x ∧ RV (AllB w) w noB v x ∧ ∀ k, bulkL k x.cells ≤ bulkD d := by
  obtain ⟨m, hm⟩ := h
  obtain ⟨xs, h1, h2, h3⟩ := trod_typed n m t _ d ps hok hm
  unfold Value.okWide at hv
  unfold ArgOf
  have single : ∀ (v : Value), cellV v = true → v.cells.toList = [v] := fun v hc => by cases v <;> first | rfl | cases hc
  have hagg : ∀ cs : Array Value, v = .agg cs → RV (AllB w) w noB v (.agg xs) ∧ ∀ k, bulkL k (AV.agg xs).cells ≤ bulkD d := fun cs hc => by
    subst hc
    have : (Value.agg cs).cells.toList = cs.toList := rfl
    rw [this] at h2
    refine ⟨.agg _ _ _ (by simpa using h2.1) (fun j v hj => ?_) fun j v c hj hc => (h2.2 j v c (by simpa using hj) hc).1, h3⟩
    have hlt : j < xs.length := by rw [← h2.1]; simpa using (Array.getElem?_eq_some_iff.1 hj).1
    exact (h2.2 j v xs[j] (by simpa using hj) (by simp [hlt])).2
  split at hv
  · rename_i fs hu
    obtain ⟨cs, hc, _, _⟩ := hv
    rw [hu]
    obtain ⟨a, b⟩ := hagg cs hc
    exact ⟨.agg xs, ⟨xs, rfl, h1⟩, a, b⟩
  · rename_i m' e hu
    obtain ⟨cs, hc, _, _⟩ := hv
    rw [hu]
    obtain ⟨a, b⟩ := hagg cs hc
    exact ⟨.agg xs, ⟨xs, rfl, h1⟩, a, b⟩
  · rename_i hns hna
    have hcell : cellV v = true := by
      cases v <;> first | rfl | (exfalso; unfold Cell.okWide at hv; (repeat' split at hv) <;> first | contradiction | (unfold Cell.ok at hv; (repeat' split at hv) <;> first | contradiction | simp_all))
    rw [single v hcell] at h2
    have hl : xs.length = 1 := h2.1.symm
    match xs, hl with
    | [x], _ =>
      have hx := h2.2 0 v x rfl rfl
      refine ⟨x, ?_, hx.1, fun k => ?_⟩
      · split
        · rename_i fs hu; exact absurd hu (hns fs)
        · rename_i m' e hu; exact absurd hu (hna m' e)
        · exact h1
      · have : x.cells = [x] := by
          have hx2 := hx.1
          cases hx2 <;> first | rfl | (cases hcell)
        rw [this]; exact h3 k

theorem args_typed {n : Nat} {base : Nat} : ∀ {ts : List TypeId} {vs : List Value} {ds : List (DataW H)} {ps : List MemPlace}, DataW.TrodAll enc P w 0 spare held ts vs ds ps → (∀ t ∈ ts, tyOk P n t = true) →
    (∀ (j : Nat) (t : TypeId) (v : Value), ts[j]? = some t → vs[j]? = some v → Value.okWide P w .any base t v) →
    ∃ xs : List AV, xs.length = vs.length ∧ xs.length = ts.length ∧ (∀ (j : Nat) (t : TypeId) (x : AV), ts[j]? = some t → xs[j]? = some x → ArgOf P n t x) ∧
      (∀ (j : Nat) (v : Value) (x : AV), vs[j]? = some v → xs[j]? = some x → RV (AllB w) w noB v x) ∧ ∀ k, (xs.map fun x => bulkL k x.cells).sum ≤ bulkDs ds
  | [], [], [], ps, _, _, _ => ⟨[], rfl, rfl, fun j t x h => by simp at h, fun j v x h => by simp at h, fun _ => Nat.le_refl _⟩
  | t :: ts, v :: vs, d :: ds, ps, h, hok, hval => by
    obtain ⟨p, q, h1, h2, _⟩ := h
    obtain ⟨x, a1, a2, a3⟩ := arg_typed (hok t List.mem_cons_self) (hval 0 t v rfl rfl) h1
    obtain ⟨xs, b1, b2, b3, b4, b5⟩ := args_typed h2 (fun t ht => hok t (List.mem_cons_of_mem _ ht)) fun j t v ht hv => hval (j + 1) t v ht hv
    refine ⟨x :: xs, by simp [b1], by simp [b2], fun j t' x' ht hx => ?_, fun j v' x' hv hx => ?_, fun k => ?_⟩
    · cases j with
      | zero => simp at ht hx; subst ht hx; exact a1
      | succ j => exact b3 j t' x' (by simpa using ht) (by simpa using hx)
    · cases j with
      | zero => simp at hv hx; subst hv hx; exact a2
      | succ j => exact b4 j v' x' (by simpa using hv) (by simpa using hx)
    · have := a3 k
      have := b5 k
      simp only [List.map_cons, List.sum_cons, bulkDs]; omega
  | [], [], _ :: _, _, h, _, _ => h.elim
  | [], _ :: _, _, _, h, _, _ => h.elim
  | _ :: _, [], _, _, h, _, _ => h.elim
  | _ :: _, _ :: _, [], _, h, _, _ => h.elim

end
end Ab
end Go.Proofs.YtidoflgcblglbaaDoor

/-
  DERIVED. FROM A CALL TO A LAW: the law's answer.
  Conditions: none of a program's.
-/
namespace Go.Proofs.YtidoflgcblglbaaDoor
namespace Ab
variable [WX]

theorem keptBut_of_below {w w' : World} (h : RowKit.Below w.heap.size w w') (may : MemPlace → Prop) : w.keptBut w' may := by
  refine ⟨h.os, h.output, fun i hi => ?_⟩
  rw [h.block i hi]
  split
  · rename_i c t fr c' t' fr' h1 h2
    cases h1.symm.trans h2
    exact ⟨rfl, rfl, rfl, fun _ _ => rfl⟩
  · rename_i es cl es' cl' h1 h2
    cases h1.symm.trans h2
    exact .inr ⟨rfl, rfl⟩
  · rfl

section
variable {H : Type} {enc : TypeId × Value → H} {P : Program}

theorem all_stays (hl : laidOutB P = true) {W W' : World} (hb : RowKit.Below W.heap.size W W') {sp' : Nat → Bool} : ∀ {ts : List TypeId} {vs : List Value} {ds : List (DataW H)} {ps : List MemPlace},
    (∀ t ∈ ts, P.readableRec t = true ∧ t < P.types.size) → DataW.TrodAll enc P W 0 (fun _ => true) true ts vs ds ps → (∀ p ∈ ps, p.block < W.heap.size) → (∀ p ∈ ps, sp' p.block = true) → DataW.TrodAll enc P W' 0 sp' true ts vs ds ps
  | [], [], [], ps, _, h, _, _ => h
  | t :: ts, v :: vs, d :: ds, ps, hr, ⟨p, q, h1, h2, h3⟩, hlt, hs => by
    subst h3
    exact ⟨p, q, WideElems.Trod_stays hl (hr t List.mem_cons_self).1 (hr t List.mem_cons_self).2 h1 (fun x hx => hb.same (hlt x (List.mem_append_left _ hx))) fun x hx => hs x (List.mem_append_left _ hx),
      all_stays hl hb (fun t ht => hr t (List.mem_cons_of_mem _ ht)) h2 (fun x hx => hlt x (List.mem_append_right _ hx)) fun x hx => hs x (List.mem_append_right _ hx), rfl⟩
  | [], [], _ :: _, _, _, h, _, _ => h.elim
  | [], _ :: _, _, _, _, h, _, _ => h.elim
  | _ :: _, [], _, _, _, h, _, _ => h.elim
  | _ :: _, _ :: _, [], _, _, h, _, _ => h.elim

/-- The answer 'true', each argument as it was. -/
theorem law_post {s : ChangeSpec} {fn : Func} {apart fresh handsOn again : Bool} {W W' : World} {args : Array Value} {ds gs : List (DataW H)} {before : List MemPlace} {tb : TypeId} (hl : laidOutB P = true) (hW : DataW.Whole enc P fn.params.toList s.vars apart W args.toList ds gs before)
    (hvars : s.vars = []) (hres : fn.resultTypes = #[tb]) (htb : P.underlying tb = some .bool) (hs : s.fn H (ds ++ gs) = { results := [.lit (.bool true)], args := ds }) (hread : ∀ t ∈ fn.params.toList, P.readableRec t = true ∧ t < P.types.size)
    (hb : RowKit.Below W.heap.size W W') : s.post enc P fn apart fresh handsOn again W args (.bool true) W' := by
  have hlt := hW.lt
  have hW0 := hW
  obtain ⟨p, q, hA, hV, rfl, hz, hn⟩ := hW0
  rw [hvars] at hV
  obtain ⟨rfl, rfl⟩ := ChangeShapes.trodVars_none hV
  simp only [List.append_nil] at hlt hz hn hW hs
  have hpar : ∀ sp' : Nat → Bool, (∀ x ∈ p, sp' x.block = true) → DataW.TrodAll enc P W' 0 sp' true fn.params.toList args.toList ds p := fun sp' hsp => all_stays hl hb hread hA hlt hsp
  have hr : ∀ (b : Nat) (sp : Nat → Bool) (hd : Bool), DataW.TrodAll enc P W' b sp hd fn.resultTypes.toList ((Value.bool true).resultList fn.resultTypes.size) [.lit (.bool true)] [] := fun b sp hd => by
    rw [hres]
    exact ChangeShapes.trodAll_mk1 (RowKit.shut_bool htb _)
  refine ⟨ds, [], p, [], p, [], hW, ?_, ?_, ?_, keptBut_of_below hb _, fun _ => ⟨fun j t r ht hv => ?_, [.lit (.bool true)] ++ ds, [], p, ⟨p, [], ?_, ?_, by simp, fun b off hp => ?_, hn⟩, fun x hx _ => hx⟩⟩
  · simp only [List.append_nil, hs]; exact hr _ _ _
  · simp only [List.append_nil, hs]; exact hpar _ fun x hx => by simpa using hlt x hx
  · simp only [List.append_nil, hs, hvars]; rfl
  · rw [hres] at ht hv
    cases j with
    | zero =>
      simp [Value.resultList] at ht hv
      subst ht hv
      exact RowKit.okWide_bool_mk htb true
    | succ j => simp at ht
  · exact ChangeShapes.trodAll_append (hpar _ fun _ _ => rfl) (hr _ _ _)
  · rw [hvars]; rfl
  · have hh := hz b off hp
    unfold World.frozen? at hh ⊢
    rw [hb.block b (hlt _ hp)]
    exact hh

end

/-- A law's call ends, and answers true, whatever there was stays. -/
theorem law_calls {C : Cfg} (fit : Fit C) {f : FuncId} {vals : Array Value} {W : World} {xs : List AV} {k n : Nat} {hp' : Hp} {nx' : Nat} (hc : callA C k n f xs [] 0 = some (.b true, hp', nx'))
    (hx : WX.X (AllB W) W) (hlen : xs.length = vals.size) (hR : ∀ (j : Nat) (v : Value) (x : AV), vals[j]? = some v → xs[j]? = some x → RV (AllB W) W noB v x) :
    Calls C.P f vals W fun e W' => e = .returned (.bool true) ∧ RowKit.Below W.heap.size W W' := by
  obtain ⟨_, _, _, h⟩ := callA_sound fit k n f xs [] 0 _ _ _ hc
  refine (h (AllB W) noB W vals (Sim.nothing (fun _ h => h) hx) (fun n _ _ => ⟨fun _ => rfl, fun _ => rfl⟩) ⟨hlen.symm, hR⟩).mono fun e W' ⟨v, I', β', he, hv, _, hst, _⟩ => ?_
  subst he
  cases hv
  exact ⟨rfl, hst.keep.os, hst.keep.tape, hst.keep.output, hst.keep.size, fun b hb => hst.keep.block b hb fun h => own_nil _ _ h⟩

end Ab
end Go.Proofs.YtidoflgcblglbaaDoor

/-
  DERIVED. RULES by which a function's value is found, piece by piece.
  Conditions: none of a program's.
-/
namespace Go.Proofs.YtidoflgcblglbaaDoor
namespace Ab

section
variable {C : Cfg} {call : CallT} {k : Nat} {f : FuncId}

theorem region_ok {id : Nat} {ops : Array Oper} {draw : Bool} {st st1 : St} (h : regionA C call f id ops draw st = some st1) : codeA C call k f (.region id ops draw) st = some (.normal, st1) := by
  unfold codeA; rw [h]; rfl

theorem seq_ok {a b : Code} {st st1 : St} {r : Option (Ex × St)} (h1 : codeA C call k f a st = some (.normal, st1)) (h2 : codeA C call k f b st1 = r) : codeA C call k f (.seq a b) st = r := by
  unfold codeA; rw [h1]; exact h2

theorem reg_ok {id : Nat} {ops : Array Oper} {draw : Bool} {b : Code} {st st1 : St} {r : Option (Ex × St)} (h1 : regionA C call f id ops draw st = some st1) (h2 : codeA C call k f b st1 = r) : codeA C call k f (.seq (.region id ops draw) b) st = r :=
  seq_ok (region_ok h1) h2

theorem seq_ex {a b : Code} {st st1 : St} {ex : Ex} (hex : ex ≠ .normal) (h1 : codeA C call k f a st = some (ex, st1)) : codeA C call k f (.seq a b) st = some (ex, st1) := by
  unfold codeA; rw [h1]; cases ex <;> first | rfl | exact absurd rfl hex

theorem cond_ok {c : Operand} {x y : Code} {st : St} {b : Bool} {r : Option (Ex × St)} (hc : ev st.env c = .b b) (h : codeA C call k f (if b then x else y) st = r) : codeA C call k f (.cond c x y) st = r := by
  unfold codeA; rw [hc]; cases b <;> exact h

theorem skip_ok {st : St} : codeA C call k f .skip st = some (.normal, st) := rfl
theorem ret_ok {st : St} : codeA C call k f .ret st = some (.ret, st) := rfl
theorem exit_ok {id : Nat} {st : St} : codeA C call k f (.exit id) st = some (.exit id, st) := rfl

theorem block_ok {id : Nat} {a : Code} {st st1 : St} (h : codeA C call k f a st = some (.normal, st1)) : codeA C call k f (.block id a) st = some (.normal, st1) := by
  unfold codeA; rw [h]
theorem block_exit {id : Nat} {a : Code} {st st1 : St} (h : codeA C call k f a st = some (.exit id, st1)) : codeA C call k f (.block id a) st = some (.normal, st1) := by
  unfold codeA; rw [h]; simp
theorem block_out {id j : Nat} {a : Code} {st st1 : St} (hj : j ≠ id) (h : codeA C call k f a st = some (.exit j, st1)) : codeA C call k f (.block id a) st = some (.exit j, st1) := by
  unfold codeA; rw [h]; simp [hj]
theorem block_ret {id : Nat} {a : Code} {st st1 : St} (h : codeA C call k f a st = some (.ret, st1)) : codeA C call k f (.block id a) st = some (.ret, st1) := by
  unfold codeA; rw [h]

theorem loop_ok {a : Code} {st : St} {r : Option (Ex × St)} (h : loopA (codeA C call k f a) k st = r) : codeA C call k f (.loop a) st = r := by
  unfold codeA; exact h

theorem loopA_next {body : St → Option (Ex × St)} {n : Nat} {st st1 : St} {r : Option (Ex × St)} (h1 : body st = some (.normal, st1)) (h2 : loopA body n st1 = r) : loopA body (n + 1) st = r := by
  unfold loopA; rw [h1]; exact h2
theorem loopA_out {body : St → Option (Ex × St)} {n : Nat} {st st1 : St} {ex : Ex} (hex : ex ≠ .normal) (h1 : body st = some (ex, st1)) : loopA body (n + 1) st = some (ex, st1) := by
  unfold loopA; rw [h1]; cases ex <;> first | rfl | exact absurd rfl hex

theorem run_ok {fn : Func} {c : Code} {args : List AV} {hp : Hp} {nx : Nat} {ex : Ex} {st : St} {l : List AV} (hfn : C.P.funcs[f]? = some fn) (hb : fn.body = some c) (hlen : args.length ≤ fn.ntmps)
    (hc : codeA C call k f c { env := enterA args 0, loc := [], hp := hp, nx := nx } = some (ex, st)) (hex : ex = .normal ∨ ex = .ret) (hr : resA C st fn.results.toList = some l) : runA C call k f args hp nx = some (one l, st.hp, st.nx) := by
  unfold runA
  rw [hfn]
  simp only [hb, if_pos hlen, hc]
  rcases hex with rfl | rfl <;> simp only [hr, Option.map_some]

end
end Ab
end Go.Proofs.YtidoflgcblglbaaDoor

/-
  DERIVED. SMALL LAWS by which 'simp' runs the pieces.
  Conditions: none of a program's.
-/
namespace Go.Proofs.YtidoflgcblglbaaDoor
namespace Ab

@[simp] theorem okc_b (x : Bool) : (AV.b x).okc = true := rfl
@[simp] theorem mv_b (x : Bool) : (AV.b x).mv = true := rfl
@[simp] theorem cells_b (x : Bool) : (AV.b x).cells = [AV.b x] := rfl
@[simp] theorem okc_i (k : IntKind) (x : Int) : (AV.i k x).okc = true := rfl
@[simp] theorem mv_i (k : IntKind) (x : Int) : (AV.i k x).mv = true := rfl
@[simp] theorem cells_i (k : IntKind) (x : Int) : (AV.i k x).cells = [AV.i k x] := rfl
@[simp] theorem okc_s (x : ByteArray) : (AV.s x).okc = true := rfl
@[simp] theorem mv_s (x : ByteArray) : (AV.s x).mv = true := rfl
@[simp] theorem cells_s (x : ByteArray) : (AV.s x).cells = [AV.s x] := rfl
@[simp] theorem okc_vs (a : Bool) (n : Nat) (r : List (List AV)) : (AV.vs a n r).okc = true := rfl
@[simp] theorem mv_vs (a : Bool) (n : Nat) (r : List (List AV)) : (AV.vs a n r).mv = true := rfl
@[simp] theorem cells_vs (a : Bool) (n : Nat) (r : List (List AV)) : (AV.vs a n r).cells = [AV.vs a n r] := rfl
@[simp] theorem okc_rs (k g i n s : Nat) : (AV.rs k g i n s).okc = true := rfl
@[simp] theorem mv_rs (k g i n s : Nat) : (AV.rs k g i n s).mv = true := rfl
@[simp] theorem cells_rs (k g i n s : Nat) : (AV.rs k g i n s).cells = [AV.rs k g i n s] := rfl
@[simp] theorem okc_np  : (AV.np).okc = true := rfl
@[simp] theorem mv_np  : (AV.np).mv = true := rfl
@[simp] theorem cells_np  : (AV.np).cells = [AV.np] := rfl
@[simp] theorem okc_ptr (k g o : Nat) : (AV.ptr k g o).okc = true := rfl
@[simp] theorem mv_ptr (k g o : Nat) : (AV.ptr k g o).mv = true := rfl
@[simp] theorem cells_ptr (k g o : Nat) : (AV.ptr k g o).cells = [AV.ptr k g o] := rfl
@[simp] theorem okc_pe (k g i o s : Nat) : (AV.pe k g i o s).okc = true := rfl
@[simp] theorem mv_pe (k g i o s : Nat) : (AV.pe k g i o s).mv = true := rfl
@[simp] theorem cells_pe (k g i o s : Nat) : (AV.pe k g i o s).cells = [AV.pe k g i o s] := rfl
@[simp] theorem okc_vp (c : List AV) : (AV.vp c).okc = true := rfl
@[simp] theorem mv_vp (c : List AV) : (AV.vp c).mv = true := rfl
@[simp] theorem cells_vp (c : List AV) : (AV.vp c).cells = [AV.vp c] := rfl
@[simp] theorem okc_fn (f : FuncId) (c : List AV) : (AV.fn f c).okc = true := rfl
@[simp] theorem mv_fn (f : FuncId) (c : List AV) : (AV.fn f c).mv = true := rfl
@[simp] theorem cells_fn (f : FuncId) (c : List AV) : (AV.fn f c).cells = [AV.fn f c] := rfl
@[simp] theorem okc_nfn  : (AV.nfn).okc = true := rfl
@[simp] theorem mv_nfn  : (AV.nfn).mv = true := rfl
@[simp] theorem cells_nfn  : (AV.nfn).cells = [AV.nfn] := rfl
@[simp] theorem okc_mp (k : Option Nat) : (AV.mp k).okc = true := rfl
@[simp] theorem mv_mp (k : Option Nat) : (AV.mp k).mv = true := rfl
@[simp] theorem cells_mp (k : Option Nat) : (AV.mp k).cells = [AV.mp k] := rfl
@[simp] theorem mv_agg (c : List AV) : (AV.agg c).mv = true := rfl
@[simp] theorem mv_tup (c : List AV) : (AV.tup c).mv = true := rfl
@[simp] theorem cells_agg (c : List AV) : (AV.agg c).cells = c := rfl
@[simp] theorem mv_lp (d n o : Nat) : (AV.lp d n o).mv = false := rfl
theorem okc_mv {x : AV} (h : x.okc = true) : x.mv = true := by cases x <;> first | rfl | cases h
theorem okc_cells {x : AV} (h : x.okc = true) : x.cells = [x] := by cases x <;> first | rfl | cases h

/-- The loops of a piece of code. -/
def loopsIn : Code → List Code
  | .seq a b | .cond _ a b => loopsIn a ++ loopsIn b
  | .block _ a => loopsIn a
  | .loop a => a :: loopsIn a
  | _ => []
/-- The i-th loop's body of a function. -/
def loopOf (fn : Func) (i : Nat) : Code := match fn.body with
  | some c => (loopsIn c).getD i .skip
  | none => .skip
/-- The operations of a region. -/
def opsIn : Nat → Code → Option (Array Oper × Bool)
  | i, .seq a b | i, .cond _ a b => (opsIn i a).or (opsIn i b)
  | i, .block _ a | i, .loop a => opsIn i a
  | i, .region j ops d => if i = j then some (ops, d) else none
  | _, _ => none

end Ab
end Go.Proofs.YtidoflgcblglbaaDoor

/-
  DERIVED. A LAW's CONTRACT, of its call at all typed arguments of a bulk.
  Conditions: none of a program's.
-/
namespace Go.Proofs.YtidoflgcblglbaaDoor
namespace Ab
variable [WX]

/-- The plain law of a function: at all typed arguments of a bulk at most B its call ends with true. -/
def Plain (C : Cfg) (B n : Nat) (f : FuncId) (ts : List TypeId) : Prop :=
  ∀ xs : List AV, xs.length = ts.length → (∀ (j : Nat) (t : TypeId) (x : AV), ts[j]? = some t → xs[j]? = some x → ArgOf C.P n t x) → (∀ k, (xs.map fun x => bulkL k x.cells).sum ≤ B) →
    ∃ k d hp nx, callA C k d f xs [] 0 = some (.b true, hp, nx)

theorem contract {C : Cfg} (fit : Fit C) {B n : Nat} {f : FuncId} {fn : Func} {H : Type} {enc : TypeId × Value → H} {s : ChangeSpec} {apart fresh handsOn again : Bool} {tb : TypeId} (hplain : Plain C B n f fn.params.toList)
    (hty : ∀ t ∈ fn.params.toList, tyOk C.P n t = true) (hl : laidOutB C.P = true) (hvars : s.vars = []) (hres : fn.resultTypes = #[tb]) (htb : C.P.underlying tb = some .bool) (hread : ∀ t ∈ fn.params.toList, C.P.readableRec t = true ∧ t < C.P.types.size)
    {W : World} {base : Nat} {args : Array Value} {ds gs : List (DataW H)} {before : List MemPlace} (hval : ∀ (j : Nat) t v, fn.params[j]? = some t → args[j]? = some v → Value.okWide C.P W .any base t v)
    (hW : DataW.Whole enc C.P fn.params.toList s.vars apart W args.toList ds gs before) (hs : s.fn H (ds ++ gs) = { results := [.lit (.bool true)], args := ds }) (hB : bulkDs ds ≤ B) (hX : WX.X (AllB W) W) :
    Calls C.P f args W fun e W' => ∃ v, e = .returned v ∧ s.post enc C.P fn apart fresh handsOn again W args v W' := by
  have hW0 := hW
  obtain ⟨p, q, hA, _, _, _, _⟩ := hW0
  obtain ⟨xs, h1, h2, h3, h4, h5⟩ := args_typed (n := n) (base := base) hA hty fun j t v ht hv => hval j t v (by simpa using ht) (by simpa using hv)
  obtain ⟨k, d, hp, nx, hc⟩ := hplain xs h2 h3 fun k => Nat.le_trans (h5 k) hB
  refine (law_calls fit hc hX (by simpa using h1) fun j v x hv hx => h4 j v x (by simpa using hv) hx).mono fun e W' ⟨he, hb⟩ => ?_
  exact ⟨.bool true, he, law_post hl hW hvars hres htb hs hread hb⟩

end Ab
end Go.Proofs.YtidoflgcblglbaaDoor

/-
  DERIVED. SLICES: what is read of one; 'append'.
  Conditions: none of a program's.
-/
import Derived.Test.YtidoflgcblglbaaDoorAbB
import Derived.Laws.BytesString
set_option linter.all false
set_option maxHeartbeats 4000000
namespace Go.Proofs.YtidoflgcblglbaaDoor
namespace Ab
variable [WX]

section
variable {P : Program}

theorem flatten_get {sz : Nat} : ∀ {rows : List (List AV)} {i j : Nat} {r : List AV} {c : AV}, (∀ r ∈ rows, r.length = sz) → rows[i]? = some r → r[j]? = some c → rows.flatten[i * sz + j]? = some c
  | [], i, j, r, c, _, hr, _ => by simp at hr
  | r0 :: rows, 0, j, r, c, h, hr, hc => by
    simp at hr; subst hr
    have hj : j < r0.length := (List.getElem?_eq_some_iff.1 hc).1
    simp only [List.flatten_cons, Nat.zero_mul, Nat.zero_add]
    rw [List.getElem?_append_left hj]; exact hc
  | r0 :: rows, i + 1, j, r, c, h, hr, hc => by
    have h0 : r0.length = sz := h r0 (List.mem_cons_self ..)
    have := flatten_get (rows := rows) (i := i) (j := j) (fun r hr => h r (List.mem_cons_of_mem _ hr)) (by simpa using hr) hc
    simp only [List.flatten_cons]
    rw [List.getElem?_append_right (by rw [h0, Nat.add_mul]; omega), h0, show (i + 1) * sz + j - sz = i * sz + j by rw [Nat.add_mul]; omega]
    exact this

theorem flatten_inv {sz : Nat} : ∀ {rows : List (List AV)} {k : Nat} {c : AV}, (∀ r ∈ rows, r.length = sz) → rows.flatten[k]? = some c → ∃ i j r, k = i * sz + j ∧ rows[i]? = some r ∧ r[j]? = some c
  | [], k, c, _, h => by simp at h
  | r0 :: rows, k, c, h, hk => by
    have h0 : r0.length = sz := h r0 (List.mem_cons_self ..)
    simp only [List.flatten_cons] at hk
    by_cases hlt : k < r0.length
    · rw [List.getElem?_append_left hlt] at hk
      exact ⟨0, k, r0, by simp, rfl, hk⟩
    · rw [List.getElem?_append_right (by omega)] at hk
      obtain ⟨i, j, r, e, a, b⟩ := flatten_inv (fun r hr => h r (List.mem_cons_of_mem _ hr)) hk
      exact ⟨i + 1, j, r, by rw [Nat.add_mul]; omega, by simpa using a, b⟩

theorem flatten_len {sz : Nat} : ∀ {rows : List (List AV)}, (∀ r ∈ rows, r.length = sz) → rows.flatten.length = rows.length * sz
  | [], _ => by simp
  | r :: rows, h => by
    have h0 : r.length = sz := h r (List.mem_cons_self ..)
    simp only [List.flatten_cons, List.length_append, List.length_cons, flatten_len (fun r hr => h r (List.mem_cons_of_mem _ hr)), h0]
    rw [Nat.add_mul]; omega

/-- What a slice shows, as rows of so many cells. -/
structure Shows (I : Nat → Prop) (w : World) (β : BMap) (x : Value) (sz : Nat) (rows : List (List AV)) : Prop where
  ex : ∃ base cap, x = .slice base rows.length cap ∧ (rows = [] ∨ ∃ b o, base = some ⟨b, o, none⟩ ∧ CellsAt I w β b o rows.flatten)
  len : ∀ r ∈ rows, r.length = sz

theorem rowsSz_sound {I : Nat → Prop} {w : World} {β : BMap} {get : GetF} {x : Value} {a : AV} {sz : Nat} {rows : List (List AV)} (hs : Sim I β get w) (hx : RV I w β x a) (h : rowsSz get sz a = some rows) :
    Shows I w β x sz rows := by
  unfold rowsSz at h
  split at h
  · cases h; cases hx
    exact ⟨⟨none, 0, rfl, .inl rfl⟩, by simp⟩
  · split at h
    · cases h
      rename_i e; subst e
      cases hx with
      | vs0 _ a cap => exact ⟨⟨some a, cap, rfl, .inl rfl⟩, by simp⟩
      | vs _ b o len cap sz rows f hb hr hlen hcap h1 h2 =>
        subst hlen
        refine ⟨⟨some ⟨b, o, none⟩, cap, rfl, .inr ⟨b, o, rfl, fun k c hk => ?_⟩⟩, hr⟩
        obtain ⟨i, j, r, rfl, a1, a2⟩ := flatten_inv hr hk
        refine ⟨f i j, by rw [← Nat.add_assoc]; exact (h1 i j r c a1 a2).1, (h1 i j r c a1 a2).2, (h2 i j r c a1 a2).mono (fun _ h => h) (fun _ _ => rfl) (fun _ _ e => by cases e) fun _ => Nat.le_refl _⟩
    · cases h
  · split at h
    · rename_i k g i0 len s e
      subst e
      simp only [rowsOf] at h
      split at h
      · rename_i sz' rows' hg
        split at h
        · rename_i hh
          obtain ⟨rfl, hle⟩ := hh
          cases h
          cases hx with
          | rs _ _ _ _ _ _ b o cap a hb hcap hsz ha =>
            obtain ⟨p, hp, ho⟩ := hs.obj _ _ hg
            rw [hb] at hp; cases hp
            obtain ⟨hz0, hzr, _⟩ := id ho
            have hlen : ((rows'.drop i0).take len).length = len := by simp; omega
            have hsub : ∀ r ∈ (rows'.drop i0).take len, r.length = sz' := fun r hr => hzr r (List.mem_of_mem_drop (List.mem_of_mem_take hr))
            rcases ha with ha | ha
            · have h0 : len = 0 := by omega
              subst h0
              exact ⟨⟨some a, cap, by simp, .inl (by simp)⟩, hsub⟩
            subst ha
            refine ⟨⟨_, cap, by rw [hlen], .inr ⟨b, o + i0 * sz', rfl, fun k c hk => ?_⟩⟩, hsub⟩
            obtain ⟨i, j, r, rfl, a1, a2⟩ := flatten_inv hsub hk
            have hi : i < len := by rw [← hlen]; exact (List.getElem?_eq_some_iff.1 a1).1
            rw [List.getElem?_take_of_lt hi, List.getElem?_drop] at a1
            obtain ⟨v, v1, v2, v3⟩ := (ho.rowAt a1) j c a2
            exact ⟨v, by rw [show o + i0 * sz' + (i * sz' + j) = o + (i0 + i) * sz' + j by rw [Nat.add_mul]; omega]; exact v1, v2, v3⟩
        · cases h
      · cases h
    · cases h
  · cases h

/-- All cells that a slice shows. -/
theorem Shows.cells {I : Nat → Prop} {w : World} {β : BMap} {x : Value} {sz : Nat} {rows : List (List AV)} (h : Shows I w β x sz rows) :
    ∃ vs : List Value, (Builtin.firstCells sz rows.length x).run P w = .ok vs.toArray w ∧ vs.length = rows.length * sz ∧ (∀ y ∈ vs, cellV y = true) ∧
      ∀ (i j : Nat) (r : List AV) (c : AV), rows[i]? = some r → r[j]? = some c → ∃ v, vs[i * sz + j]? = some v ∧ RV I w β v c := by
  obtain ⟨⟨base, cap, rfl, hc⟩, hl⟩ := h
  rcases hc with rfl | ⟨b, o, rfl, hc⟩
  · refine ⟨[], ?_, by simp, by simp, by simp⟩
    cases base with
    | none => simp [Builtin.firstCells]
    | some a =>
      have := run_loadCells_list (P := P) w a [] (by simp)
      simpa [Builtin.firstCells] using this
  · obtain ⟨vs, a1, a2, a3, a4⟩ := hc.all
    have hlen : vs.length = rows.length * sz := by rw [a1, flatten_len hl]
    refine ⟨vs, ?_, hlen, a3, fun i j r c hr hcc => ?_⟩
    · have := run_loadCells_list (P := P) w ⟨b, o, none⟩ vs (fun j v hv => by rw [addr_add]; exact a2 j v hv)
      rw [hlen] at this
      simpa [Builtin.firstCells] using this
    · have hf := flatten_get hl hr hcc
      have hk : i * sz + j < vs.length := by rw [a1]; exact (List.getElem?_eq_some_iff.1 hf).1
      exact ⟨vs[i * sz + j], List.getElem?_eq_getElem hk, a4 _ _ c (List.getElem?_eq_getElem hk) hf⟩

/-- What is appended: a slice, or a string's bytes. -/
theorem news_sound {I : Nat → Prop} {w : World} {β : BMap} {get : GetF} {x : Value} {a : AV} {sz : Nat} {rows : List (List AV)} (hs : Sim I β get w) (hx : RV I w β x a)
    (h : newsA get sz a = some rows) :
    (Builtin.lenOf x).run P w = .ok rows.length w ∧ (∀ r ∈ rows, r.length = sz) ∧ ∃ vs : List Value, (Builtin.firstCells sz rows.length x).run P w = .ok vs.toArray w ∧ vs.length = rows.length * sz ∧ (∀ y ∈ vs, cellV y = true) ∧
      ∀ (i j : Nat) (r : List AV) (c : AV), rows[i]? = some r → r[j]? = some c → ∃ v, vs[i * sz + j]? = some v ∧ RV I w β v c := by
  have slice : rowsSz get sz a = some rows → (Builtin.lenOf x).run P w = .ok rows.length w ∧ (∀ r ∈ rows, r.length = sz) ∧ ∃ vs : List Value, (Builtin.firstCells sz rows.length x).run P w = .ok vs.toArray w ∧
      vs.length = rows.length * sz ∧ (∀ y ∈ vs, cellV y = true) ∧ ∀ (i j : Nat) (r : List AV) (c : AV), rows[i]? = some r → r[j]? = some c → ∃ v, vs[i * sz + j]? = some v ∧ RV I w β v c := by
    intro h
    have hsh := rowsSz_sound hs hx h
    refine ⟨?_, hsh.len, hsh.cells⟩
    obtain ⟨base, cap, rfl, _⟩ := hsh.ex
    simp [Builtin.lenOf]
  cases a with
  | s str =>
    cases hx
    simp only [newsA] at h
    split at h
    · rename_i e; subst e; cases h
      have hlen : (rowsOfBytes str).length = str.size := by simp [rowsOfBytes]
      refine ⟨by rw [hlen]; simp [Builtin.lenOf], fun r hr => ?_, (str.data.toList.map fun c => Value.int .u8 c.toNat), ?_, by simp [rowsOfBytes], fun y hy => ?_, fun i j r c hr hc => ?_⟩
      · simp only [rowsOfBytes, List.mem_map] at hr
        obtain ⟨c, _, rfl⟩ := hr; rfl
      · rw [hlen]
        have : str.extract 0 str.size = str := by
          apply ByteArray.ext; simp
        simp only [Builtin.firstCells, this, Sem.run_pure]
        congr 1
        apply Array.ext'
        simp
      · simp only [List.mem_map] at hy
        obtain ⟨c, _, rfl⟩ := hy; rfl
      · simp only [rowsOfBytes, List.getElem?_map, Option.map_eq_some_iff] at hr
        obtain ⟨u, hu, rfl⟩ := hr
        cases j with
        | zero =>
          simp at hc; subst hc
          exact ⟨.int .u8 u.toNat, by simp [hu], .i _ _ _⟩
        | succ j => simp at hc
    · cases h
  | _ => exact slice h

end
end Ab
end Go.Proofs.YtidoflgcblglbaaDoor

/-
  DERIVED. 'append', whatever room there is.
  Conditions: none of a program's.
-/
namespace Go.Proofs.YtidoflgcblglbaaDoor
namespace Ab
variable [WX]

section
variable {P : Program}

theorem growBy_le (n : Nat) : ∀ (k c : Nat), c ≤ n → Builtin.growBy n k c ≤ 2 * n + 768
  | 0, c, h => by simp [Builtin.growBy]; omega
  | k + 1, c, h => by
    simp only [Builtin.growBy]
    split
    · omega
    · by_cases h2 : c + (c + 768) / 4 ≤ n
      · exact growBy_le n k _ h2
      · -- past it: it stays
        have : ∀ k c', n ≤ c' → Builtin.growBy n k c' = c' := by
          intro k
          induction k with
          | zero => intro c' _; rfl
          | succ k ih => intro c' h; simp [Builtin.growBy, h]
        rw [this k _ (by omega)]
        omega

theorem nextcap_le (need old : Nat) (h : old < need) : Builtin.nextslicecap need old ≤ 2 * need + 768 := by
  unfold Builtin.nextslicecap
  split
  · omega
  · split
    · omega
    · exact growBy_le need 4 old (by omega)

theorem zsz_spec {t : TypeId} {n : Nat} (h : zsz P t = some n) : ∃ i v, P.info? t = some i ∧ i.zero = some v ∧ v.cells.size = n := by
  unfold zsz at h
  cases hi : P.info? t with
  | none => simp [hi] at h
  | some i =>
    cases hz : i.zero with
    | none => simp [hi, hz] at h
    | some v => simp [hi, hz] at h; exact ⟨i, v, rfl, hz, h⟩

/-- How an 'append' of at least one element runs. -/
theorem run_append {t tx e : TypeId} {d : TypeDesc} {ty : TypeId} {w : World} {base : Option Addr} {sLen sCap sz by_ n : Nat} {x : Value} {old new : List Value}
    (ht : P.underlying t = some (.slice e)) (htx : P.underlying tx = some d) (hd : ∀ k, d ≠ .int k) (hz : szOf P e = some sz) (hb : byOf P e = some by_) (hzz : zsz P e = some sz)
    (hn : (Builtin.lenOf x).run P w = .ok n w) (hmost : (sLen + n) * (by_ + 1) ≤ mostBytes) (hcap : sLen ≤ sCap)
    (hold' : ∀ w1 : World, w1.heap = w.heap → (Builtin.firstCells sz sLen (.slice base sLen sCap)).run P w1 = .ok old.toArray w1)
    (hnew : ∀ w1 : World, w1.heap = w.heap → (Builtin.firstCells sz n x).run P w1 = .ok new.toArray w1) :
    (sLen + n ≤ sCap ∧ (∀ w', (∀ a, base = some a → (storeCells (a.add (sLen * sz)) new 0).run P w = .ok () w') → (base = none → w' = w) →
        (Builtin.append_ #[t, tx] ty #[.slice base sLen sCap, x]).run P w = .ok (.slice base (sLen + n) sCap) w')) ∨
    (sCap < sLen + n ∧ ∃ cap rest w', sLen + n ≤ cap ∧ rest.length = (cap - (sLen + n)) * sz ∧ w'.heap = w.heap.push (.cells (old ++ new ++ rest).toArray e) ∧ w'.os = w.os ∧ w'.tape = w.tape ∧ w'.output = w.output ∧
      (Builtin.append_ #[t, tx] ty #[.slice base sLen sCap, x]).run P w = .ok (.slice (some ⟨w.heap.size, 0, none⟩) (sLen + n) cap) w') := by
  obtain ⟨i, hi, hiby⟩ := byOf_info hb
  obtain ⟨i', z, hi', hz1, hz2⟩ := zsz_spec hzz
  rw [hi] at hi'; cases hi'
  have hbig : (sLen + n) ≤ mostBytes := Nat.le_trans (Nat.le_mul_of_pos_right _ (by omega)) hmost
  unfold mostBytes at hmost hbig
  by_cases hfit : sLen + n ≤ sCap
  · refine .inl ⟨hfit, fun w' hst hno => ?_⟩
    simp only [Builtin.append_]
    cases base with
    | none =>
      have := hno rfl; subst this
      simp [run_und ht, run_und htx, run_szOf hz, hn, hfit, hnew w' rfl]
    | some a => simp [run_und ht, run_und htx, run_szOf hz, hn, hfit, hnew w rfl, hst a rfl]
  · refine .inr ⟨by omega, ?_⟩
    have hq : (Question.appendCap (sLen + n) sCap e).forced = false := rfl
    have hnc := nextcap_le (sLen + n) sCap (by omega)
    have hby : i.bytes = by_ := hiby
    have hpos : 1 ≤ sLen + n := by omega
    have hle : ¬ Builtin.nextslicecap (sLen + n) sCap * i.bytes > 2 ^ 48 := by
      rw [hby]
      have h1 : Builtin.nextslicecap (sLen + n) sCap * by_ ≤ (770 * (sLen + n)) * by_ := Nat.mul_le_mul_right _ (by omega)
      have h2 : (770 * (sLen + n)) * by_ ≤ 770 * ((sLen + n) * (by_ + 1)) := by
        rw [Nat.mul_assoc]; exact Nat.mul_le_mul_left _ (Nat.mul_le_mul_left _ (by omega))
      have h3 : 770 * ((sLen + n) * (by_ + 1)) ≤ 770 * 2 ^ 36 := Nat.mul_le_mul_left _ hmost
      omega
    have hbig' : ¬ ((sLen + n : Nat) : Int) > IntKind.i64.max := by
      simp [IntKind.max, IntKind.signed, IntKind.bits]; omega
    let cap := (Question.appendCap (sLen + n) sCap e).cut (w.tape w.drawn (Question.appendCap (sLen + n) sCap e))
    have hcapdef : cap = (Question.appendCap (sLen + n) sCap e).cut (w.tape w.drawn (Question.appendCap (sLen + n) sCap e)) := rfl
    have hcapge : sLen + n ≤ cap := by rw [hcapdef]; simp [Question.cut]
    let w1 : World := { w with drawn := w.drawn + 1 }
    have hrest : (Builtin.zeroCells z.cells (cap - (sLen + n))).size = (cap - (sLen + n)) * sz := by simp [Builtin.zeroCells, hz2]
    refine ⟨cap, (Builtin.zeroCells z.cells (cap - (sLen + n))).toList, { w1 with heap := w1.heap.push (.cells (old ++ new ++ (Builtin.zeroCells z.cells (cap - (sLen + n))).toList).toArray e) }, hcapge, by simpa using hrest, rfl, rfl, rfl, rfl, ?_⟩
    have hch : (choose (.appendCap (sLen + n) sCap e)).run P w = .ok cap w1 := by rw [run_choose, hq]; rfl
    have hti : (Go.typeInfo e).run P w = .ok i w := by simp [Go.typeInfo, hi]
    have hti1 : (Go.typeInfo e).run P w1 = .ok i w1 := by simp [Go.typeInfo, hi]
    have hz1' : (zeroValue e).run P w1 = .ok z w1 := run_zeroOf hi hz1 w1
    have hnn : ¬ (sLen + n ≤ sCap) := hfit
    unfold Builtin.append_
    simp only [List.getElem?_toArray, List.getElem?_cons_zero, List.getElem?_cons_succ, Sem.run_bind, run_und ht, Result.andThen_ok, run_szOf hz, run_und htx, Sem.run_pure]
    simp only [Bool.false_eq_true, if_false, Sem.run_bind, hn, Result.andThen_ok, if_neg hfit, hti, false_or]
    rw [if_neg (fun h => hbig' h.1)]
    simp only [Sem.run_bind, hti, Result.andThen_ok, if_neg hle, hch, hti1, run_askRoom, hold' w1 rfl, hnew w1 rfl, Bool.not_false, if_true, hz1', newRow, run_newObj, Sem.run_pure]
    have e1 : old.toArray ++ new.toArray ++ Builtin.zeroCells z.cells (cap - (sLen + n)) = (old ++ new ++ (Builtin.zeroCells z.cells (cap - (sLen + n))).toList).toArray := by
      apply Array.ext'; simp
    rw [e1]


theorem firstCells_heap {I : Nat → Prop} {w : World} {β : BMap} {x : Value} {sz : Nat} {rows : List (List AV)} (h : Shows I w β x sz rows) :
    ∃ vs : List Value, (∀ w1 : World, w1.heap = w.heap → (Builtin.firstCells sz rows.length x).run P w1 = .ok vs.toArray w1) ∧ vs.length = rows.length * sz ∧ (∀ y ∈ vs, cellV y = true) ∧
      ∀ (i j : Nat) (r : List AV) (c : AV), rows[i]? = some r → r[j]? = some c → ∃ v, vs[i * sz + j]? = some v ∧ RV I w β v c := by
  obtain ⟨⟨base, cap, rfl, hc⟩, hl⟩ := h
  have hcell : ∀ w1 : World, w1.heap = w.heap → ∀ a, w1.cell? a = w.cell? a := fun w1 e a => by simp [World.cell?, e]
  rcases hc with rfl | ⟨b, o, rfl, hc⟩
  · refine ⟨[], fun w1 _ => ?_, by simp, by simp, by simp⟩
    cases base with
    | none => simp [Builtin.firstCells]
    | some a =>
      have := run_loadCells_list (P := P) w1 a [] (by simp)
      simpa [Builtin.firstCells] using this
  · obtain ⟨vs, a1, a2, a3, a4⟩ := hc.all
    have hlen : vs.length = rows.length * sz := by rw [a1, flatten_len hl]
    refine ⟨vs, fun w1 e => ?_, hlen, a3, fun i j r c hr hcc => ?_⟩
    · have := run_loadCells_list (P := P) w1 ⟨b, o, none⟩ vs (fun j v hv => by rw [addr_add, hcell w1 e]; exact a2 j v hv)
      rw [hlen] at this
      simpa [Builtin.firstCells] using this
    · have hf := flatten_get hl hr hcc
      have hk : i * sz + j < vs.length := by rw [a1]; exact (List.getElem?_eq_some_iff.1 hf).1
      exact ⟨vs[i * sz + j], List.getElem?_eq_getElem hk, a4 _ _ c (List.getElem?_eq_getElem hk) hf⟩

theorem news_heap {I : Nat → Prop} {w : World} {β : BMap} {get : GetF} {x : Value} {a : AV} {sz : Nat} {rows : List (List AV)} (hs : Sim I β get w) (hx : RV I w β x a)
    (h : newsA get sz a = some rows) :
    (Builtin.lenOf x).run P w = .ok rows.length w ∧ (∀ r ∈ rows, r.length = sz) ∧ ∃ vs : List Value, (∀ w1 : World, w1.heap = w.heap → (Builtin.firstCells sz rows.length x).run P w1 = .ok vs.toArray w1) ∧
      vs.length = rows.length * sz ∧ (∀ y ∈ vs, cellV y = true) ∧ ∀ (i j : Nat) (r : List AV) (c : AV), rows[i]? = some r → r[j]? = some c → ∃ v, vs[i * sz + j]? = some v ∧ RV I w β v c := by
  cases a with
  | s str =>
    cases hx
    obtain ⟨h1, h2, vs, h3, h4, h5, h6⟩ := news_sound (P := P) (x := .string str) hs (.s _ _) h
    refine ⟨h1, h2, vs, fun w1 _ => ?_, h4, h5, h6⟩
    have e : ∀ w2 : World, (Builtin.firstCells sz rows.length (.string str)).run P w2 = .ok ((str.extract 0 rows.length).data.map fun b => .int .u8 b.toNat) w2 := fun w2 => rfl
    rw [e] at h3 ⊢
    injection h3 with h3 _
    rw [h3]
  | _ =>
    refine ⟨(news_sound hs hx h).1, (news_sound (P := P) hs hx h).2.1, ?_⟩
    exact firstCells_heap (rowsSz_sound hs hx h)


/-- What an operation with a new number does to the names. -/
def NewAt (n : Nat) (get : GetF) (β β' : BMap) : Prop := ∀ q : Ref, q.num ≠ n → β q = none → (∀ k g o, get (.h k g) = some o → q.num ≠ k) → β' q = none

theorem shown_eq (rows : List (List AV)) (i0 len : Nat) : shown rows i0 len = (rows.drop i0).take len := by
  unfold shown
  split
  · rw [List.take_of_length_le (by simp; omega)]
  · rfl
set_option maxHeartbeats 800000 in
theorem appRow_sound {I : Nat → Prop} {w : World} {β : BMap} {get : GetF} {t tx ty e : TypeId} {d : TypeDesc} {x y : Value} {s r : AV} {n sz by_ : Nat} {wr : List Wr} {new : List (List AV)} {vs : List Value}
    (hs : Sim I β get w) (hn : ∀ g', β (.h n g') = none)
    (ht : P.underlying t = some (.slice e)) (htx : P.underlying tx = some d) (hd : ∀ k, d ≠ .int k) (hz : szOf P e = some sz) (hb : byOf P e = some by_) (hzz : zsz P e = some sz) (hzpos : 0 < sz)
    (hx : RV I w β x s) (n1 : (Builtin.lenOf y).run P w = .ok new.length w) (n2 : ∀ r ∈ new, r.length = sz)
    (n3 : ∀ w1 : World, w1.heap = w.heap → (Builtin.firstCells sz new.length y).run P w1 = .ok vs.toArray w1) (n4 : vs.length = new.length * sz) (n5 : ∀ y ∈ vs, cellV y = true)
    (n6 : ∀ (i j : Nat) (r : List AV) (c : AV), new[i]? = some r → r[j]? = some c → ∃ v, vs[i * sz + j]? = some v ∧ RV I w β v c) (h : appRow get sz by_ new n s = some (r, wr)) :
    ∃ v w' β', (Builtin.append_ #[t, tx] ty #[x, y]).run P w = .ok v w' ∧ RV I w' β' v r ∧ Sim I β' (wr.foldl wrG get) w' ∧ Step I β get w I β' (wr.foldl wrG get) w' ∧ NewAt n get β β' := by
  unfold appRow at h
  split at h
  · -- nil
    rename_i s0 rows0
    cases hx
    by_cases hl0 : new.length = 0
    · simp only [hl0, if_true, ret, Option.some.injEq, Prod.mk.injEq] at h
      obtain ⟨rfl, rfl⟩ := h
      have hvs : vs = [] := List.eq_nil_of_length_eq_zero (by rw [n4, hl0, Nat.zero_mul])
      have hra := run_append (ty := ty) (base := none) (sLen := 0) (sCap := 0) (x := y) (old := []) (new := vs) (n := new.length) ht htx hd hz hb hzz n1 (by rw [hl0]; simp) (Nat.le_refl _)
        (fun w1 _ => by simp [Builtin.firstCells]) n3
      rcases hra with ⟨_, h1⟩ | ⟨h1, _⟩
      · have := h1 w (fun a e => by cases e) (fun _ => rfl)
        rw [hl0] at this
        exact ⟨_, w, β, this, .vsn _ _, hs, .refl _ _ _ _, fun q _ hq _ => hq⟩
      · omega
    · simp only [hl0, if_false] at h
      split at h
      · rename_i hmost
        simp only [Option.some.injEq, Prod.mk.injEq] at h
        obtain ⟨rfl, rfl⟩ := h
        have hra := run_append (ty := ty) (base := none) (sLen := 0) (sCap := 0) (x := y) (old := []) (new := vs) (n := new.length) ht htx hd hz hb hzz n1 (by rw [Nat.zero_add]; exact hmost) (Nat.le_refl _)
          (fun w1 _ => by simp [Builtin.firstCells]) n3
        rcases hra with ⟨h1, _⟩ | ⟨_, cap, rest, w', c1, c2, c3, c4, c5, c6, c7⟩
        · omega
        · simp only [Nat.zero_add] at c1 c2 c7
          have hcs : cap * sz ≤ (([] : List Value) ++ vs ++ rest).toArray.size := by
            simp only [List.nil_append, List.size_toArray, List.length_append, n4, c2]
            rw [← Nat.add_mul]; exact Nat.mul_le_mul_right _ (by omega)
          obtain ⟨q1, q2⟩ := newArr_sound (rows := new) hs hn c3 c4 c5 c6 hzpos n2 (by simp only [List.nil_append, List.size_toArray, List.length_append, n4]; exact Nat.le_add_right _ _) (.inl rfl) (fun i k r c hr hc => by
            obtain ⟨v, v1, v2⟩ := n6 i k r c hr hc
            refine ⟨v, ?_, n5 v (List.mem_of_getElem? v1), v2⟩
            have hlt := (List.getElem?_eq_some_iff.1 v1).1
            simp only [List.nil_append, List.getElem?_toArray]
            rw [List.getElem?_append_left hlt]; exact v1)
          refine ⟨_, w', _, c7, rs_new c3 c1 hcs, q1, q2, fun q hq hb _ => ?_⟩
          rw [ext_ne _ _ (by rintro rfl; exact hq rfl)]; exact hb
      · cases h
  · -- an array of our own
    rename_i k g i0 len sz'
    by_cases hl0 : new.length = 0
    · simp only [hl0, if_true] at h
      split at h
      · rename_i hh
        obtain ⟨rfl, hmost⟩ := hh
        simp only [ret, Option.some.injEq, Prod.mk.injEq] at h
        obtain ⟨rfl, rfl⟩ := h
        have hvs : vs = [] := List.eq_nil_of_length_eq_zero (by rw [n4, hl0, Nat.zero_mul])
        subst hvs
        have hx' := hx
        cases hx' with
        | rs _ _ _ _ _ _ b o cap ad hbb hcap hcsz had =>
          -- nothing is read of the old row: any list of cells serves, as none is moved
          have key : (Builtin.append_ #[t, tx] ty #[.slice (some ad) len cap, y]).run P w = .ok (.slice (some ad) len cap) w := by
            rw [hl0] at n1
            have n3' := n3 w rfl
            rw [hl0] at n3'
            simp only [Builtin.append_]
            cases hdd : d <;> first
              | exact absurd hdd (hd _)
              | (subst hdd; simp [run_und ht, run_und htx, run_szOf hz, n1, hcap, n3', storeCells])
          exact ⟨_, w, β, key, hx, hs, .refl _ _ _ _, fun q _ hq _ => hq⟩
      · cases h
    · simp only [hl0, if_false] at h
      split at h
      · rename_i sz'' rows hg
        split at h
        · rename_i hh
          obtain ⟨rfl, rfl, htop, hmost⟩ := hh
          simp only [Option.some.injEq, Prod.mk.injEq] at h
          obtain ⟨rfl, rfl⟩ := h
          rw [shown_eq]
          have hsh := rowsSz_sound hs hx (rows := (rows.drop i0).take len) (sz := sz'') (by
            simp only [rowsSz, if_true, rowsOf, hg]
            rw [if_pos ⟨trivial, by omega⟩])
          obtain ⟨old, o3, o4, o5, o6⟩ := firstCells_heap (P := P) hsh
          have hdl : ((rows.drop i0).take len).length = len := by simp; omega
          rw [hdl] at o3 o4
          cases hx with
          | rs _ _ _ _ _ _ b o cap ad hbb hcap hcsz had =>
            obtain ⟨p, hp, ho⟩ := hs.obj _ _ hg
            rw [hbb] at hp; cases hp
            obtain ⟨_, hzr, c, et, fr, hc1, hc2, hc3, hc4⟩ := ho
            simp only at hc1 hc2 hc4
            have hcz : csz w b = c.size := by simp [csz, hc1]
            have hmul : (i0 + len) * sz'' ≤ (i0 + cap) * sz'' := Nat.mul_le_mul_right _ (by omega)
            have hra := run_append (ty := ty) (base := some ad) (sLen := len) (sCap := cap) (x := y) (old := old) (new := vs) (n := new.length) ht htx hd hz hb hzz n1 hmost hcap o3 n3
            have hnew' : ((rows.drop i0).take len ++ new).length = len + new.length := by simp; omega
            have hlens : ∀ r ∈ (rows.drop i0).take len ++ new, r.length = sz'' := fun r hr => by
              rcases List.mem_append.1 hr with h | h
              · exact hzr r (List.mem_of_mem_drop (List.mem_of_mem_take h))
              · exact n2 r h
            have hfresh : ∀ g', β (.h k (g + 1 + g')) = none := fun g' => hs.gen k g _ hg _ (by omega)
            have hgen' : ∀ (p : Blk) (k' g' : Nat), Ref.h k (g + 1) = .h k' g' → ∀ g'', g' < g'' → ext β (.h k (g + 1)) p (.h k' g'') = none := by
              intro p k' g' e g'' hlt
              cases e
              rw [ext_ne _ _ (by intro e; cases e; omega)]
              exact hs.gen k g _ hg _ (by omega)
            have hna : ∀ p, NewAt n get β (ext β (.h k (g + 1)) p) := fun p q _ hq2 hq3 => by
              rw [ext_ne _ _ (by rintro rfl; exact hq3 k g _ hg rfl)]; exact hq2
            rcases hra with ⟨hfit, h1⟩ | ⟨hgrow, cap', rest, w', c1, c2, c3, c4, c5, c6, c7⟩
            · -- there is room: it is written in place
              have had' : ad = ⟨b, o + i0 * sz'', none⟩ := had.resolve_left (by omega)
              subst had'
              have hm2 : (i0 + (len + new.length)) * sz'' ≤ (i0 + cap) * sz'' := Nat.mul_le_mul_right _ (by omega)
              have e1 : (i0 + (len + new.length)) * sz'' = i0 * sz'' + len * sz'' + new.length * sz'' := by rw [Nat.add_mul, Nat.add_mul]; omega
              have hroom : o + i0 * sz'' + len * sz'' + vs.length ≤ c.size := by rw [n4]; omega
              have hst := run_storeCells_cells (P := P) b (o + i0 * sz'' + len * sz'') vs 0 w
                (fun j hj => by rw [cell_of hc1, Array.getElem?_eq_getElem (show o + i0 * sz'' + len * sz'' + 0 + j < c.size by omega)]; rfl)
                (fun j hj => by simp only [World.frozen?, hc1]; exact hc3.at _ (by omega)) n5
              obtain ⟨c', a1, a2, a3, a4⟩ := heap_setCells b vs (o + i0 * sz'' + len * sz'') w c et fr hc1 hroom
              obtain ⟨q1, q2, q3, q4, q5⟩ := setCells_rest b vs (o + i0 * sz'' + len * sz'') w
              have hcszw := csz_setCells b vs (o + i0 * sz'' + len * sz'') w c et fr hc1 hroom
              have himm : ∀ k', I k' → (w.setCells b (o + i0 * sz'' + len * sz'') vs).heap[k']? = w.heap[k']? := fun k' hk' =>
                q5 k' fun e => (hs.imm k' hk').2 ⟨_, _, _, hg, hbb, e.symm⟩
              have hbm : ∀ q p, β q = some p → ext β (.h k (g + 1)) (b, o + i0 * sz'') q = some p := fun q p hq => by
                rw [ext_ne _ _ (by rintro rfl; rw [hfresh 0] at hq; cases hq)]; exact hq
              have hm : ∀ v z, RV I w β v z → RV I (w.setCells b (o + i0 * sz'' + len * sz'') vs) (ext β (.h k (g + 1)) (b, o + i0 * sz'')) v z := fun v z hv =>
                hv.mono (fun _ h => h) himm hbm hcszw
              have hput := hs.put (w' := w.setCells b (o + i0 * sz'' + len * sz'') vs) (β' := ext β (.h k (g + 1)) (b, o + i0 * sz'')) (r := .h k (g + 1)) (o' := .arr sz'' ((rows.drop i0).take len ++ new)) (p := (b, o + i0 * sz''))
                (fun q hq => ext_ne _ _ hq) (.inl (hfresh 0)) (ext_self _ _ _)
                (by
                  refine ⟨hzpos, hlens, c', et, fr, a1, ?_, by unfold unfz; rw [a2]; exact hc3, fun i j r z hr hz' => ?_⟩
                  · rw [hnew', a2]; simp only
                    have e2 : (len + new.length) * sz'' = len * sz'' + new.length * sz'' := Nat.add_mul _ _ _
                    omega
                  · simp only
                    have hj : j < sz'' := by rw [← hlens r (List.mem_of_getElem? hr)]; exact (List.getElem?_eq_some_iff.1 hz').1
                    by_cases hi : i < len
                    · rw [List.getElem?_append_left (by omega), List.getElem?_take_of_lt hi, List.getElem?_drop] at hr
                      obtain ⟨v, v1, v2, v3⟩ := hc4 _ j r z hr hz'
                      refine ⟨v, ?_, v2, hm _ _ v3⟩
                      have hm3 : (i + 1) * sz'' ≤ len * sz'' := Nat.mul_le_mul_right _ hi
                      rw [Nat.add_mul, Nat.one_mul] at hm3
                      rw [a4 _ (.inl (by omega)), show o + i0 * sz'' + i * sz'' + j = o + (i0 + i) * sz'' + j by rw [Nat.add_mul]; omega]
                      exact v1
                    · rw [List.getElem?_append_right (by omega), hdl] at hr
                      obtain ⟨v, v1, v2⟩ := n6 (i - len) j r z hr hz'
                      have hlt := (List.getElem?_eq_some_iff.1 v1).1
                      refine ⟨v, ?_, n5 v (List.mem_of_getElem? v1), hm _ _ v2⟩
                      rw [show o + i0 * sz'' + i * sz'' + j = o + i0 * sz'' + len * sz'' + ((i - len) * sz'' + j) by
                        have : i * sz'' = len * sz'' + (i - len) * sz'' := by rw [← Nat.add_mul]; congr 1; omega
                        omega]
                      rw [a3 _ hlt]; exact v1)
                q1 q2 q3 (by omega) hcszw (fun b' _ hb' => q5 b' hb') (.inl ⟨_, _, _, hg, hbb, rfl, rfl⟩) (hgen' _)
              refine ⟨_, _, _, h1 (w.setCells b (o + i0 * sz'' + len * sz'') vs) (fun a ha => ?_) (fun e => by cases e), ?_, hput.1, hput.2, hna _⟩
              · cases ha
                rw [addr_add]
                simpa using hst
              · exact RV.rs (I := I) (w := w.setCells b (o + i0 * sz'' + len * sz'') vs) (ext β (.h k (g + 1)) (b, o + i0 * sz'')) k (g + 1) 0 (len + new.length) sz'' b (o + i0 * sz'') cap _ (ext_self _ _ _) hfit
                  (by rw [Nat.zero_add]
                      have := hcszw b
                      have e3 : (i0 + cap) * sz'' = i0 * sz'' + cap * sz'' := Nat.add_mul _ _ _
                      omega) (.inr (by simp))
            · -- it moves
              have hcs : cap' * sz'' ≤ (old ++ vs ++ rest).toArray.size := by
                simp only [List.size_toArray, List.length_append, o4, n4, c2]
                rw [← Nat.add_mul, ← Nat.add_mul]; exact Nat.mul_le_mul_right _ (by omega)
              have hhp := heap_push c3
              have hnew2 := hs.new (r := .h k (g + 1)) (o' := .arr sz'' ((rows.drop i0).take len ++ new)) (off := 0) c3 c4 c5 c6 (hfresh 0) ?_ ?_
              · refine ⟨_, w', _, c7, ?_, hnew2.1, hnew2.2, hna _⟩
                exact RV.rs (I := I) (w := w') (ext β (.h k (g + 1)) (w.heap.size, 0)) k (g + 1) 0 (len + new.length) sz'' w.heap.size 0 cap' _ (ext_self _ _ _) c1
                  (by simp only [csz, hhp.2.1, Nat.zero_add]; exact hcs) (.inr (by simp))
              · intro k' g' e g'' hlt
                cases e
                exact hs.gen k g _ hg _ (by omega)
              · intro hm
                refine ⟨hzpos, hlens, _, e, (0, 0), hhp.2.1, ?_, .inl rfl, fun i j r z hr hz' => ?_⟩
                · simp only [Nat.zero_add, hnew']
                  exact Nat.le_trans (Nat.mul_le_mul_right _ c1) hcs
                · have hj : j < sz'' := by rw [← hlens r (List.mem_of_getElem? hr)]; exact (List.getElem?_eq_some_iff.1 hz').1
                  simp only [Nat.zero_add, List.getElem?_toArray]
                  by_cases hi : i < len
                  · rw [List.getElem?_append_left (by omega)] at hr
                    obtain ⟨v, v1, v2⟩ := o6 i j r z hr hz'
                    have hlt := (List.getElem?_eq_some_iff.1 v1).1
                    refine ⟨v, ?_, o5 v (List.mem_of_getElem? v1), hm _ _ v2⟩
                    rw [List.append_assoc, List.getElem?_append_left hlt]; exact v1
                  · rw [List.getElem?_append_right (by omega), hdl] at hr
                    obtain ⟨v, v1, v2⟩ := n6 (i - len) j r z hr hz'
                    have hlt := (List.getElem?_eq_some_iff.1 v1).1
                    refine ⟨v, ?_, n5 v (List.mem_of_getElem? v1), hm _ _ v2⟩
                    have e4 : i * sz'' + j = len * sz'' + ((i - len) * sz'' + j) := by
                      have : i * sz'' = len * sz'' + (i - len) * sz'' := by rw [← Nat.add_mul]; congr 1; omega
                      omega
                    rw [List.append_assoc, e4, List.getElem?_append_right (by omega), o4, Nat.add_sub_cancel_left, List.getElem?_append_left hlt]; exact v1
        · cases h
      · cases h
  · cases h


theorem appendA_sound {I : Nat → Prop} {w : World} {β : BMap} {get : GetF} {t tx ty : TypeId} {x y : Value} {s a r : AV} {n : Nat} {wr : List Wr} (hs : Sim I β get w) (hn : ∀ g', β (.h n g') = none)
    (hx : RV I w β x s) (hy : RV I w β y a) (h : appendA P get t tx s a n = some (r, wr)) :
    ∃ v w' β', (Builtin.append_ #[t, tx] ty #[x, y]).run P w = .ok v w' ∧ RV I w' β' v r ∧ Sim I β' (wr.foldl wrG get) w' ∧ Step I β get w I β' (wr.foldl wrG get) w' ∧ NewAt n get β β' := by
  unfold appendA at h
  split at h
  · rename_i d e hd hde
    split at h
    · cases h
    · rename_i hdi
      split at h
      · rename_i sz by_ hsz hby
        split at h
        · cases h
        · rename_i hzz
          simp only [not_or, Decidable.not_not] at hzz
          split at h
          · cases h
          · rename_i new hnew
            obtain ⟨n1, n2, vs, n3, n4, n5, n6⟩ := news_heap (P := P) hs hy hnew
            exact appRow_sound hs hn (run_elemOf hde) hd (fun k e => by subst e; exact hdi rfl) hsz hby hzz.1 (Nat.pos_of_ne_zero hzz.2) hx n1 n2 n3 n4 n5 n6 h
      · cases h
  · cases h

end
end Ab
end Go.Proofs.YtidoflgcblglbaaDoor

/-
  DERIVED. THE OTHER OPERATIONS: cuts, indexes, lengths, conversions, literals.
  Conditions: none of a program's.
-/
namespace Go.Proofs.YtidoflgcblglbaaDoor
namespace Ab
variable [WX]

section
variable {P : Program}

theorem run_sliceBound {I : Nat → Prop} {w : World} {β : BMap} {x : Value} {a : AV} {y n : Nat} {c : BoundsCode} (hx : RV I w β x a) (h : (match a with | .i _ m => if 0 ≤ m then some m.toNat else none | _ => none) = some n)
    (hn : n ≤ y) : (Instr.sliceBound x y c).run P w = .ok n w := by
  cases hx <;> simp only at h <;> first
    | (cases h; done)
    | (split at h
       · rename_i k m h0
         cases h
         have : (0 ≤ m ∧ m ≤ (y : Int)) := ⟨h0, by omega⟩
         simp [Instr.sliceBound, asIntOf, this]
       · cases h)

/-- The ends of a cut, as the model finds them. -/
theorem run_cut {I : Nat → Prop} {w : World} {β : BMap} {lo hi mx : Option Value} {la ha ma : Option AV} {len cap l h : Nat} {isS : Bool}
    (hlo : ∀ v, lo = some v → ∃ a, la = some a ∧ RV I w β v a) (hlo' : lo = none → la = none) (hhi : ∀ v, hi = some v → ∃ a, ha = some a ∧ RV I w β v a) (hhi' : hi = none → ha = none)
    (hmx : ∀ v, mx = some v → ∃ a, ma = some a ∧ RV I w β v a) (hmx' : mx = none → ma = none) (hle : len ≤ cap) (hc : cutEnds len la ha ma = some (l, h)) :
    l ≤ h ∧ h ≤ len ∧ ∃ m, h ≤ m ∧ m ≤ cap ∧ (Instr.sliceBounds isS len cap lo hi mx).run P w = .ok (l, h, m) w := by
  unfold cutEnds at hc
  simp only at hc
  split at hc
  · rename_i l' h' m' e1 e2 e3
    split at hc
    · rename_i hh
      obtain ⟨c1, c2, c3, c4⟩ := hh
      cases hc
      refine ⟨c1, by omega, ?_⟩
      -- each end as a run
      have bl : ∀ y, h ≤ y → ∀ c, (match lo with | some v => Instr.sliceBound v y c | none => pure 0 : Sem Nat).run P w = .ok l w := by
        intro y hy c
        cases lo with
        | none => rw [hlo' rfl] at e1; simp at e1; subst e1; rfl
        | some v =>
          obtain ⟨a, ea, ra⟩ := hlo v rfl
          rw [ea] at e1
          exact run_sliceBound ra (by cases a <;> simp_all) (by omega)
      have bh : ∀ y, h ≤ y → ∀ v, hi = some v → ∀ c, (Instr.sliceBound v y c).run P w = .ok h w := by
        intro y hy v hv c
        obtain ⟨a, ea, ra⟩ := hhi v hv
        rw [ea] at e2
        exact run_sliceBound ra (by cases a <;> simp_all) hy
      cases mx with
      | none =>
        cases hi with
        | none =>
          rw [hhi' rfl] at e2; simp at e2; subst e2
          refine ⟨cap, hle, Nat.le_refl _, ?_⟩
          have := bl len (Nat.le_refl _) .sliceB
          cases lo <;> simp_all [Instr.sliceBounds]
        | some v =>
          refine ⟨cap, by omega, Nat.le_refl _, ?_⟩
          have h1 := bl h (Nat.le_refl _) .sliceB
          have h2 := bh cap (by omega) v rfl (if isS then .sliceAcap else .sliceAlen)
          cases lo <;> simp_all [Instr.sliceBounds]
      | some u =>
        obtain ⟨a, ea, ra⟩ := hmx u rfl
        rw [ea] at e3 c4
        have h3 : (Instr.sliceBound u cap (if isS then .slice3Acap else .slice3Alen)).run P w = .ok m' w := run_sliceBound ra (by cases a <;> simp_all) (by omega)
        cases hi with
        | none => rw [hhi' rfl] at c4; simp at c4
        | some v =>
          refine ⟨m', c2, by omega, ?_⟩
          have h1 := bl h (Nat.le_refl _) .slice3C
          have h2 := bh m' c2 v rfl .slice3B
          cases lo <;> simp_all [Instr.sliceBounds]
    · cases hc
  · cases hc


/-- How operands that may be there read. -/
def OptRV (I : Nat → Prop) (w : World) (β : BMap) (x : Option Value) (a : Option AV) : Prop :=
  (∀ v, x = some v → ∃ b, a = some b ∧ RV I w β v b) ∧ (x = none → a = none)

theorem sliceA_sound {I : Nat → Prop} {w : World} {β : BMap} {get : GetF} {t : TypeId} {x : Value} {a r : AV} {lo hi mx : Option Value} {la ha ma : Option AV} {wr : List Wr} {n : Nat} (hs : Sim I β get w)
    (hx : RV I w β x a) (h1 : OptRV I w β lo la) (h2 : OptRV I w β hi ha) (h3 : OptRV I w β mx ma) (h : sliceA P get t a la ha ma = some (r, wr)) :
    ∃ v w' β', (Instr.slice t x lo hi mx).run P w = .ok v w' ∧ RV I w' β' v r ∧ Sim I β' (wr.foldl wrG get) w' ∧ Step I β get w I β' (wr.foldl wrG get) w' ∧ NewAt n get β β' := by
  unfold sliceA at h
  split at h
  · rename_i s hu
    cases hx
    split at h
    · cases h
    · rename_i hm
      split at h
      · rename_i l hh hcut
        simp only [ret, Option.some.injEq, Prod.mk.injEq] at h
        obtain ⟨rfl, rfl⟩ := h
        have hma : mx = none := by
          cases mx with
          | none => rfl
          | some v => obtain ⟨b, hb, _⟩ := h3.1 v rfl; rw [hb] at hm; simp at hm
        obtain ⟨_, _, m, _, _, hrun⟩ := run_cut (P := P) (cap := s.size) (isS := false) (mx := none) (ma := none) h1.1 h1.2 h2.1 h2.2 (by simp) (by simp) (Nat.le_refl _) hcut
        refine ⟨_, w, β, ?_, .s _ _, hs, .refl _ _ _ _, fun q _ hq _ => hq⟩
        subst hma
        simp [Instr.slice, run_und hu, hrun]
      · cases h
  · rename_i e nil sz rows hu
    split at h
    · rename_i l hh hcut
      split at h
      · rename_i hnil
        subst hnil
        cases hx
        split at h
        · rename_i hsz
          simp only [ret, Option.some.injEq, Prod.mk.injEq] at h
          obtain ⟨rfl, rfl⟩ := h
          obtain ⟨n0, hn0⟩ := Option.isSome_iff_exists.1 hsz
          obtain ⟨c1, c2, m, c3, c4, hrun⟩ := run_cut (P := P) (cap := 0) (isS := true) h1.1 h1.2 h2.1 h2.2 h3.1 h3.2 (Nat.le_refl _) hcut
          have : l = 0 := by omega
          have : m = 0 := by omega
          have : hh = 0 := by omega
          subst_vars
          refine ⟨_, w, β, ?_, .vsn _ _, hs, .refl _ _ _ _, fun q _ hq _ => hq⟩
          simp [Instr.slice, run_und hu, hrun, run_szOf hn0]
        · cases h
      · rename_i hnil
        split at h
        · rename_i hsz
          have hnil' : nil = false := by simpa using hnil
          subst hnil'
          simp only [ret, Option.some.injEq, Prod.mk.injEq] at h
          obtain ⟨rfl, rfl⟩ := h
          simp only [Bool.false_eq_true, if_false] at hcut
          cases hx with
          | vs0 _ ad cap =>
            obtain ⟨c1, c2, m, c3, c4, hrun⟩ := run_cut (P := P) (cap := cap) (isS := true) h1.1 h1.2 h2.1 h2.2 h3.1 h3.2 (Nat.zero_le _) hcut
            have : l = 0 := by omega
            have : hh = 0 := by omega
            subst_vars
            simp only [List.take_nil, List.drop_nil]
            refine ⟨.slice (some (if m = 0 then ad else ad.add (0 * sz))) 0 m, w, β, ?_, .vs0 _ _ _ _, hs, .refl _ _ _ _, fun q _ hq _ => hq⟩
            simp [Instr.slice, run_und hu, hrun, run_szOf hsz]
            split <;> rfl
          | vs _ b o len cap sz rows f hb hr hlen hcap k1 k2 =>
            subst hlen
            obtain ⟨c1, c2, m, c3, c4, hrun⟩ := run_cut (P := P) (cap := cap) (isS := true) h1.1 h1.2 h2.1 h2.2 h3.1 h3.2 hcap hcut
            have hlen2 : ((rows.take hh).drop l).length = hh - l := by simp; omega
            by_cases hml : m = l
            · have : hh = l := by omega
              subst this
              have hnil : (rows.take hh).drop hh = [] := List.eq_nil_of_length_eq_zero (by rw [hlen2]; omega)
              rw [hnil]
              refine ⟨.slice (some ⟨b, o, none⟩) 0 (m - hh), w, β, ?_, .vs0 _ _ _ _, hs, .refl _ _ _ _, fun q _ hq _ => hq⟩
              simp [Instr.slice, run_und hu, hrun, run_szOf hsz, hml]
            · refine ⟨.slice (some ⟨b, o + l * sz, none⟩) (hh - l) (m - l), w, β, ?_, ?_, hs, .refl _ _ _ _, fun q _ hq _ => hq⟩
              · simp [Instr.slice, run_und hu, hrun, run_szOf hsz, hml, addr_add]
              · refine .vs _ b (o + l * sz) _ _ sz _ (fun i j => f (i + l) j) hb (fun r hr' => hr r (List.mem_of_mem_take (List.mem_of_mem_drop hr'))) hlen2 (by omega) (fun i j r c a1 a2 => ?_) fun i j r c a1 a2 => ?_
                · rw [List.getElem?_drop] at a1
                  have hi : l + i < hh := by
                    have := (List.getElem?_eq_some_iff.1 a1).1
                    simp at this; omega
                  rw [List.getElem?_take_of_lt hi] at a1
                  have := k1 (l + i) j r c a1 a2
                  rw [show o + l * sz + i * sz + j = o + (l + i) * sz + j by rw [Nat.add_mul]; omega, Nat.add_comm i l]
                  exact this
                · rw [List.getElem?_drop] at a1
                  have hi : l + i < hh := by
                    have := (List.getElem?_eq_some_iff.1 a1).1
                    simp at this; omega
                  rw [List.getElem?_take_of_lt hi] at a1
                  have := k2 (l + i) j r c a1 a2
                  rw [Nat.add_comm i l]; exact this
        · cases h
    · cases h
  · rename_i e k g i0 len sz hu
    split at h
    · rename_i l hh sz' rows hcut hg
      split at h
      · rename_i hcond
        obtain ⟨hsz, rfl, htop⟩ := hcond
        simp only [ret, Option.some.injEq, Prod.mk.injEq] at h
        obtain ⟨rfl, rfl⟩ := h
        cases hx with
        | rs _ _ _ _ _ _ b o cap ad hb hcap hcsz had =>
          obtain ⟨c1, c2, m, c3, c4, hrun⟩ := run_cut (P := P) (cap := cap) (isS := true) h1.1 h1.2 h2.1 h2.2 h3.1 h3.2 hcap hcut
          have hrv : RV I w β (.slice (some (if m = l then ad else ad.add (l * sz'))) (hh - l) (m - l)) (.rs k g (i0 + l) (hh - l) sz') := by
            refine .rs _ k g _ _ sz' b o (m - l) _ hb (by omega) ?_ ?_
            · have : (i0 + l + (m - l)) * sz' ≤ (i0 + cap) * sz' := Nat.mul_le_mul_right _ (by omega)
              omega
            · by_cases hml : m = l
              · left; omega
              · right
                rw [if_neg hml]
                have := had.resolve_left (by omega)
                rw [this, addr_add, Nat.add_mul, Nat.add_assoc]
          have hruns : (Instr.slice t (.slice (some ad) len cap) lo hi mx).run P w = .ok (.slice (some (if m = l then ad else ad.add (l * sz'))) (hh - l) (m - l)) w := by
            simp [Instr.slice, run_und hu, hrun, run_szOf hsz]
            split <;> rfl
          exact ⟨_, w, β, hruns, hrv, hs, .refl _ _ _ _, fun q _ hq _ => hq⟩
      · cases h
    · cases h
  · cases h

theorem indexAddrA_sound {I : Nat → Prop} {w : World} {β : BMap} {t : TypeId} {x y : Value} {a b r : AV} (hx : RV I w β x a) (hy : RV I w β y b) (h : indexAddrA P t a b = some r) :
    ∃ v, (Instr.indexAt t x y).run P w = .ok v w ∧ RV I w β v r := by
  unfold indexAddrA at h
  split at h
  · rename_i e nil sz rows k i hu
    cases hy
    split at h
    · rename_i hh
      obtain ⟨h0, hsz⟩ := hh
      cases hr : rows[i.toNat]? with
      | none => simp [hr] at h
      | some row =>
        simp [hr] at h; subst h
        have hlt : i.toNat < rows.length := (List.getElem?_eq_some_iff.1 hr).1
        cases hx with
        | vsn => simp at hr
        | vs0 => simp at hr
        | vs _ b o len cap sz rows f hb hrl hlen hcap k1 k2 =>
          subst hlen
          have hc : (0 ≤ i ∧ i < (rows.length : Int)) := ⟨h0, by omega⟩
          refine ⟨.pointer (some ⟨b, o + i.toNat * sz, none⟩), ?_, .vp _ b _ row (fun j => f i.toNat j) hb (fun j c hc => k1 _ j row c hr hc) fun j c hc => k2 _ j row c hr hc⟩
          simp [Instr.indexAt, asIntOf, run_und hu, hc, run_szOf hsz, addr_add]
    · cases h
  · rename_i e k g i0 len sz k' i hu
    cases hy
    split at h
    · rename_i hh
      obtain ⟨h0, h1, hsz⟩ := hh
      cases h
      cases hx with
      | rs _ _ _ _ _ _ b o cap ad hb hcap hcsz had =>
        have had' := had.resolve_left (by omega)
        subst had'
        refine ⟨.pointer (some ⟨b, o + i0 * sz + i.toNat * sz, none⟩), ?_, ?_⟩
        · have hc : (0 ≤ i ∧ i < (len : Int)) := ⟨h0, h1⟩
          simp [Instr.indexAt, asIntOf, run_und hu, hc, run_szOf hsz, addr_add]
        · have := RV.pe (I := I) (w := w) β k g (i0 + i.toNat) 0 sz b o hb
          rwa [show o + (i0 + i.toNat) * sz + 0 = o + i0 * sz + i.toNat * sz by rw [Nat.add_mul]; omega] at this
    · cases h
  · rename_i len e d m o k i hu
    cases hy
    split at h
    · rename_i sz hsz
      split at h
      · rename_i hc
        cases h
        cases hx with
        | lp _ _ _ _ b o' hb =>
          refine ⟨.pointer (some ⟨b, o' + o + i.toNat * sz, none⟩), ?_, ?_⟩
          · simp [Instr.indexAt, asIntOf, run_und hu, hc, run_szOf hsz, addr_add, Instr.sureAddr]
          · have := RV.lp (I := I) (w := w) β d m (o + i.toNat * sz) b o' hb
            rwa [← Nat.add_assoc] at this
      · cases h
    · cases h
  · rename_i len e kk g o k i hu
    cases hy
    split at h
    · rename_i sz hsz
      split at h
      · rename_i hc
        cases h
        cases hx with
        | ptr _ _ _ _ b o' hb =>
          refine ⟨.pointer (some ⟨b, o' + o + i.toNat * sz, none⟩), ?_, ?_⟩
          · simp [Instr.indexAt, asIntOf, run_und hu, hc, run_szOf hsz, addr_add, Instr.sureAddr]
          · have := RV.ptr (I := I) (w := w) β kk g (o + i.toNat * sz) b o' hb
            rwa [← Nat.add_assoc] at this
      · cases h
    · cases h
  · cases h

end
end Ab
end Go.Proofs.YtidoflgcblglbaaDoor

/-
  DERIVED. EVERY OPERATION THAT CALLS NO FUNCTION: the model's run, where the abstract step comes to something.
  Conditions: none of a program's.
-/
namespace Go.Proofs.YtidoflgcblglbaaDoor
namespace Ab
variable [WX]

section
variable {P : Program}

theorem indexA_sound {I : Nat → Prop} {w : World} {β : BMap} {t : TypeId} {x y : Value} {a b r : AV} (hx : RV I w β x a) (hy : RV I w β y b) (h : indexA P t a b = some r) :
    ∃ v, (Instr.index t x y).run P w = .ok v w ∧ RV I w β v r := by
  unfold indexA at h
  split at h
  · rename_i s k i hu
    cases hx; cases hy
    split at h
    · rename_i h0
      cases hc : s.data.toList[i.toNat]? with
      | none => simp [hc] at h
      | some c =>
        simp [hc] at h; subst h
        have hlt : i.toNat < s.size := by
          have := (List.getElem?_eq_some_iff.1 hc).1
          simpa using this
        have hg : s[i.toNat]? = some c := by
          have h2 : s[i.toNat]'hlt = c := by
            have := (List.getElem?_eq_some_iff.1 hc).2
            rw [ByteArray.getElem_eq_getElem_data]
            simpa using this
          rw [← h2]; exact getElem?_pos s i.toNat hlt
        exact ⟨.int .u8 c.toNat, by simp [Instr.index, asIntOf, run_und hu, h0, hg], .i _ _ _⟩
    · cases h
  · cases h

theorem lenA_sound {I : Nat → Prop} {w : World} {β : BMap} {get : GetF} {t ty : TypeId} {x : Value} {a r : AV} (hs : Sim I β get w) (hx : RV I w β x a) (h : lenA P get t a = some r) :
    ∃ v, (Builtin.len_ #[t] ty #[x]).run P w = .ok v w ∧ RV I w β v r := by
  unfold lenA at h
  split at h
  · rename_i hu; cases h; cases hx
    exact ⟨_, by simp [Builtin.len_, run_und hu, goInt], .i _ _ _⟩
  · rename_i k hu
    split at h
    · rename_i es hg
      cases h; cases hx with
      | mp _ _ r o hb =>
        obtain ⟨p, hp, ho⟩ := hs.obj _ _ hg
        rw [hb] at hp; cases hp
        obtain ⟨mes, clock, h1, h2, _, _⟩ := ho
        refine ⟨.int .i64 (mes.size : Nat), ?_, by rw [h2]; exact .i _ _ _⟩
        have hgo : (getObj r).run P w = .ok (.map mes clock) w := by simp only [getObj, Sem.run]; simp only at h1; rw [h1]
        simp [Builtin.len_, run_und hu, hgo, goInt]
    · cases h
  · rename_i hu; cases h; cases hx
    exact ⟨_, by simp [Builtin.len_, run_und hu, goInt], .i _ _ _⟩
  · rename_i n s rows hu; cases h
    cases hx with
    | vsn => exact ⟨_, by simp [Builtin.len_, run_und hu, goInt], .i _ _ _⟩
    | vs0 => exact ⟨_, by simp [Builtin.len_, run_und hu, goInt], .i _ _ _⟩
    | vs _ b o len cap sz rows f hb hr hlen => subst hlen; exact ⟨_, by simp [Builtin.len_, run_und hu, goInt], .i _ _ _⟩
  · rename_i hu; cases h; cases hx
    exact ⟨_, by simp [Builtin.len_, run_und hu, goInt], .i _ _ _⟩
  · rename_i n e hu; cases h
    refine ⟨_, ?_, .i _ _ _⟩
    simp [Builtin.len_, run_und hu, goInt]
  · cases h

theorem bytesOf_spec : ∀ {rows : List (List AV)} {l : List UInt8}, bytesOf rows = some l → ∃ ns : List Int, rows = ns.map (fun n => [.i .u8 n]) ∧ l = ns.map fun n => UInt8.ofNat n.toNat
  | [], l, h => by simp [bytesOf] at h; subst h; exact ⟨[], rfl, rfl⟩
  | r :: rs, l, h => by
    unfold bytesOf at h
    split at h
    · rename_i heq; cases heq
    · rename_i n r' heq
      simp at heq
      obtain ⟨rfl, rfl⟩ := heq
      cases hb : bytesOf rs with
      | none => simp [hb] at h
      | some l' =>
        simp [hb] at h; subst h
        obtain ⟨ns, h1, h2⟩ := bytesOf_spec hb
        exact ⟨n :: ns, by simp [h1], by simp [h2]⟩
    · cases h

theorem modify_push {α : Type} (a : Array α) (x : α) (f : α → α) : (a.push x).modify a.size f = a.push (f x) := by
  apply Array.ext
  · simp
  · intro i h1 h2
    simp only [Array.getElem_modify, Array.getElem_push]
    simp at h2
    by_cases h : i < a.size
    · have : ¬ a.size = i := by omega
      simp [h, this]
    · have : a.size = i := by omega
      subst this
      simp

set_option maxHeartbeats 400000 in
theorem convA_sound {I : Nat → Prop} {w : World} {β : BMap} {get : GetF} {src dst : TypeId} {x : Value} {a r : AV} {n : Nat} {wr : List Wr} (hs : Sim I β get w) (hn : ∀ g', β (.h n g') = none)
    (hx : RV I w β x a) (h : convA P get src dst a n = some (r, wr)) :
    ∃ v w' β', (convert src dst x).run P w = .ok v w' ∧ RV I w' β' v r ∧ Sim I β' (wr.foldl wrG get) w' ∧ Step I β get w I β' (wr.foldl wrG get) w' ∧ NewAt n get β β' := by
  unfold convA at h
  split at h
  · rename_i d k k' m hu1 hu2
    simp only [ret, Option.some.injEq, Prod.mk.injEq] at h
    obtain ⟨rfl, rfl⟩ := h
    cases hx
    exact ⟨_, w, β, by simp [convert, run_und hu1, run_und hu2, Conv.intToInt], .i _ _ _, hs, .refl _ _ _ _, fun q _ hq _ => hq⟩
  · rename_i s hu1 hu2
    simp only [ret, Option.some.injEq, Prod.mk.injEq] at h
    obtain ⟨rfl, rfl⟩ := h
    cases hx
    exact ⟨_, w, β, by simp [convert, run_und hu1, run_und hu2], .s _ _, hs, .refl _ _ _ _, fun q _ hq _ => hq⟩
  · rename_i e s hu1 hu2
    split at h
    · rename_i hue
      split at h
      · rename_i hsz
        simp only [Option.some.injEq, Prod.mk.injEq] at h
        obtain ⟨rfl, rfl⟩ := h
        cases hx
        let cap := (Question.appendCap s.size 0 e).cut (w.tape w.drawn (Question.appendCap s.size 0 e))
        have hcap : s.size ≤ cap := by show s.size ≤ s.size + _; omega
        let w1 : World := { w with drawn := w.drawn + 1 }
        let c : Array Value := (s.data.map fun (b : UInt8) => Value.int .u8 b.toNat) ++ Array.replicate (cap - s.size) (.int .u8 0)
        have hcs : c.size = cap := by
          show ((s.data.map fun (b : UInt8) => Value.int .u8 b.toNat) ++ Array.replicate (cap - s.size) (Value.int .u8 0)).size = cap
          simp; have : s.data.size = s.size := rfl; omega
        let w' : World := { w1 with heap := w.heap.push (.cells c e (cap, cap + 1)) }
        have hch : (choose (.appendCap s.size 0 e)).run P w = .ok cap w1 := by rw [run_choose]; rfl
        have hrun : (convert src dst (.string s)).run P w = .ok (.slice (some ⟨w.heap.size, 0, none⟩) s.size cap) w' := by
          have hsh : World.shape? { w1 with heap := w1.heap.push (.cells c e) } w1.heap.size = some (e, c.size) := by simp [World.shape?]
          have hfz : World.freeze { w1 with heap := w1.heap.push (.cells c e) } { block := w1.heap.size, off := c.size } 1 = w' := by
            simp only [World.freeze, Nat.succ_ne_zero, if_false, modify_push]
            simp [hcs, w', w1]
          have hmk : (markStringish { block := w1.heap.size, off := 0 }).run P { w1 with heap := w1.heap.push (.cells c e) } = .ok () w' := by
            simp only [markStringish, Sem.run_bind, run_shape, Result.andThen_ok, hsh, run_freeze, hfz]
          simp only [convert, Sem.run_bind, run_und hu1, Result.andThen_ok, run_und hu2, run_und hue, Conv.stringToBytes, hch, newRow, run_newObj, Sem.run_pure]
          have hmk' : (markStringish { block := w1.heap.size, off := 0 }).run P { w1 with heap := w1.heap.push (.cells ((s.data.map fun (b : UInt8) => Value.int .u8 b.toNat) ++ Array.replicate (cap - s.size) (Value.int .u8 0)) e) } = .ok () w' := hmk
          simp only [hmk', Result.andThen_ok]
          rfl
        have hlen : (rowsOfBytes s).length = s.size := by simp [rowsOfBytes]
        have hh : w'.heap = w.heap.push (.cells c e (cap, cap + 1)) := rfl
        obtain ⟨q1, q2⟩ := newArr_sound (rows := rowsOfBytes s) (n := n) (sz := 1) hs hn hh rfl rfl rfl (by omega) (fun r hr => by
            simp only [rowsOfBytes, List.mem_map] at hr; obtain ⟨_, _, rfl⟩ := hr; rfl) (by rw [hlen, hcs]; omega) (.inr (by rw [hcs]; exact Nat.le_refl _)) (fun i k r z hr hz => by
            simp only [rowsOfBytes, List.getElem?_map, Option.map_eq_some_iff] at hr
            obtain ⟨u, hu, rfl⟩ := hr
            cases k with
            | zero =>
              simp at hz; subst hz
              refine ⟨.int .u8 u.toNat, ?_, rfl, .i _ _ _⟩
              have hi : i < s.data.size := by have := (List.getElem?_eq_some_iff.1 hu).1; simpa using this
              have hi2 : i * 1 + 0 < (s.data.map fun (b : UInt8) => Value.int .u8 b.toNat).size := by simpa using hi
              show ((s.data.map fun (b : UInt8) => Value.int .u8 b.toNat) ++ Array.replicate (cap - s.size) (Value.int .u8 0))[i * 1 + 0]? = _
              rw [Array.getElem?_append_left hi2]
              have : s.data[i]? = some u := by simpa using hu
              simp [this]
            | succ k => simp at hz)
        refine ⟨_, w', _, hrun, rs_new hh hcap (by rw [hcs]; omega), q1, q2, fun q hq hb _ => ?_⟩
        rw [ext_ne _ _ (by rintro rfl; exact hq rfl)]; exact hb
      · cases h
    · cases h
  · rename_i xa e xb hu1 hu2
    split at h
    · rename_i rows hue hrows
      split at h
      · rename_i l hl
        simp only [ret, Option.some.injEq, Prod.mk.injEq] at h
        obtain ⟨rfl, rfl⟩ := h
        obtain ⟨ns, rfl, rfl⟩ := bytesOf_spec hl
        have hsh := rowsSz_sound hs hx hrows
        obtain ⟨⟨base, cap, rfl, hc⟩, hlr⟩ := hsh
        refine ⟨.string ⟨(ns.map fun n => UInt8.ofNat n.toNat).toArray⟩, w, β, ?_, .s _ _, hs, .refl _ _ _ _, fun q _ hq _ => hq⟩
        rw [run_convert_bytes_string w src dst _ base _ cap hu1 hue hu2]
        have hfold : ∀ (ns : List Int) (s : ByteArray), ns.foldl (fun r n => r.push (UInt8.ofNat n.toNat)) s = ⟨s.data ++ (ns.map fun n => UInt8.ofNat n.toNat).toArray⟩ := by
          intro ns
          induction ns with
          | nil => intro s; simp
          | cons n ns ih => intro s; simp only [List.foldl_cons, ih]; congr 1; simp [ByteArray.push]
        rcases hc with hc | ⟨b, o, rfl, hc⟩
        · have hns : ns = [] := by simpa using hc
          subst hns
          cases base with
          | none => simp [Conv.bytesToString]; rfl
          | some a =>
            have := run_bytesToString (P := P) w a 0 cap [] (by simpa using run_loadCells_list (P := P) w a [] (by simp))
            exact this
        · obtain ⟨vs, a1, a2, a3, a4⟩ := hc.all
          have hvs : vs = ns.map (Value.int .u8) := by
            apply List.ext_getElem?
            intro j
            have hfl : ∀ ns : List Int, (ns.map fun n => [AV.i .u8 n]).flatten = ns.map fun n => AV.i .u8 n := by
              intro ns
              induction ns with
              | nil => rfl
              | cons n ns ih => simp only [List.map_cons, List.flatten_cons, ih]; rfl
            rw [hfl] at a1 a4
            by_cases hj : j < vs.length
            · have hj2 : j < ns.length := by simpa [a1] using hj
              have := a4 j vs[j] (.i .u8 ns[j]) (List.getElem?_eq_getElem hj) (by simp [hj2])
              rw [List.getElem?_eq_getElem hj]
              simp only [List.getElem?_map, List.getElem?_eq_getElem hj2, Option.map_some]
              generalize vs[j] = v at this
              cases this; rfl
            · have hj2 : ¬ j < ns.length := by simpa [a1] using hj
              rw [List.getElem?_eq_none (by omega), List.getElem?_eq_none (by simp; omega)]
          have hl := run_loadCells_list (P := P) w ⟨b, o, none⟩ vs (fun j v hv => by rw [addr_add]; exact a2 j v hv)
          have hlen : vs.length = (ns.map fun n => [AV.i .u8 n]).length := by rw [hvs]; simp
          rw [hlen] at hl
          have := run_bytesToString (P := P) w ⟨b, o, none⟩ (ns.map fun n => [AV.i .u8 n]).length cap ns (by rw [hl, hvs])
          rw [this, hfold]
          simp
      · cases h
    · cases h
  · rename_i e0 e k g i0 len sz hu1 hu2
    split at h
    · rename_i z rows hue hg
      split at h
      · rename_i hsd
        obtain ⟨rfl, hlen⟩ := hsd
        have hee : e0 = e := by rw [hu1] at hu2; cases hu2; rfl
        subst hee
        simp only [Option.some.injEq, Prod.mk.injEq] at h
        obtain ⟨rfl, rfl⟩ := h
        cases hx with
        | rs _ _ _ _ _ _ b o cap ad hbb hcap hcsz had =>
          have had' : ad = ⟨b, o + i0 * sz, none⟩ := had.resolve_left (by omega)
          subst had'
          obtain ⟨p, hp, ho⟩ := hs.obj _ _ hg
          rw [hbb] at hp; cases hp
          obtain ⟨z0, zr, c, et, fr, c1, c2, c3, c4⟩ := ho
          simp only at c1 c2 c4
          let fr' : Nat × Nat := if fr.1 == fr.2 then (c.size, c.size + 1) else (min fr.1 c.size, max fr.2 (c.size + 1))
          have hfr : unfz c fr' := by
            rcases c3 with h | h
            · exact .inr (by simp [fr', h])
            · refine .inr ?_
              simp only [fr']
              split <;> simp <;> omega
          let w' : World := w.freeze ⟨b, c.size, none⟩ 1
          have hb1 : w'.heap[b]? = some (.cells c et fr') := by
            simp only [w', World.freeze, Nat.succ_ne_zero, if_false, Array.getElem?_modify, if_true, c1, Option.map_eq_map, Option.map_some]
            rfl
          have hb2 : ∀ j, j ≠ b → w'.heap[j]? = w.heap[j]? := by
            intro j hj
            simp only [w', World.freeze, Nat.succ_ne_zero, if_false, Array.getElem?_modify, if_neg (Ne.symm hj)]
          have hrun : (convert src src (.slice (some ⟨b, o + i0 * sz, none⟩) len cap)).run P w = .ok (.slice (some ⟨b, o + i0 * sz, none⟩) len cap) w' := by
            have hsh : World.shape? w b = some (et, c.size) := by simp [World.shape?, c1]
            simp only [convert, Sem.run_bind, run_und hu1, Result.andThen_ok, run_und hu2, run_und hue, beq_self_eq_true, markStringish, run_shape, hsh, run_freeze, Sem.run_pure]
            rfl
          have hcs : ∀ j, csz w j ≤ csz w' j := fun j => by
            by_cases hj : j = b
            · subst hj; simp [csz, c1, hb1]
            · simp [csz, hb2 j hj]
          have himm : ∀ j, I j → w'.heap[j]? = w.heap[j]? := fun j hj => hb2 j fun e => (hs.imm j hj).2 ⟨_, _, _, hg, hbb, e.symm⟩
          have hput := hs.put (w' := w') (β' := β) (r := .h k g) (o' := .arr z rows) (p := (b, o)) (fun _ _ => rfl) (.inr hbb) hbb
            ⟨z0, zr, c, et, fr', hb1, c2, hfr, fun i j r x hr hx => by
              obtain ⟨v, v1, v2, v3⟩ := c4 i j r x hr hx
              exact ⟨v, v1, v2, v3.mono (fun _ h => h) himm (fun _ _ h => h) hcs⟩⟩
            rfl rfl rfl (by simp [w', World.freeze]) hcs (fun j _ hj => hb2 j hj) (.inl ⟨_, _, _, hg, hbb, rfl, rfl⟩) (fun k' g' e => by cases e; exact hs.gen k g _ hg)
          refine ⟨_, w', β, hrun, ?_, hput.1, hput.2, fun q _ hq _ => hq⟩
          exact RV.rs (I := I) (w := w') β k g i0 len sz b o cap _ hbb hcap (Nat.le_trans hcsz (hcs b)) (.inr rfl)
      · cases h
    · cases h
  · cases h

end
end Ab
end Go.Proofs.YtidoflgcblglbaaDoor

/-
  DERIVED. EVERY OPERATION THAT CALLS NO FUNCTION, TOGETHER: where the abstract step comes to something, so does the model's.
  Conditions: none of a program's.
-/
namespace Go.Proofs.YtidoflgcblglbaaDoor
namespace Ab
variable [WX]

section
variable {P : Program}

theorem RV.tup2 {I : Nat → Prop} {w : World} {β : BMap} {l : List Value} {cs : List AV} (h : l.length = cs.length) (hh : ∀ (j : Nat) (v : Value) (c : AV), l[j]? = some v → cs[j]? = some c → RV I w β v c) :
    RV I w β (.tuple l.toArray) (.tup cs) := .tup _ _ _ (by simpa using h) fun j v c hv hc => hh j v c (by simpa using hv) hc

theorem nextA_sound {I : Nat → Prop} {w : World} {β : BMap} {get : GetF} {ty : TypeId} {x : Value} {a r : AV} {n : Nat} {wr : List Wr} (hs : Sim I β get w) (hx : RV I w β x a) (h : nextA get a = some (r, wr)) :
    ∃ v w' β', (Instr.next x true ty).run P w = .ok v w' ∧ RV I w' β' v r ∧ Sim I β' (wr.foldl wrG get) w' ∧ Step I β get w I β' (wr.foldl wrG get) w' ∧ NewAt n get β β' := by
  unfold nextA at h
  split at h
  · rename_i k g
    cases hx with
    | ptr _ _ _ _ b o hb =>
      split at h
      · rename_i s pos hg
        obtain ⟨p, hp, ho⟩ := hs.obj _ _ hg
        rw [hb] at hp; cases hp
        obtain ⟨h0, h1⟩ := ho
        simp only at h0 h1
        subst h0
        have hlt : b < w.heap.size := (Array.getElem?_eq_some_iff.1 h1).1
        have hgo : (getObj b).run P w = .ok (.stringIter s pos) w := by simp only [getObj, Sem.run, h1]
        split at h
        · rename_i hpos
          simp only [Option.some.injEq, Prod.mk.injEq] at h
          obtain ⟨rfl, rfl⟩ := h
          let w' : World := { w with heap := w.heap.setIfInBounds b (.stringIter s (pos + (Utf8.decode s pos).2)) }
          have hso : (setObj b (.stringIter s (pos + (Utf8.decode s pos).2))).run P w = .ok () w' := by simp only [setObj, Sem.run, h1]; rfl
          have hb' : w'.heap[b]? = some (.stringIter s (pos + (Utf8.decode s pos).2)) := by
            show (w.heap.setIfInBounds b _)[b]? = _
            simp [hlt]
          have hne : ∀ j, j ≠ b → w'.heap[j]? = w.heap[j]? := fun j hj => by
            show (w.heap.setIfInBounds b _)[j]? = _
            rw [Array.getElem?_setIfInBounds_ne (fun e => hj e.symm)]
          have hput := hs.put (w' := w') (β' := β) (r := .h k g) (o' := .sit s (pos + (Utf8.decode s pos).2)) (p := (b, 0)) (fun _ _ => rfl) (.inr hb) hb ⟨rfl, hb'⟩ rfl rfl rfl (by show _ ≤ (w.heap.setIfInBounds b _).size; simp)
            (fun j => by
              by_cases hj : j = b
              · subst hj; simp [csz, h1]
              · simp [csz, hne j hj]) (fun j _ hj => hne j hj) (.inl ⟨_, _, _, hg, hb, rfl, rfl⟩) (fun k' g' e => by cases e; exact hs.gen k g _ hg)
          refine ⟨_, w', β, ?_, RV.tup2 (l := [.bool true, goInt pos, .int .i32 (Utf8.decode s pos).1]) (by simp) ?_, hput.1, hput.2, fun q _ hq _ => hq⟩
          · simp only [Instr.next, Sem.run_bind, hgo, Result.andThen_ok, if_pos hpos, hso, Sem.run_pure]
          · intro j v c hv hc
            match j with
            | 0 => simp at hv hc; subst hv; subst hc; exact .b _ _
            | 1 => simp at hv hc; subst hv; subst hc; exact .i _ _ _
            | 2 => simp at hv hc; subst hv; subst hc; exact .i _ _ _
            | j + 3 => simp at hv
        · rename_i hpos
          simp only [ret, Option.some.injEq, Prod.mk.injEq] at h
          obtain ⟨rfl, rfl⟩ := h
          refine ⟨_, w, β, ?_, RV.tup2 (l := [.bool false]) (by simp) ?_, hs, .refl _ _ _ _, fun q _ hq _ => hq⟩
          · simp only [Instr.next, Sem.run_bind, hgo, Result.andThen_ok, if_neg hpos, Sem.run_pure]
          · intro j v c hv hc
            match j with
            | 0 => simp at hv hc; subst hv; subst hc; exact .b _ _
            | j + 1 => simp at hv
      · cases h
  · cases h

/-- The entries of a map. -/
def EntR (I : Nat → Prop) (w : World) (β : BMap) (mes : List MapEntry) (es : List (AV × AV)) : Prop :=
  mes.length = es.length ∧ ∀ (j : Nat) (m : MapEntry) (e : AV × AV), mes[j]? = some m → es[j]? = some e → RV I w β m.key e.1 ∧ RV I w β m.val e.2

theorem sameA_sound {I : Nat → Prop} {w : World} {β : BMap} {d : TypeDesc} {k k' : Value} {x y : AV} {b : Bool} (hk : RV I w β k x) (hy : RV I w β k' y) (h : sameA d x y = some b) : Instr.sameNow d k k' = some b ∧ keyD d = true := by
  unfold sameA at h
  split at h
  · cases hk; cases hy; exact ⟨h, rfl⟩
  · cases hk; cases hy; exact ⟨h, rfl⟩
  · cases h

theorem findA_sound {I : Nat → Prop} {w : World} {β : BMap} {d : TypeDesc} {k : Value} {x : AV} (hk : RV I w β k x) : ∀ (mes : List MapEntry) (es : List (AV × AV)) (i : Nat) (r : Option (Nat × AV)), EntR I w β mes es → findA d x es i = some r →
    ∃ r', Instr.findNow d k mes i = some r' ∧ (r = none ↔ r' = none) ∧ ∀ j a, r = some (j, a) → ∃ v, r' = some (j, v) ∧ RV I w β v a ∧ i ≤ j ∧ j < i + mes.length
  | [], [], i, r, _, h => by
    cases h
    exact ⟨none, rfl, by simp, fun j a h => by cases h⟩
  | [], _ :: _, i, r, he, _ => by have := he.1; simp at this
  | _ :: _, [], i, r, he, _ => by have := he.1; simp at this
  | m :: mes, e :: es, i, r, he, h => by
    obtain ⟨h1, h2⟩ := he.2 0 m e rfl rfl
    have he' : EntR I w β mes es := ⟨by have := he.1; simpa using this, fun j a b ha hb => he.2 (j + 1) a b (by simpa using ha) (by simpa using hb)⟩
    unfold findA at h
    unfold Instr.findNow
    split at h
    · rename_i hs
      cases h
      rw [(sameA_sound hk h1 hs).1]
      refine ⟨_, rfl, by simp, fun j a hja => ?_⟩
      cases hja
      exact ⟨m.val, rfl, h2, Nat.le_refl _, by simp⟩
    · rename_i hs
      rw [(sameA_sound hk h1 hs).1]
      obtain ⟨r', q1, q2, q3⟩ := findA_sound hk mes es (i + 1) r he' h
      refine ⟨r', q1, q2, fun j a hja => ?_⟩
      obtain ⟨v, e1, e2, e3, e4⟩ := q3 j a hja
      exact ⟨v, e1, e2, by omega, by simp; omega⟩
    · cases h

theorem run_checkKey {t : TypeId} {d : TypeDesc} (hd : P.underlying t = some d) (hk : keyD d = true) (em : Bool) (v : Value) (w : World) : (Instr.checkKey em 10000 t v).run P w = .ok () w := by
  show (Instr.checkKey em (9999 + 1) t v).run P w = .ok () w
  unfold Instr.checkKey
  simp only [Sem.run_bind, run_und hd, Result.andThen_ok]
  unfold keyD at hk
  split at hk
  · rfl
  · rfl
  · cases hk

theorem run_findKey {t : TypeId} {d : TypeDesc} (hd : P.underlying t = some d) {k : Value} {es : List MapEntry} {r : Option (Nat × Value)} (h : Instr.findNow d k es 0 = some r) (w : World) : (Instr.findKey t k es).run P w = .ok r w := by
  unfold Instr.findKey
  simp only [Sem.run_bind, run_und hd, Result.andThen_ok, h, Sem.run_pure]

theorem zeroAV_spec {t : TypeId} {z : AV} (h : zeroAV P t = some z) : ∃ v i, P.info? t = some i ∧ i.zero = some v ∧ z = ofC v := by
  unfold zeroAV at h
  rw [Option.map_eq_some_iff] at h
  obtain ⟨v, h1, rfl⟩ := h
  rw [Option.bind_eq_some_iff] at h1
  obtain ⟨i, h2, h3⟩ := h1
  exact ⟨v, i, h2, h3, rfl⟩

theorem lookupA_sound {I : Nat → Prop} {w : World} {β : BMap} {get : GetF} {t : TypeId} {x k : Value} {a b r : AV} {ok : Bool} (hs : Sim I β get w) (hx : RV I w β x a) (hk : RV I w β k b) (h : lookupA P get t a b ok = some r) :
    ∃ v, (Instr.lookup t x k ok).run P w = .ok v w ∧ RV I w β v r := by
  unfold lookupA at h
  split at h
  · rename_i kt et hu
    split at h
    · rename_i d z es hd hz he
      split at h
      · rename_i hkd
        obtain ⟨zv, zi, hzi, hzz, rfl⟩ := zeroAV_spec hz
        have hm : ∃ mes : Array MapEntry, EntR I w β mes.toList es ∧ ((x = .map none ∧ mes = #[]) ∨ ∃ rr clock, x = .map (some rr) ∧ (getObj rr).run P w = .ok (.map mes clock) w) := by
          unfold mapOf at he
          split at he
          · cases he
            cases hx
            exact ⟨#[], ⟨rfl, fun j m e hm => by simp at hm⟩, .inl ⟨rfl, rfl⟩⟩
          · split at he
            · rename_i n _ hg
              cases he
              cases hx with
              | mp _ _ rr o hb =>
                obtain ⟨p, hp, mes, clock, h1, h2, hst, h3⟩ := hs.obj _ _ hg
                rw [hb] at hp
                cases hp
                exact ⟨mes, ⟨by simpa using h2, fun j m e hm he => h3 j m e (by simpa using hm) he⟩, .inr ⟨rr, clock, rfl, by simp only [getObj, Sem.run, h1]⟩⟩
            · cases he
          · cases he
        obtain ⟨mes, hent, hrun⟩ := hm
        have hgoal : ∀ r' : Option (Nat × Value), Instr.findNow d k mes.toList 0 = some r' → (Instr.lookup t x k ok).run P w = .ok (if ok then .tuple #[(match r' with
            | some (_, v) => v
            | none => zv), .bool r'.isSome] else (match r' with
            | some (_, v) => v
            | none => zv)) w := by
          intro r' hr'
          unfold Instr.lookup
          rcases hrun with ⟨rfl, rfl⟩ | ⟨rr, clock, rfl, hgo⟩
          · simp only [Sem.run_bind, run_und hu, Result.andThen_ok, Sem.run_pure, run_checkKey hd hkd, run_findKey hd hr']
            cases r' with
            | none =>
              simp only [Sem.run_bind, run_zeroOf hzi hzz, Result.andThen_ok, Sem.run_pure]
              rfl
            | some jv =>
              simp only [Sem.run_bind, Result.andThen_ok, Sem.run_pure]
              rfl
          · simp only [Sem.run_bind, run_und hu, Result.andThen_ok, hgo, Sem.run_pure, run_checkKey hd hkd, run_findKey hd hr']
            cases r' with
            | none =>
              simp only [Sem.run_bind, run_zeroOf hzi hzz, Result.andThen_ok, Sem.run_pure]
              rfl
            | some jv =>
              simp only [Sem.run_bind, Result.andThen_ok, Sem.run_pure]
              rfl
        split at h
        · rename_i _ _ i v hf
          obtain ⟨r', q1, q2, q3⟩ := findA_sound hk mes.toList es 0 _ hent hf
          obtain ⟨v', rfl, q4, _⟩ := q3 i v rfl
          split at h
          · cases h
            refine ⟨_, hgoal _ q1, ?_⟩
            cases ok
            · exact q4
            · refine RV.tup2 (l := [v', .bool true]) rfl fun j v c hv hc => ?_
              match j with
              | 0 => simp at hv hc; subst hv; subst hc; exact q4
              | 1 => simp at hv hc; subst hv; subst hc; exact .b _ _
              | j + 2 => simp at hv
          · cases h
        · rename_i _ _ hf
          obtain ⟨r', q1, q2, q3⟩ := findA_sound hk mes.toList es 0 _ hent hf
          obtain rfl : r' = none := q2.1 rfl
          have hzr : RV I w β zv (ofC zv) := ofC_RV I w β zv
          split at h
          · cases h
            refine ⟨_, hgoal _ q1, ?_⟩
            cases ok
            · exact hzr
            · refine RV.tup2 (l := [zv, .bool false]) rfl fun j v c hv hc => ?_
              match j with
              | 0 => simp at hv hc; subst hv; subst hc; exact hzr
              | 1 => simp at hv hc; subst hv; subst hc; exact .b _ _
              | j + 2 => simp at hv
          · cases h
        · cases h
      · cases h
    · cases h
  · cases h

theorem sameNow_bits {d : TypeDesc} {k k' : Value} (h : Instr.sameNow d k k' = some true) : Instr.sameBits 10000 k' k = true := by
  unfold Instr.sameNow at h
  split at h
  · split at h
    · rename_i hkk
      subst hkk
      simp only [Option.some.injEq, beq_iff_eq] at h
      subst h
      simp [Instr.sameBits]
    · cases h
  · rename_i x y
    obtain rfl : x = y := by
      have h : (x.data == y.data) = true := Option.some.inj h
      cases x; cases y
      simpa using h
    show (x == x) = true
    show (x.data == x.data) = true
    simp
  · have h := LawfulBEq.eq_of_beq (Option.some.inj h)
    subst h
    simp [Instr.sameBits]
  · cases h
theorem findNow_key {d : TypeDesc} {k : Value} : ∀ (mes : List MapEntry) (i j : Nat) (v : Value), Instr.findNow d k mes i = some (some (j, v)) → ∃ m, mes[j - i]? = some m ∧ i ≤ j ∧ Instr.sameNow d k m.key = some true
  | [], i, j, v, h => by cases h
  | m :: mes, i, j, v, h => by
    unfold Instr.findNow at h
    split at h
    · rename_i hs
      cases h
      exact ⟨m, by simp, Nat.le_refl _, hs⟩
    · obtain ⟨m', h1, h2, h3⟩ := findNow_key mes (i + 1) j v h
      refine ⟨m', ?_, by omega, h3⟩
      rw [show j - i = (j - (i + 1)) + 1 by omega, List.getElem?_cons_succ]
      exact h1
    · cases h

theorem stamps_modify {mes : Array MapEntry} {clock : Nat} (h : stampsOk mes clock) (i : Nat) (k v : Value) : stampsOk (mes.modify i fun e => { e with key := k, val := v }) clock := by
  have e : ((mes.modify i fun e => { e with key := k, val := v }).toList.map (·.born)) = mes.toList.map (·.born) := by
    rw [Array.toList_modify]
    apply List.ext_getElem?
    intro j
    simp only [List.getElem?_map, List.getElem?_modify]
    by_cases hj : i = j
    · subst hj; cases mes.toList[i]? <;> simp
    · simp [hj]
  refine ⟨fun x hx => ?_, by rw [e]; exact h.2⟩
  have hb : x.born ∈ mes.toList.map (·.born) := by rw [← e]; exact List.mem_map.2 ⟨x, hx, rfl⟩
  obtain ⟨y, hy, hy2⟩ := List.mem_map.1 hb
  rw [← hy2]; exact h.1 y hy
theorem stamps_push {mes : Array MapEntry} {clock : Nat} (h : stampsOk mes clock) (k v : Value) : stampsOk (mes.push { key := k, val := v, born := clock }) (clock + 1) := by
  constructor
  · intro x hx
    rw [Array.toList_push, List.mem_append, List.mem_singleton] at hx
    rcases hx with hx | rfl
    · exact Nat.lt_succ_of_lt (h.1 x hx)
    · exact Nat.lt_succ_self _
  · rw [Array.toList_push, List.map_append, List.nodup_append]
    refine ⟨h.2, by simp, ?_⟩
    intro a ha b hb
    simp at hb
    subst hb
    obtain ⟨y, hy, rfl⟩ := List.mem_map.1 ha
    have := h.1 y hy
    intro e
    omega
theorem stamps_erase {mes : Array MapEntry} {clock : Nat} (h : stampsOk mes clock) (i : Nat) : stampsOk (mes.eraseIdxIfInBounds i) clock := by
  have e : (mes.eraseIdxIfInBounds i).toList = mes.toList.eraseIdx i := by simp
  constructor
  · intro x hx
    rw [e] at hx
    exact h.1 x (List.mem_of_mem_eraseIdx hx)
  · rw [e]
    exact h.2.sublist ((List.eraseIdx_sublist _ _).map _)
theorem updateA_sound {I : Nat → Prop} {w : World} {β : BMap} {get : GetF} {t : TypeId} {m k v : Value} {a b c : AV} {y : Wr} (hs : Sim I β get w) (hm : RV I w β m a) (hk : RV I w β k b) (hv : RV I w β v c) (h : updateA P get t a b c = some y) :
    ∃ w', (Instr.mapUpdate t m k v).run P w = .ok () w' ∧ Sim I β (wrG get y) w' ∧ Step I β get w I β (wrG get y) w' := by
  unfold updateA at h
  split at h
  · rename_i kt et n hu
    split at h
    · rename_i d es hd hg
      split at h
      · rename_i hkd
        cases hm with
        | mp _ _ rr o hb =>
          obtain ⟨p, hp, mes, clock, h1, h2, hst, h3⟩ := hs.obj _ _ hg
          rw [hb] at hp
          cases hp
          simp only at h1
          have hlt : rr < w.heap.size := (Array.getElem?_eq_some_iff.1 h1).1
          have hent : EntR I w β mes.toList es := ⟨by simpa using h2, fun j m e hm he => h3 j m e (by simpa using hm) he⟩
          have hgo : (getObj rr).run P w = .ok (.map mes clock) w := by simp only [getObj, Sem.run, h1]
          have hput : ∀ (mes' : Array MapEntry) (clock' : Nat) (es' : List (AV × AV)), stampsOk mes' clock' → EntR I w β mes'.toList es' →
              ∃ w', (setObj rr (.map mes' clock')).run P w = .ok () w' ∧ Sim I β (wrG get (.h n 0, some (.mp es'))) w' ∧ Step I β get w I β (wrG get (.h n 0, some (.mp es'))) w' := by
            intro mes' clock' es' hst' he'
            let w' : World := { w with heap := w.heap.setIfInBounds rr (.map mes' clock') }
            have hso : (setObj rr (.map mes' clock')).run P w = .ok () w' := by simp only [setObj, Sem.run, h1]; rfl
            have hb' : w'.heap[rr]? = some (.map mes' clock') := by
              show (w.heap.setIfInBounds rr _)[rr]? = _
              simp [hlt]
            have hne : ∀ j, j ≠ rr → w'.heap[j]? = w.heap[j]? := fun j hj => by
              show (w.heap.setIfInBounds rr _)[j]? = _
              rw [Array.getElem?_setIfInBounds_ne (fun e => hj e.symm)]
            have hcs : ∀ j, csz w j ≤ csz w' j := fun j => by
              by_cases hj : j = rr
              · subst hj; simp [csz, h1]
              · simp [csz, hne j hj]
            have hI : ∀ b, I b → w'.heap[b]? = w.heap[b]? := fun b hb2 => hne b fun e => by
              subst e
              exact (hs.imm b hb2).2 ⟨_, _, _, hg, hb, rfl⟩
            refine ⟨w', hso, hs.put (w' := w') (β' := β) (r := .h n 0) (o' := .mp es') (p := (rr, o)) (fun _ _ => rfl) (.inr hb) hb ?_ rfl rfl rfl (by show _ ≤ (w.heap.setIfInBounds rr _).size; simp) hcs (fun j _ hj => hne j hj) (.inl ⟨_, _, _, hg, hb, rfl, rfl⟩) (fun k' g' e => by cases e; exact hs.gen n 0 _ hg)⟩
            exact ⟨mes', clock', hb', by have := he'.1; simpa using this, hst', fun j m e hm he => by
              obtain ⟨x1, x2⟩ := he'.2 j m e (by simpa using hm) he
              exact ⟨x1.mono (fun _ h => h) hI (fun _ _ h => h) hcs, x2.mono (fun _ h => h) hI (fun _ _ h => h) hcs⟩⟩
          split at h
          · rename_i _ _ i v0 hf
            obtain ⟨r', q1, q2, q3⟩ := findA_sound hk mes.toList es 0 _ hent hf
            obtain ⟨v', rfl, q4, q5, q6⟩ := q3 i v0 rfl
            cases h
            obtain ⟨m0, g1, _, g3⟩ := findNow_key _ _ _ _ q1
            simp only [Nat.sub_zero] at g1
            have hm0 : mes[i]? = some m0 := by simpa using g1
            have hi : i < mes.size := (Array.getElem?_eq_some_iff.1 hm0).1
            obtain ⟨w', e1, e2, e3⟩ := hput (mes.modify i fun e => { e with key := k, val := v }) clock (es.set i (b, c)) (stamps_modify hst i k v) ⟨by have := hent.1; simpa using this, fun j m e hm he => by
              rw [Array.toList_modify] at hm
              rw [List.getElem?_modify] at hm
              rw [List.getElem?_set] at he
              by_cases hj : i = j
              · subst hj
                have hlt2 : i < es.length := by have := hent.1; simp at this; omega
                simp [hlt2] at he
                subst he
                simp at hm
                obtain ⟨m1, _, rfl⟩ := hm
                exact ⟨hk, hv⟩
              · simp [hj] at hm he
                exact h3 j m e (by simpa using hm) he⟩
            refine ⟨w', ?_, e2, e3⟩
            unfold Instr.mapUpdate
            simp only [Sem.run_bind, run_und hu, Result.andThen_ok, hgo, run_checkKey hd hkd.1, run_findKey hd q1, hm0]
            simp only [Option.map_some, Option.getD_some, Instr.keyThatStays, sameNow_bits g3, if_true, Sem.run_pure, Result.andThen_ok]
            exact e1
          · rename_i _ _ hf
            obtain ⟨r', q1, q2, q3⟩ := findA_sound hk mes.toList es 0 _ hent hf
            obtain rfl : r' = none := q2.1 rfl
            cases h
            obtain ⟨w', e1, e2, e3⟩ := hput (mes.push { key := k, val := v, born := clock }) (clock + 1) (es ++ [(b, c)]) (stamps_push hst k v) ⟨by have := hent.1; simp at this ⊢; omega, fun j m e hm he => by
              rw [Array.toList_push] at hm
              have hl := hent.1
              by_cases hj : j < es.length
              · rw [List.getElem?_append_left hj] at he
                rw [List.getElem?_append_left (by omega)] at hm
                exact h3 j m e (by simpa using hm) he
              · rw [List.getElem?_append_right (by omega)] at he hm
                rw [hl] at hm
                cases hj2 : j - es.length with
                | zero =>
                  rw [hj2] at he hm
                  simp at he hm
                  subst he hm
                  exact ⟨hk, hv⟩
                | succ q => rw [hj2] at he; simp at he⟩
            refine ⟨w', ?_, e2, e3⟩
            unfold Instr.mapUpdate
            simp only [Sem.run_bind, run_und hu, Result.andThen_ok, hgo, run_checkKey hd hkd.1, run_findKey hd q1]
            exact e1
          · cases h
      · cases h
    · cases h
  · cases h

theorem deleteA_sound {I : Nat → Prop} {w : World} {β : BMap} {get : GetF} {t : TypeId} {m k : Value} {a b : AV} {kt' ty : TypeId} {y : Wr} (hs : Sim I β get w) (hm : RV I w β m a) (hk : RV I w β k b) (h : deleteA P get t a b = some y) :
    ∃ w', (Builtin.delete_ #[t, kt'] ty #[m, k]).run P w = .ok (.tuple #[]) w' ∧ Sim I β (wrG get y) w' ∧ Step I β get w I β (wrG get y) w' := by
  unfold deleteA at h
  split at h
  · rename_i kt et n hu
    split at h
    · rename_i d es hd hg
      split at h
      · rename_i hkd
        cases hm with
        | mp _ _ rr o hb =>
          obtain ⟨p, hp, mes, clock, h1, h2, hst, h3⟩ := hs.obj _ _ hg
          rw [hb] at hp
          cases hp
          simp only at h1
          have hlt : rr < w.heap.size := (Array.getElem?_eq_some_iff.1 h1).1
          have hent : EntR I w β mes.toList es := ⟨by simpa using h2, fun j m e hm he => h3 j m e (by simpa using hm) he⟩
          have hgo : (getObj rr).run P w = .ok (.map mes clock) w := by simp only [getObj, Sem.run, h1]
          have hput : ∀ (mes' : Array MapEntry) (clock' : Nat) (es' : List (AV × AV)), stampsOk mes' clock' → EntR I w β mes'.toList es' →
              ∃ w', (setObj rr (.map mes' clock')).run P w = .ok () w' ∧ Sim I β (wrG get (.h n 0, some (.mp es'))) w' ∧ Step I β get w I β (wrG get (.h n 0, some (.mp es'))) w' := by
            intro mes' clock' es' hst' he'
            let w' : World := { w with heap := w.heap.setIfInBounds rr (.map mes' clock') }
            have hso : (setObj rr (.map mes' clock')).run P w = .ok () w' := by simp only [setObj, Sem.run, h1]; rfl
            have hb' : w'.heap[rr]? = some (.map mes' clock') := by
              show (w.heap.setIfInBounds rr _)[rr]? = _
              simp [hlt]
            have hne : ∀ j, j ≠ rr → w'.heap[j]? = w.heap[j]? := fun j hj => by
              show (w.heap.setIfInBounds rr _)[j]? = _
              rw [Array.getElem?_setIfInBounds_ne (fun e => hj e.symm)]
            have hcs : ∀ j, csz w j ≤ csz w' j := fun j => by
              by_cases hj : j = rr
              · subst hj; simp [csz, h1]
              · simp [csz, hne j hj]
            have hI : ∀ b, I b → w'.heap[b]? = w.heap[b]? := fun b hb2 => hne b fun e => by
              subst e
              exact (hs.imm b hb2).2 ⟨_, _, _, hg, hb, rfl⟩
            refine ⟨w', hso, hs.put (w' := w') (β' := β) (r := .h n 0) (o' := .mp es') (p := (rr, o)) (fun _ _ => rfl) (.inr hb) hb ?_ rfl rfl rfl (by show _ ≤ (w.heap.setIfInBounds rr _).size; simp) hcs (fun j _ hj => hne j hj) (.inl ⟨_, _, _, hg, hb, rfl, rfl⟩) (fun k' g' e => by cases e; exact hs.gen n 0 _ hg)⟩
            exact ⟨mes', clock', hb', by have := he'.1; simpa using this, hst', fun j m e hm he => by
              obtain ⟨x1, x2⟩ := he'.2 j m e (by simpa using hm) he
              exact ⟨x1.mono (fun _ h => h) hI (fun _ _ h => h) hcs, x2.mono (fun _ h => h) hI (fun _ _ h => h) hcs⟩⟩
          split at h
          · rename_i _ _ i v0 hf
            obtain ⟨r', q1, q2, q3⟩ := findA_sound hk mes.toList es 0 _ hent hf
            obtain ⟨v', rfl, q4, q5, q6⟩ := q3 i v0 rfl
            cases h
            have hl := hent.1
            obtain ⟨w', e1, e2, e3⟩ := hput (mes.eraseIdxIfInBounds i) clock (es.eraseIdx i) (stamps_erase hst i) ⟨by
              have he : (mes.eraseIdxIfInBounds i).toList = mes.toList.eraseIdx i := by simp
              rw [he, List.length_eraseIdx, List.length_eraseIdx, hl], fun j m e hm he => by
              have he' : (mes.eraseIdxIfInBounds i).toList = mes.toList.eraseIdx i := by simp
              rw [he', List.getElem?_eraseIdx] at hm
              rw [List.getElem?_eraseIdx] at he
              split at hm
              · rename_i hj
                rw [if_pos hj] at he
                exact h3 j m e (by simpa using hm) he
              · rename_i hj
                rw [if_neg hj] at he
                exact h3 (j + 1) m e (by simpa using hm) he⟩
            refine ⟨w', ?_, e2, e3⟩
            simp only [Builtin.delete_, List.getElem?_toArray, List.getElem?_cons_zero, List.getElem?_cons_succ]
            simp only [Sem.run_bind, run_und hu, Result.andThen_ok, hgo, run_checkKey hd hkd, run_findKey hd q1, e1, Sem.run_pure]
          · rename_i _ _ hf
            obtain ⟨r', q1, q2, q3⟩ := findA_sound hk mes.toList es 0 _ hent hf
            obtain rfl : r' = none := q2.1 rfl
            cases h
            obtain ⟨w', e1, e2, e3⟩ := hput mes clock es hst hent
            refine ⟨w', ?_, e2, e3⟩
            simp only [Builtin.delete_, List.getElem?_toArray, List.getElem?_cons_zero, List.getElem?_cons_succ]
            simp only [Sem.run_bind, run_und hu, Result.andThen_ok, hgo, run_checkKey hd hkd, run_findKey hd q1, e1, Sem.run_pure]
          · cases h
      · cases h
    · cases h
  · cases h

theorem mm_sound {I : Nat → Prop} {w : World} {β : BMap} {x y : Value} {a b r : AV} {m : Bool} (hx : RV I w β x a) (hy : RV I w β y b) (h : mmA m a b = some r) :
    ∃ v, ((if m then Builtin.max2 x y else Builtin.min2 x y).run P w = .ok v w) ∧ RV I w β v r := by
  unfold mmA at h
  split at h
  · cases h; cases hx; cases hy
    cases m
    · exact ⟨_, rfl, .i _ _ _⟩
    · exact ⟨_, rfl, .i _ _ _⟩
  · cases h

theorem mapM_sizes {w : World} : ∀ (l : List Field), (l.all fun f => (szOf P f.type).isSome) = true →
    (l.mapM (m := Sem) (fun f => do pure (f.offset, ← Go.sizeOf f.type))).run P w = .ok (l.map fun f => (f.offset, (szOf P f.type).getD 0)) w
  | [], _ => by simp
  | f :: r, h => by
    simp only [List.all_cons, Bool.and_eq_true] at h
    obtain ⟨n, hn⟩ := Option.isSome_iff_exists.1 h.1
    have ih := mapM_sizes (w := w) r h.2
    simp only [List.mapM_cons, Sem.run_bind, run_szOf hn, Result.andThen_ok, Sem.run_pure, ih, List.map_cons, hn, Option.getD_some]

theorem fill_congr {p q : Nat → Option (Nat × Nat)} (h : ∀ i, p i = q i) : ∀ (l : List (Nat × Value)) (c : Array Value), Instr.fill p c l = Instr.fill q c l
  | [], _ => rfl
  | (i, v) :: r, c => by
    simp only [Instr.fill, h]
    cases q i with
    | none => rfl
    | some x =>
      obtain ⟨a, b⟩ := x
      simp only
      rw [fill_congr h r]

theorem buildA_sound {I : Nat → Prop} {w : World} {β : BMap} {t : TypeId} {ps : List (Nat × Value)} {qs : List (Nat × AV)} {r : AV} (hp : PR I w β ps qs) (h : buildA P t qs = some r) :
    ∃ v, (Instr.build t ps.toArray).run P w = .ok v w ∧ RV I w β v r := by
  unfold buildA at h
  split at h
  · rename_i fields z hu hz
    split at h
    · cases h
    · rename_i hok
      simp only [Bool.not_eq_true', Bool.not_eq_false, Bool.and_eq_true] at hok
      obtain ⟨hok1, hok2⟩ := hok
      obtain ⟨zv, i, hi, hz1, rfl⟩ := zeroOf_spec hz
      cases hf : fillA (fun i => (fields[i]?).bind fun f => (szOf P f.type).map fun n => (f.offset, n)) (ofC zv).cells qs with
      | none => simp [hf] at h
      | some cs' =>
        simp [hf] at h; subst h
        obtain ⟨c1, c2, c3⟩ := cells_ok (ofC_RV I w β zv) (by simpa using hok1)
        have hcr : CR I w β zv.cells (ofC zv).cells := ⟨by simpa using c1, fun j c hc => by
          have hj : j < zv.cells.toList.length := by rw [c1]; exact (List.getElem?_eq_some_iff.1 hc).1
          exact ⟨zv.cells.toList[j], by simp, c2 _ (List.getElem_mem _), c3 j _ c (List.getElem?_eq_getElem hj) hc⟩⟩
        obtain ⟨vs', f1, f2⟩ := fill_sound hp hcr hf
        have hm : (fields.mapM (m := Sem) (fun f => do pure (f.offset, ← Go.sizeOf f.type))).run P w = .ok (fields.map fun f => (f.offset, (szOf P f.type).getD 0)) w := by
          rw [Array.mapM_eq_mapM_toList]
          simp only [Sem.run_map, mapM_sizes fields.toList hok2, Result.andThen_ok]
          congr 1
          apply Array.ext'; simp
        refine ⟨.agg vs', ?_, .agg _ _ _ f2.1 (fun j v hv => ?_) fun j v c hv hc => ?_⟩
        · have hpl : ∀ i : Nat, (fields.map fun (f : Field) => (f.offset, (szOf P f.type).getD 0))[i]? = (fields[i]?).bind fun f => (szOf P f.type).map fun n => (f.offset, n) := by
            intro i
            rw [Array.getElem?_map]
            cases hfi : fields[i]? with
            | none => rfl
            | some f =>
              have : (szOf P f.type).isSome = true := (List.all_eq_true.1 hok2) f (by simpa using Array.mem_of_getElem? hfi)
              obtain ⟨n, hn⟩ := Option.isSome_iff_exists.1 this
              simp [hn]
          simp only [Instr.build, Sem.run_bind, run_zeroOf hi hz1, Result.andThen_ok, run_und hu, hm]
          rw [fill_congr hpl, f1]
          rfl
        · have hj : j < cs'.length := by rw [← f2.1]; exact (Array.getElem?_eq_some_iff.1 hv).1
          obtain ⟨u, u1, u2, _⟩ := f2.2 j _ (List.getElem?_eq_getElem hj)
          rw [hv] at u1; cases u1; exact u2
        · obtain ⟨u, u1, _, u3⟩ := f2.2 j c hc
          rw [hv] at u1; cases u1; exact u3
  · cases h

end
end Ab
end Go.Proofs.YtidoflgcblglbaaDoor

/-
  DERIVED. ONE ABSTRACT STEP, ONE OPERATION OF THE MODEL.
  Conditions: none of a program's.
-/
namespace Go.Proofs.YtidoflgcblglbaaDoor
namespace Ab
variable [WX]

section
variable {P : Program}

/-- A number that no object has. -/
def Fr (β : BMap) (n : Nat) : Prop := (∀ g, β (.h n g) = none) ∧ ∀ d, β (.l d n) = none

/-- What an operation comes to. -/
def Runs (P : Program) (e : Operand → Value) (o : Oper) (w w' : World) (v : Value) : Prop :=
  (execOp e o).run P w = .ok (.value v) w' ∨ ((execOp e o).run P w = .ok .skip w' ∧ v = undef)

def OpOk (P : Program) (e : Operand → Value) (o : Oper) (I : Nat → Prop) (β : BMap) (get : GetF) (w : World) (n : Nat) (r : AV) (wr : List Wr) : Prop :=
  ∃ v w' β', Runs P e o w w' v ∧ RV I w' β' v r ∧ Sim I β' (wr.foldl wrG get) w' ∧ Step I β get w I β' (wr.foldl wrG get) w' ∧ NewAt n get β β'

theorem OpOk.quiet {e : Operand → Value} {o : Oper} {I : Nat → Prop} {β : BMap} {get : GetF} {w : World} {n : Nat} {r : AV} {v : Value} (hs : Sim I β get w)
    (h : (execOp e o).run P w = .ok (.value v) w) (hv : RV I w β v r) : OpOk P e o I β get w n r [] :=
  ⟨v, w, β, .inl h, hv, hs, .refl _ _ _ _, fun _ _ h _ => h⟩

theorem ret_eq {x r : AV} {wr : List Wr} (h : ret x = some (r, wr)) : r = x ∧ wr = [] := by
  simp only [ret, Option.some.injEq, Prod.mk.injEq] at h
  exact ⟨h.1.symm, h.2.symm⟩

theorem bind_ret_eq {x : Option AV} {r : AV} {wr : List Wr} (h : x.bind ret = some (r, wr)) : x = some r ∧ wr = [] := by
  cases x with
  | none => cases h
  | some y => obtain ⟨rfl, rfl⟩ := ret_eq (x := y) h; exact ⟨rfl, rfl⟩

theorem run_value {s : Sem Value} {v : Value} {w w' : World} (h : s.run P w = .ok v w') : (do pure (.value (← s)) : Sem Next).run P w = .ok (.value v) w' := by
  simp only [Sem.run_bind, h, Result.andThen_ok, Sem.run_pure]

theorem PR_map {I : Nat → Prop} {w : World} {β : BMap} {e : Operand → Value} {ρ : Operand → AV} (hρ : ∀ y, RV I w β (e y) (ρ y)) : ∀ (l : List (Nat × Operand)),
    PR I w β (l.map fun p => (p.1, e p.2)) (l.map fun p => (p.1, ρ p.2))
  | [] => trivial
  | _ :: r => ⟨rfl, hρ _, PR_map hρ r⟩

theorem ptr_new {I : Nat → Prop} {w : World} {β : BMap} {n b : Nat} : RV I w (ext β (.h n 0) (b, 0)) (.pointer (some ⟨b, 0, none⟩)) (.ptr n 0 0) := by
  have := RV.ptr (I := I) (w := w) (ext β (.h n 0) (b, 0)) n 0 0 b 0 (ext_self _ _ _)
  simpa using this

theorem lp_new {I : Nat → Prop} {w : World} {β : BMap} {d n b : Nat} : RV I w (ext β (.l d n) (b, 0)) (.pointer (some ⟨b, 0, none⟩)) (.lp d n 0) := by
  have := RV.lp (I := I) (w := w) (ext β (.l d n) (b, 0)) d n 0 b 0 (ext_self _ _ _)
  simpa using this

theorem NewAt.ext {n : Nat} {get : GetF} {β : BMap} {r : Ref} {p : Blk} (h : r.num = n) : NewAt n get β (ext β r p) := fun q hq hb _ => by
  rw [ext_ne _ _ (by rintro rfl; exact hq h)]; exact hb

theorem makeSliceA_sound {I : Nat → Prop} {w : World} {β : BMap} {get : GetF} {t : TypeId} {x y : Value} {a b r : AV} {n : Nat} {wr : List Wr} (hs : Sim I β get w) (hn : ∀ g, β (.h n g) = none)
    (hx : RV I w β x a) (hy : RV I w β y b) (h : makeSliceA P t a b n = some (r, wr)) :
    ∃ v w' β', (Instr.makeSlice t x y).run P w = .ok v w' ∧ RV I w' β' v r ∧ Sim I β' (wr.foldl wrG get) w' ∧ Step I β get w I β' (wr.foldl wrG get) w' ∧ NewAt n get β β' := by
  unfold makeSliceA at h
  split at h
  · rename_i e k l k' c hel
    cases hx; cases hy
    have ht := run_elemOf hel
    split at h
    · rename_i sz by_ z hsz hby hz
      split at h
      · rename_i hh
        obtain ⟨h0, hzl, hl0, hlc, hmost, hok⟩ := hh
        simp only [Option.some.injEq, Prod.mk.injEq] at h
        obtain ⟨rfl, rfl⟩ := h
        obtain ⟨zv, i, hi, hz1, rfl⟩ := zeroOf_spec hz
        obtain ⟨c1, c2, c3⟩ := cells_ok (ofC_RV I w β zv) (by simpa using hok)
        have hzs : zv.cells.size = sz := by rw [← hzl]; simpa using c1
        obtain ⟨i', hi', hb1⟩ := byOf_info hby
        rw [hi] at hi'; cases hi'
        have hcm : c.toNat ≤ mostBytes := Nat.le_trans (Nat.le_mul_of_pos_right _ (by omega)) hmost
        have hbm : i.bytes * c.toNat ≤ mostBytes := by
          rw [hb1, Nat.mul_comm]; exact Nat.le_trans (Nat.mul_le_mul_left _ (by omega)) hmost
        unfold mostBytes at hcm hbm
        have hwl : IntKind.i64.wrap l = l := IntWalk.i64_in _ (by omega)
        have hwc : IntKind.i64.wrap c = c := IntWalk.i64_in _ (by omega)
        have hcc : (c.toNat : Int) = c := by omega
        have hbc : (i.bytes : Int) * c ≤ 2 ^ 36 := by rw [← hcc]; exact_mod_cast hbm
        have hbl : (i.bytes : Int) * l ≤ 2 ^ 36 := Int.le_trans (Int.mul_le_mul_of_nonneg_left hlc (by omega)) hbc
        let cs : Array Value := (Array.range (c.toNat * sz)).map (zv.cells[· % zv.cells.size]!)
        let w' : World := { w with heap := w.heap.push (.cells cs e) }
        have hcs : cs.size = c.toNat * sz := by simp [cs]
        have hrun : (Instr.makeSlice t (.int k l) (.int k' c)).run P w = .ok (.slice (some ⟨w.heap.size, 0, none⟩) l.toNat c.toNat) w' := by
          have hti : (Go.typeInfo e).run P w = .ok i w := by simp [Go.typeInfo, hi]
          have t1 : ¬ (c < 0 ∨ (i.bytes : Int) * c > 2 ^ 48) := by omega
          simp only [Instr.makeSlice, Sem.run_bind, run_und ht, Result.andThen_ok, asInt, asIntOf, Sem.run_pure, hti, hwl, hwc]
          have hc1 : ((decide (c < 0) || decide ((i.bytes : Int) * c > 2 ^ 48) || decide (l < 0) || decide (l > c)) = true) = False := by
            simp; omega
          simp only [hc1, if_false, Sem.run_bind, run_askRoom, Result.andThen_ok, run_szOf hsz]
          by_cases hn0 : c.toNat * sz = 0
          · have hce : cs = #[] := Array.eq_empty_of_size_eq_zero (by rw [hcs, hn0])
            simp only [hn0, if_true, Sem.run_pure, Result.andThen_ok, newRow, Sem.run_bind, run_newObj]
            have hw' : w' = { w with heap := w.heap.push (.cells #[] e) } := by simp only [w', hce]
            rw [hw']
            have he0 : ∀ f : Nat → Value, (Array.range 0).map f = #[] := fun f => by simp
            rw [he0]
          · simp only [hn0, if_false, Sem.run_bind, run_zeroOf hi hz1, Sem.run_pure, Result.andThen_ok, newRow, run_newObj]
            rfl
        have hl' : (List.replicate l.toNat (ofC zv).cells).length = l.toNat := by simp
        obtain ⟨q1, q2⟩ := newArr_sound (w' := w') (rows := List.replicate l.toNat (ofC zv).cells) hs hn rfl rfl rfl rfl h0 (fun r hr => by rw [List.eq_of_mem_replicate hr]; exact hzl)
          (by rw [hl', hcs]; exact Nat.mul_le_mul_right _ (by omega)) (.inl rfl) (fun i' j r z hr hzz => by
            have hi' : i' < l.toNat := by have := (List.getElem?_eq_some_iff.1 hr).1; simpa using this
            have hre : r = (ofC zv).cells := by
              have := List.mem_of_getElem? hr
              exact List.eq_of_mem_replicate this
            subst hre
            have hj : j < sz := by rw [← hzl]; exact (List.getElem?_eq_some_iff.1 hzz).1
            have hj2 : j < zv.cells.toList.length := by simp [hzs]; omega
            refine ⟨zv.cells.toList[j], ?_, c2 _ (List.getElem_mem _), c3 j _ z (List.getElem?_eq_getElem hj2) hzz⟩
            have hlt : i' * sz + j < c.toNat * sz := by
              have : (i' + 1) * sz ≤ c.toNat * sz := Nat.mul_le_mul_right _ (by omega)
              rw [Nat.add_mul, Nat.one_mul] at this; omega
            have hmod : (i' * sz + j) % sz = j := by rw [Nat.mul_comm, Nat.mul_add_mod]; exact Nat.mod_eq_of_lt hj
            show ((Array.range (c.toNat * sz)).map (zv.cells[· % zv.cells.size]!))[i' * sz + j]? = _
            simp [hlt, hzs, hmod]
            have hj3 : j < zv.cells.size := by omega
            simp [hj3])
        exact ⟨_, w', _, hrun, rs_new (w' := w') rfl (by omega) (by rw [hcs]; exact Nat.le_refl _), q1, q2, NewAt.ext rfl⟩
      · cases h
    · cases h
  · cases h


set_option maxHeartbeats 1000000 in
theorem stepA_sound {I : Nat → Prop} {w : World} {β : BMap} {get : GetF} {e : Operand → Value} {ρ : Operand → AV} {n : Nat} {loc : Nat → Bool} {o : Oper} {r : AV} {wr : List Wr} (hs : Sim I β get w) (hf : Fr β n)
    (hρ : ∀ y, RV I w β (e y) (ρ y)) (h : stepA P get ρ n loc o = some (r, wr)) : OpOk P e o I β get w n r wr := by
  unfold stepA at h
  cases hop : o.op <;> simp only [hop] at h <;> (try cases h)
  case move x =>
    split at h
    · obtain ⟨rfl, rfl⟩ := ret_eq h
      exact .quiet hs (by simp [execOp, hop]) (hρ x)
    · cases h
  case assign x =>
    split at h
    · obtain ⟨rfl, rfl⟩ := ret_eq h
      exact .quiet hs (by simp [execOp, hop]) (hρ x)
    · cases h
  case pick c a b =>
    have hc := hρ c
    split at h
    · rename_i heq; rw [heq] at hc
      split at h
      · obtain ⟨rfl, rfl⟩ := ret_eq h
        generalize hec : e c = ec at hc
        cases hc
        exact .quiet hs (by simp [execOp, hop, hec, asBool]) (hρ a)
      · cases h
    · rename_i heq; rw [heq] at hc
      split at h
      · obtain ⟨rfl, rfl⟩ := ret_eq h
        generalize hec : e c = ec at hc
        cases hc
        exact .quiet hs (by simp [execOp, hop, hec, asBool]) (hρ b)
      · cases h
    · cases h
  case alloc t =>
    split at h
    · rename_i z d hz hd
      split at h
      · rename_i hok
        obtain ⟨zv, i, hi, hz1, rfl⟩ := zeroOf_spec hz
        obtain ⟨c1, c2, c3⟩ := cells_ok (ofC_RV I w β zv) (by simpa using hok)
        split at h
        · cases h
          obtain ⟨w', h1, h2, h3⟩ := newVar_sound (P := P) (t := t) hs (.l d n) (hf.2 d) (fun k g e => by cases e) c1 c2 c3
          exact ⟨_, w', _, .inl (by simp only [execOp, hop]; exact run_value (by simp [Instr.alloc, run_zeroOf hi hz1, h1])), lp_new, h2, h3, NewAt.ext rfl⟩
        · cases h
          obtain ⟨w', h1, h2, h3⟩ := newVar_sound (P := P) (t := t) hs (.h n 0) (hf.1 0) (fun k g e g' _ => by cases e; exact hf.1 g') c1 c2 c3
          exact ⟨_, w', _, .inl (by simp only [execOp, hop]; exact run_value (by simp [Instr.alloc, run_zeroOf hi hz1, h1])), ptr_new, h2, h3, NewAt.ext rfl⟩
      · cases h
    · cases h
  case box t x =>
    split at h
    · rename_i d hd
      split at h
      · rename_i hok
        obtain ⟨c1, c2, c3⟩ := cells_ok (hρ x) (by simpa using hok)
        split at h
        · cases h
          obtain ⟨w', h1, h2, h3⟩ := newVar_sound (P := P) (t := t) hs (.l d n) (hf.2 d) (fun k g e => by cases e) c1 c2 c3
          exact ⟨_, w', _, .inl (by simp only [execOp, hop]; exact run_value (by simp [Instr.box, h1])), lp_new, h2, h3, NewAt.ext rfl⟩
        · cases h
          obtain ⟨w', h1, h2, h3⟩ := newVar_sound (P := P) (t := t) hs (.h n 0) (hf.1 0) (fun k g e g' _ => by cases e; exact hf.1 g') c1 c2 c3
          exact ⟨_, w', _, .inl (by simp only [execOp, hop]; exact run_value (by simp [Instr.box, h1])), ptr_new, h2, h3, NewAt.ext rfl⟩
      · cases h
    · cases h
  case build t parts =>
    obtain ⟨hb, rfl⟩ := bind_ret_eq h
    obtain ⟨v, h1, h2⟩ := buildA_sound (P := P) (PR_map hρ parts.toList) hb
    refine .quiet hs ?_ h2
    simp only [execOp, hop]
    refine run_value ?_
    have : (parts.map fun (i, x) => (i, e x)) = (parts.toList.map fun p => (p.1, e p.2)).toArray := by apply Array.ext'; simp
    rw [this]; exact h1
  case buildSlice t len parts =>
    split at h
    · rename_i el hel
      split at h
      · rename_i sz hsz
        split at h
        · rename_i hh
          obtain ⟨h0, hmost, hps, hzz⟩ := hh
          split at h
          · rename_i rows hrows
            cases h
            obtain ⟨hlen, hlens⟩ := rowsBuilt_lens hrows
            have hlen' : rows.length = len := by rw [hlen]; simp [hps]
            have ht := run_elemOf hel
            obtain ⟨zn, hzn⟩ := Option.isSome_iff_exists.1 hzz
            obtain ⟨i, zv, hi, hz1, _⟩ := zsz_spec hzn
            let c0 : Array Value := (Array.range (len * sz)).map (zv.cells[· % zv.cells.size]!)
            have hc0 : c0.size = len * sz := by simp [c0]
            obtain ⟨vs', f1, f2, _, f4⟩ := fillRows_sound (vs := c0) (PR_map hρ parts.toList) hrows (by rw [hlen', hc0, Nat.zero_add]; exact Nat.le_refl _)
            let w' : World := { w with heap := w.heap.push (.cells vs' el) }
            obtain ⟨q1, q2⟩ := newArr_sound (w' := w') (n := n) (rows := rows) hs hf.1 rfl rfl rfl rfl h0 hlens (by rw [f2, hc0, hlen']; exact Nat.le_refl _) (.inl rfl) (fun i k r x hr hx => by
              have := f4 i k r x hr hx
              rwa [Nat.zero_add] at this)
            refine ⟨.slice (some ⟨w.heap.size, 0, none⟩) len len, w', _, .inl ?_, rs_new (w' := w') rfl (Nat.le_refl _) (by rw [f2, hc0]; exact Nat.le_refl _), q1, q2, NewAt.ext rfl⟩
            simp only [execOp, hop]
            refine run_value ?_
            have hparts : (parts.map fun (i, x) => (i, e x)).toList = parts.toList.map fun p => (p.1, e p.2) := by simp
            have hle : ¬ len * sz > 2 ^ 24 := by omega
            simp only [Instr.buildSlice, Sem.run_bind, run_und ht, Result.andThen_ok, run_szOf hsz, if_neg hle, hparts]
            by_cases hz0 : len * sz = 0
            · have hce : c0 = #[] := Array.eq_empty_of_size_eq_zero (by rw [hc0, hz0])
              rw [hce] at f1
              have he0 : ∀ f : Nat → Value, (Array.range 0).map f = #[] := fun f => by simp
              simp only [hz0, if_true, Sem.run_pure, Result.andThen_ok, he0, f1, newRow, Sem.run_bind, run_newObj]
              rfl
            · simp only [if_neg hz0, Sem.run_bind, run_zeroOf hi hz1, Sem.run_pure, Result.andThen_ok]
              have f1' : Instr.fill (fun i => some (i * sz, sz)) ((Array.range (len * sz)).map (zv.cells[· % zv.cells.size]!)) (parts.toList.map fun p => (p.1, e p.2)) = some vs' := f1
              simp only [f1', newRow, Sem.run_bind, run_newObj, Result.andThen_ok, Sem.run_pure]
              rfl
          · cases h
        · cases h
      · cases h
    · cases h
  case load t a =>
    obtain ⟨hb, rfl⟩ := bind_ret_eq h
    obtain ⟨v, h1, h2⟩ := loadA_sound hs (hρ a) hb
    exact .quiet hs (by simp only [execOp, hop]; exact run_value h1) h2
  case store t a x =>
    cases hw : storeA P get t (ρ a) (ρ x) with
    | none => simp [hw] at h
    | some y =>
      simp [hw] at h
      obtain ⟨rfl, rfl⟩ := h
      obtain ⟨w', h1, h2, h3⟩ := storeA_sound hs (hρ a) (hρ x) hw
      refine ⟨undef, w', β, .inr ⟨?_, rfl⟩, .tup _ _ _ rfl (by simp), h2, h3, fun _ _ h _ => h⟩
      simp [execOp, hop, h1]
  case nilCheck x =>
    have hx := hρ x
    split at h
    all_goals first
      | (cases h; done)
      | skip
    all_goals
      rename_i heq
      rw [heq] at hx
      obtain ⟨rfl, rfl⟩ := ret_eq h
      generalize hec : e x = ec at hx
      refine .quiet hs ?_ hx
      cases hx <;> simp [execOp, hop, hec]
  case binOp op t x y t2 =>
    obtain ⟨hb, rfl⟩ := bind_ret_eq h
    obtain ⟨v, h1, h2⟩ := binA_sound (P := P) (xo := x) (yo := y) (hρ x) (hρ y) hb
    exact .quiet hs (by simp only [execOp, hop]; exact run_value h1) h2
  case unOp op t x =>
    obtain ⟨hb, rfl⟩ := bind_ret_eq h
    obtain ⟨v, h1, h2⟩ := unA_sound (P := P) (hρ x) hb
    exact .quiet hs (by simp only [execOp, hop]; exact run_value h1) h2
  case convert src dst x =>
    obtain ⟨v, w', β', h1, h2, h3, h4, h5⟩ := convA_sound hs hf.1 (hρ x) h
    exact ⟨v, w', β', .inl (by simp only [execOp, hop]; exact run_value h1), h2, h3, h4, h5⟩
  case makeFunc fn first cap =>
    cases fn <;> simp only at h <;> (try cases h)
    rename_i f
    split at h
    · rename_i hh
      obtain ⟨rfl, rfl⟩ := ret_eq h
      have hfirst : first = #[] := Array.eq_empty_of_size_eq_zero hh.1
      subst hfirst
      refine .quiet hs (v := .func (.func f) #[] (cap.map e)) (by simp only [execOp, hop]; exact run_value (by simp [Instr.makeFunc])) (.fn _ _ _ _ (by simp) fun j v c hv hc => ?_)
      simp only [Array.getElem?_map, List.getElem?_map, Array.getElem?_toList] at hv hc
      cases hcj : cap[j]? with
      | none => simp [hcj] at hv
      | some y => simp [hcj] at hv hc; subst hv; subst hc; exact hρ y
    · cases h
  case makeMap t res =>
    cases res with
    | some x => simp only at h; cases h
    | none =>
      simp only [Option.some.injEq, Prod.mk.injEq] at h
      obtain ⟨rfl, rfl⟩ := h
      let w' : World := { w with heap := w.heap.push (.map #[] 0) }
      obtain ⟨q1, q2⟩ := hs.new (w' := w') (r := .h n 0) (o' := .mp []) (off := 0) (x := .map #[] 0) rfl rfl rfl rfl (hf.1 0) (fun k g e g' _ => by cases e; exact hf.1 g') (fun _ =>
        ⟨#[], 0, (heap_push (w := w) (w' := w') (x := .map #[] 0) rfl).2.1, rfl, ⟨by simp, by simp⟩, by simp⟩)
      refine ⟨.map (some w.heap.size), w', _, .inl ?_, .mp _ n _ _ (ext_self _ _ _), q1, q2, NewAt.ext rfl⟩
      simp only [execOp, hop]
      exact run_value (by simp [Instr.makeMap, w'])
  case makeSlice t len cap =>
    obtain ⟨v, w', β', h1, h2, h3, h4, h5⟩ := makeSliceA_sound hs hf.1 (hρ len) (hρ cap) h
    exact ⟨v, w', β', .inl (by simp only [execOp, hop]; exact run_value h1), h2, h3, h4, h5⟩
  case slice t x lo hi mx =>
    have ho : ∀ z : Option Operand, OptRV I w β (z.map e) (z.map ρ) := fun z => by
      cases z with
      | none => exact ⟨by simp, by simp⟩
      | some y => exact ⟨fun v hv => ⟨ρ y, rfl, by simp at hv; subst hv; exact hρ y⟩, by simp⟩
    obtain ⟨v, w', β', h1, h2, h3, h4, h5⟩ := sliceA_sound (n := n) hs (hρ x) (ho lo) (ho hi) (ho mx) h
    refine ⟨v, w', β', .inl ?_, h2, h3, h4, h5⟩
    have hsl : (Instr.sliceAt t (e x) (lo.map e) (hi.map e) (mx.map e)).run P w = (Instr.slice t (e x) (lo.map e) (hi.map e) (mx.map e)).run P w := by
      unfold sliceA at h
      split at h
      · rename_i hu _; simp [Instr.sliceAt, run_und hu]
      · rename_i hu _; simp [Instr.sliceAt, run_und hu]
      · rename_i hu _; simp [Instr.sliceAt, run_und hu]
      · cases h
    simp only [execOp, hop]
    exact run_value (by rw [hsl]; exact h1)
  case fieldAddr t x f =>
    have hx := hρ x
    have hfo : ∀ {off : Nat}, fieldOff P t f = some off → ∃ fields fd sz, P.underlying t = some (.struct fields) ∧ fields[f]? = some fd ∧ fd.offset = off ∧ szOf P fd.type = some sz ∧ sz ≠ 0 := by
      intro off ho
      unfold fieldOff at ho
      split at ho
      · rename_i fields hu
        split at ho
        · rename_i fd hfd
          split at ho
          · cases ho
          · rename_i hz
            split at ho
            · cases ho
            · rename_i hz2
              cases hsz : szOf P fd.type with
              | none => simp [hsz] at hz2
              | some sz => cases ho; exact ⟨fields, fd, sz, hu, hfd, rfl, hsz, fun e => hz (by rw [hsz, e])⟩
        · cases ho
      · cases ho
    have hrun : ∀ {off b p : Nat}, fieldOff P t f = some off → (Instr.fieldAt t (.pointer (some ⟨b, p, none⟩)) f).run P w = .ok (.pointer (some ⟨b, p + off, none⟩)) w := by
      intro off b p ho
      obtain ⟨fields, fd, sz, hu, hfd, rfl, hsz, hnz⟩ := hfo ho
      simp [Instr.fieldAt, run_und hu, hfd, Instr.sureAddr, fieldPlace, run_szOf hsz, hnz, addr_add]
    split at h
    all_goals first
      | (cases h; done)
      | skip
    all_goals
      rename_i ho heq
      rw [heq] at hx
      obtain ⟨rfl, rfl⟩ := ret_eq h
      generalize hec : e x = ec at hx
    · cases hx with
      | lp _ _ _ _ b o' hb =>
        exact .quiet hs (by simp only [execOp, hop]; rw [hec]; exact run_value (hrun ho)) (by rw [Nat.add_assoc]; exact .lp _ _ _ _ _ _ hb)
    · cases hx with
      | ptr _ _ _ _ b o' hb =>
        exact .quiet hs (by simp only [execOp, hop]; rw [hec]; exact run_value (hrun ho)) (by rw [Nat.add_assoc]; exact .ptr _ _ _ _ _ _ hb)
    · cases hx with
      | pe _ _ _ _ _ _ b o' hb =>
        exact .quiet hs (by simp only [execOp, hop]; rw [hec]; exact run_value (hrun ho)) (by rw [Nat.add_assoc]; exact .pe _ _ _ _ _ _ _ _ hb)
    · rename_i off cs
      cases hx with
      | vp _ b o' _ ff hb hc hh =>
        exact .quiet hs (by simp only [execOp, hop]; rw [hec]; exact run_value (hrun ho))
          (.vp _ _ _ _ (fun j => ff (off + j)) hb (fun j c hj => by rw [List.getElem?_drop] at hj; rw [Nat.add_assoc]; exact hc _ c hj) fun j c hj => by rw [List.getElem?_drop] at hj; exact hh _ c hj)
  case field t x f =>
    have hx := hρ x
    split at h
    · rename_i fields cs hu heq
      rw [heq] at hx
      split at h
      · rename_i fd hfd
        obtain ⟨hb, rfl⟩ := bind_ret_eq h
        generalize hec : e x = ec at hx
        cases hx with
        | agg _ vs _ hl hv hh =>
          have hpart : ∃ v, (part fd.type vs fd.offset).run P w = .ok v w ∧ RV I w β v r := by
            unfold ldA at hb
            cases hud : P.underlying fd.type with
            | none => simp [hud] at hb
            | some d =>
              simp only [hud] at hb
              by_cases hd : aggD d = true
              · simp only [hd, if_true] at hb
                cases hz : szOf P fd.type with
                | none => simp [hz] at hb
                | some m =>
                  simp only [hz] at hb
                  split at hb
                  · rename_i hle
                    cases hb
                    refine ⟨.agg (vs.extract fd.offset (fd.offset + m)), by simp [part, run_aggD hud, hd, run_szOf hz], .agg _ _ _ (by simp [hl]; omega) (fun j v hj => ?_) fun j v c hj hc => ?_⟩
                    · have hjl := (Array.getElem?_eq_some_iff.1 hj).1
                      rw [Array.getElem?_extract] at hj
                      split at hj
                      · exact hv _ v hj
                      · cases hj
                    · rw [Array.getElem?_extract] at hj
                      split at hj
                      · rw [List.getElem?_take] at hc
                        split at hc
                        · rw [List.getElem?_drop] at hc
                          exact hh _ v c hj hc
                        · cases hc
                      · cases hj
                  · cases hb
              · have hd' : aggD d = false := by simpa using hd
                simp only [hd', Bool.false_eq_true, if_false] at hb
                have hlt : fd.offset < vs.size := by rw [hl]; exact (List.getElem?_eq_some_iff.1 hb).1
                exact ⟨vs[fd.offset], by simp [part, run_aggD hud, hd', hlt], hh _ _ r (Array.getElem?_eq_getElem hlt) hb⟩
          obtain ⟨v, v1, v2⟩ := hpart
          exact .quiet hs (by simp only [execOp, hop]; rw [hec]; exact run_value (by simp [Instr.field, run_und hu, hfd, asAgg, v1])) v2
      · cases h
    · cases h
  case indexAddr t x i =>
    obtain ⟨hb, rfl⟩ := bind_ret_eq h
    obtain ⟨v, h1, h2⟩ := indexAddrA_sound (P := P) (hρ x) (hρ i) hb
    exact .quiet hs (by simp only [execOp, hop]; exact run_value h1) h2
  case index t x i =>
    obtain ⟨hb, rfl⟩ := bind_ret_eq h
    obtain ⟨v, h1, h2⟩ := indexA_sound (P := P) (hρ x) (hρ i) hb
    exact .quiet hs (by simp only [execOp, hop]; exact run_value h1) h2
  case range t x =>
    have hx := hρ x
    split at h
    · rename_i s hu heq
      rw [heq] at hx
      simp only [Option.some.injEq, Prod.mk.injEq] at h
      obtain ⟨rfl, rfl⟩ := h
      generalize hec : e x = ec at hx
      cases hx
      let w' : World := { w with heap := w.heap.push (.stringIter s 0) }
      obtain ⟨q1, q2⟩ := hs.new (w' := w') (r := .h n 0) (o' := .sit s 0) (off := 0) (x := .stringIter s 0) rfl rfl rfl rfl (hf.1 0) (fun k g e g' _ => by cases e; exact hf.1 g') (fun _ =>
        ⟨rfl, (heap_push (w := w) (w' := w') (x := .stringIter s 0) rfl).2.1⟩)
      refine ⟨.pointer (some ⟨w.heap.size, 0, none⟩), w', _, .inl ?_, ptr_new, q1, q2, NewAt.ext rfl⟩
      simp only [execOp, hop, hec]
      exact run_value (by simp [Instr.range, run_und hu, w'])
    · cases h
  case next it isS =>
    cases isS <;> simp only [Bool.false_eq_true, if_false, if_true] at h <;> (try cases h)
    obtain ⟨v, w', β', h1, h2, h3, h4, h5⟩ := nextA_sound (P := P) (ty := o.type) (n := n) hs (hρ it) h
    exact ⟨v, w', β', .inl (by simp only [execOp, hop]; exact run_value h1), h2, h3, h4, h5⟩
  case extract t i =>
    have hx := hρ t
    split at h
    · rename_i xs heq
      rw [heq] at hx
      obtain ⟨hb, rfl⟩ := bind_ret_eq h
      generalize hec : e t = ec at hx
      cases hx with
      | tup _ vs _ hl hh =>
        have hi : i < vs.size := by rw [hl]; exact (List.getElem?_eq_some_iff.1 hb).1
        refine .quiet hs (v := vs[i]) ?_ (hh i _ r (Array.getElem?_eq_getElem hi) hb)
        simp only [execOp, hop, hec]
        exact run_value (by simp [Instr.extract, hi])
    · cases h
  case lookup t x k ok =>
    obtain ⟨hb, rfl⟩ := bind_ret_eq h
    obtain ⟨v, h1, h2⟩ := lookupA_sound (P := P) hs (hρ x) (hρ k) hb
    exact .quiet hs (by simp only [execOp, hop]; exact run_value h1) h2
  case mapUpdate t m k x =>
    cases hw : updateA P get t (ρ m) (ρ k) (ρ x) with
    | none => simp [hw] at h
    | some y =>
      simp [hw] at h
      obtain ⟨rfl, rfl⟩ := h
      obtain ⟨w', h1, h2, h3⟩ := updateA_sound hs (hρ m) (hρ k) (hρ x) hw
      refine ⟨undef, w', β, .inr ⟨?_, rfl⟩, .tup _ _ _ rfl (by simp), h2, h3, fun _ _ h _ => h⟩
      simp [execOp, hop, h1]
  case call c =>
    cases hcal : c.callee with
    | value f => simp only [hcal] at h; cases h
    | invoke a b => simp only [hcal] at h; cases h
    | builtin b =>
      simp only [hcal] at h
      have hexec : execOp e o = builtin b c.argTypes o.type (c.args.map fun | .const _ => true | _ => false) (c.args.map e) := by
        simp only [execOp, hop, resolve, hcal]
        rfl
      unfold builtinA at h
      have hargs : ∀ l : List AV, c.args.toList.map ρ = l → c.args = c.args.toList.toArray := fun _ _ => by simp
      split at h
      · rename_i t x ht hx
        obtain ⟨hb, rfl⟩ := bind_ret_eq h
        obtain ⟨y, hy⟩ : ∃ y, c.args.toList = [y] := by
          cases hca : c.args.toList with
          | nil => simp [hca] at hx
          | cons y r => cases r with
            | nil => exact ⟨y, rfl⟩
            | cons _ _ => simp [hca] at hx
        have hx' : ρ y = x := by simpa [hy] using hx
        have e1 : c.args.map e = #[e y] := by apply Array.ext'; simp [hy]
        have e2 : c.argTypes = #[t] := by apply Array.ext'; simp [ht]
        obtain ⟨v, h1, h2⟩ := lenA_sound (P := P) (ty := o.type) (x := e y) hs (by rw [← hx']; exact hρ y) hb
        refine .quiet hs ?_ h2
        rw [hexec, e1, e2]
        exact run_value h1
      · rename_i t tx s x ht hx
        obtain ⟨y, z, hy⟩ : ∃ y z, c.args.toList = [y, z] := by
          cases hca : c.args.toList with
          | nil => simp [hca] at hx
          | cons y r => cases r with
            | nil => simp [hca] at hx
            | cons z r => cases r with
              | nil => exact ⟨y, z, rfl⟩
              | cons _ _ => simp [hca] at hx
        have hx' : ρ y = s ∧ ρ z = x := by simpa [hy] using hx
        have e1 : c.args.map e = #[e y, e z] := by apply Array.ext'; simp [hy]
        have e2 : c.argTypes = #[t, tx] := by apply Array.ext'; simp [ht]
        obtain ⟨v, w', β', h1, h2, h3, h4, h5⟩ := appendA_sound (P := P) (ty := o.type) (x := e y) (y := e z) hs hf.1 (by rw [← hx'.1]; exact hρ y) (by rw [← hx'.2]; exact hρ z) h
        refine ⟨v, w', β', .inl ?_, h2, h3, h4, h5⟩
        rw [hexec, e1, e2]
        exact run_value h1
      · rename_i x y hx
        obtain ⟨hb, rfl⟩ := bind_ret_eq h
        obtain ⟨p, q, hy⟩ : ∃ y z, c.args.toList = [y, z] := by
          cases hca : c.args.toList with
          | nil => simp [hca] at hx
          | cons y r => cases r with
            | nil => simp [hca] at hx
            | cons z r => cases r with
              | nil => exact ⟨y, z, rfl⟩
              | cons _ _ => simp [hca] at hx
        have hx' : ρ p = x ∧ ρ q = y := by simpa [hy] using hx
        have e1 : c.args.map e = #[e p, e q] := by apply Array.ext'; simp [hy]
        obtain ⟨v, h1, h2⟩ := mm_sound (P := P) (m := true) (x := e p) (y := e q) (by rw [← hx'.1]; exact hρ p) (by rw [← hx'.2]; exact hρ q) hb
        refine .quiet hs ?_ h2
        rw [hexec, e1]
        exact run_value (by simpa [Builtin.max_] using h1)
      · rename_i x y hx
        obtain ⟨hb, rfl⟩ := bind_ret_eq h
        obtain ⟨p, q, hy⟩ : ∃ y z, c.args.toList = [y, z] := by
          cases hca : c.args.toList with
          | nil => simp [hca] at hx
          | cons y r => cases r with
            | nil => simp [hca] at hx
            | cons z r => cases r with
              | nil => exact ⟨y, z, rfl⟩
              | cons _ _ => simp [hca] at hx
        have hx' : ρ p = x ∧ ρ q = y := by simpa [hy] using hx
        have e1 : c.args.map e = #[e p, e q] := by apply Array.ext'; simp [hy]
        obtain ⟨v, h1, h2⟩ := mm_sound (P := P) (m := false) (x := e p) (y := e q) (by rw [← hx'.1]; exact hρ p) (by rw [← hx'.2]; exact hρ q) hb
        refine .quiet hs ?_ h2
        rw [hexec, e1]
        exact run_value (by simpa [Builtin.min_] using h1)
      · rename_i t tk m k ht hx
        cases hw : deleteA P get t m k with
        | none => simp [hw] at h
        | some y =>
          simp [hw] at h
          obtain ⟨rfl, rfl⟩ := h
          obtain ⟨p, q, hy⟩ : ∃ y z, c.args.toList = [y, z] := by
            cases hca : c.args.toList with
            | nil => simp [hca] at hx
            | cons y r => cases r with
              | nil => simp [hca] at hx
              | cons z r => cases r with
                | nil => exact ⟨y, z, rfl⟩
                | cons _ _ => simp [hca] at hx
          have hx' : ρ p = m ∧ ρ q = k := by simpa [hy] using hx
          have e1 : c.args.map e = #[e p, e q] := by apply Array.ext'; simp [hy]
          have e2 : c.argTypes = #[t, tk] := by apply Array.ext'; simp [ht]
          obtain ⟨w', h1, h2, h3⟩ := deleteA_sound (P := P) (kt' := tk) (ty := o.type) (m := e p) (k := e q) hs (by rw [← hx'.1]; exact hρ p) (by rw [← hx'.2]; exact hρ q) hw
          refine ⟨.tuple #[], w', β, .inl ?_, .tup _ _ _ rfl (by simp), h2, h3, fun _ _ h _ => h⟩
          rw [hexec, e1, e2]
          exact run_value h1
      · cases h

end
end Ab
end Go.Proofs.YtidoflgcblglbaaDoor

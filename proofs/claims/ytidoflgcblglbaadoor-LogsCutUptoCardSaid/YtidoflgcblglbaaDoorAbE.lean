/-
  DERIVED. A REGION: its operations in their order, and in any order that its edges allow.
  Conditions: none of a program's.
-/
import Derived.Test.YtidoflgcblglbaaDoorAbD
set_option linter.all false
set_option maxHeartbeats 4000000
namespace Go.Proofs.YtidoflgcblglbaaDoor
namespace Ab
variable [WX]

section
variable {C : Cfg}

/-- What stands behind a step: the number of each new object is of a kind. -/
def Then (N : Nat) (I : Nat → Prop) (β : BMap) (st : St) (w : World) (num : Nat → Prop) (st' : St) (K : Act → World → Prop) : Prop :=
  ∀ a' w' I' β', SR N I' β' st' a' w' → Step I β st.get w I' β' st'.get w' → Keeps num β β' → K a' w'

structure Ok (C : Cfg) (N : Nat) (call : CallT) : Prop where
  calls : CallOk C.P call
  intr : IntrOk C
  name : ∀ (f : FuncId) (fn : Func), C.P.funcs[f]? = some fn → (fn.name == "runtime.NumGoroutine") = false

theorem opsA_mono {call : CallT} {N : Nat} (ok : Ok C N call) {f : FuncId} {ops : Array Oper} {base : Nat} : ∀ (rest : List Oper) (i : Nat) (st : St) (nx : Nat) (acc : List Eff) {r : St × Nat × List Eff}, (∀ o ∈ rest, ∀ d, o.dst = some d → d < N) →
    opsA C call f ops base rest i st nx acc = some r → nx ≤ r.2.1
  | [], _, _, _, _, _, _, h => by unfold opsA at h; cases h; exact Nat.le_refl _
  | o :: rest, i, st, nx, acc, r, hd, h => by
    unfold opsA at h
    split at h
    · rename_i e nx' ho
      exact Nat.le_trans (opA_sound ok.calls ok.intr ok.name ho (hd o List.mem_cons_self)).1 (opsA_mono ok rest _ _ _ _ (fun o ho => hd o (List.mem_cons_of_mem _ ho)) h)
    · cases h

theorem ordered_sound {call : CallT} {N : Nat} (ok : Ok C N call) {f : FuncId} {ops : Array Oper} {base : Nat} {Q : Exit → Act → World → Prop} : ∀ (rest : List Oper) (i : Nat) (st : St) (nx : Nat) (acc : List Eff) {st' : St} {nx' : Nat} {es : List Eff},
    (∀ o ∈ rest, ∀ d, o.dst = some d → d < N) → opsA C call f ops base rest i st nx acc = some (st', nx', es) → base + i + rest.length ≤ nx → ∀ I β a w, SR N I β st a w →
    (∀ n, base + i ≤ n → n < base + i + rest.length → Fr β n) → FrIn β nx nx' → Then N I β st w (fun n => (base + i ≤ n ∧ n < base + i + rest.length) ∨ (nx ≤ n ∧ n < nx')) st' (Q .normal) → wpList C.P ops Q rest a w
  | [], i, st, nx, acc, st', nx', es, _, h, _, I, β, a, w, hs, _, _, hK => by
    unfold opsA at h; cases h
    exact hK a w I β hs (.refl _ _ _ _) (.refl _ _)
  | o :: rest, i, st, nx, acc, st', nx', es, hd, h, hb, I, β, a, w, hs, hf1, hf2, hK => by
    unfold opsA at h
    split at h
    · rename_i e nx1 ho
      obtain ⟨h1, h2, h3⟩ := opA_sound (N := N) ok.calls ok.intr ok.name ho (hd o List.mem_cons_self)
      have hd' : ∀ o ∈ rest, ∀ d, o.dst = some d → d < N := fun o ho => hd o (List.mem_cons_of_mem _ ho)
      have h4 : nx1 ≤ nx' := opsA_mono ok rest _ _ _ _ hd' h
      simp only [List.length_cons] at *
      refine wpList_step fun K hKK => ?_
      refine h3 I β a w Q K hs (fun n hn => ?_) fun a1 w1 I1 β1 hs1 hst1 hk1 => hKK _ _ ?_
      · rcases hn with rfl | ⟨hn1, hn2⟩
        · exact hf1 _ (Nat.le_refl _) (by omega)
        · exact hf2 n hn1 (by omega)
      · refine ordered_sound ok rest (i + 1) (st.app e) nx1 (e :: acc) hd' h (by omega) I1 β1 a1 w1 hs1 (fun n hn1 hn2 => hk1 n (hf1 n (by omega) (by omega)) ?_) (fun n hn1 hn2 => hk1 n (hf2 n (by omega) hn2) ?_) ?_
        · rintro (h | ⟨h, h'⟩) <;> omega
        · rintro (h | ⟨h, h'⟩) <;> omega
        · intro a2 w2 I2 β2 hs2 hst2 hk2
          refine hK a2 w2 I2 β2 hs2 (hst1.trans hst2) (hk1.trans hk2 (fun n hn => ?_) fun n hn => ?_)
          · rcases hn with rfl | ⟨hn1, hn2⟩
            · exact .inl ⟨by omega, by omega⟩
            · exact .inr ⟨by omega, by omega⟩
          · rcases hn with ⟨hn1, hn2⟩ | ⟨hn1, hn2⟩
            · exact .inl ⟨by omega, by omega⟩
            · exact .inr ⟨by omega, by omega⟩
    · cases h

/-- The parts of a run of operations. -/
theorem opsA_parts {call : CallT} {f : FuncId} {ops : Array Oper} {base : Nat} : ∀ (rest : List Oper) (i : Nat) (st : St) (nx : Nat) (acc : List Eff) {st' : St} {nx' : Nat} {es : List Eff},
    opsA C call f ops base rest i st nx acc = some (st', nx', es) → ∃ (es1 : List Eff) (M : Nat → Nat), es = acc.reverse ++ es1 ∧ es1.length = rest.length ∧ M 0 = nx ∧ M rest.length = nx' ∧ st' = es1.foldl St.app st ∧
      ∀ (j : Nat) (o : Oper), rest[j]? = some o → ∃ e, es1[j]? = some e ∧ opA C call f ops base ((es1.take j).foldl St.app st) (M j) (i + j) o = some (e, M (j + 1))
  | [], i, st, nx, acc, st', nx', es, h => by
    unfold opsA at h; cases h
    exact ⟨[], fun _ => nx, by simp, rfl, rfl, rfl, rfl, fun j o h => by simp at h⟩
  | o :: rest, i, st, nx, acc, st', nx', es, h => by
    unfold opsA at h
    split at h
    · rename_i e nx1 ho
      obtain ⟨es1, M, h1, h2, h3, h4, h5, h6⟩ := opsA_parts rest (i + 1) (st.app e) nx1 (e :: acc) h
      refine ⟨e :: es1, fun j => match j with | 0 => nx | j + 1 => M j, by rw [h1]; simp, by simp [h2], rfl, h4, by rw [h5]; rfl, fun j o' hj => ?_⟩
      cases j with
      | zero =>
        simp only [List.getElem?_cons_zero, Option.some.injEq] at hj
        subst hj
        exact ⟨e, rfl, by simp only [Nat.add_zero, List.take_zero, List.foldl_nil]; rw [h3]; exact ho⟩
      | succ j =>
        obtain ⟨e', he', hop⟩ := h6 j o' hj
        refine ⟨e', he', ?_⟩
        simp only [List.take_succ_cons, List.foldl_cons]
        rw [show i + (j + 1) = i + 1 + j by omega]
        exact hop
    · cases h

theorem SR.same {N : Nat} {I : Nat → Prop} {β : BMap} {st st' : St} {a : Act} {w : World} (h : SR N I β st a w) (he : ∀ t, lk st'.env t = lk st.env t) (hg : ∀ r, st'.get r = st.get r) : SR N I β st' a w :=
  ⟨fun t x hx => h.env t x ((he t).symm.trans hx), (funext hg : st'.get = st.get) ▸ h.sim, h.size, h.defers⟩

/- ---------------------------------------------------------------- edges -/

theorem pairsOk_spec {f : Nat → Nat → Bool} {n : Nat} (h : pairsOk f n = true) {i j : Nat} (hij : i < j) (hj : j < n) : f i j = true := by
  unfold pairsOk at h
  simp only [List.all_eq_true, List.mem_range] at h
  exact h j hj i hij

def befStep (acc : List (List Nat)) (o : Oper) : List (List Nat) := acc ++ [o.after.toList.flatMap fun e => if Region.binds .any e then e.on :: acc.getD e.on [] else []]

theorem bef_len (l : List Oper) (acc : List (List Nat)) : (l.foldl befStep acc).length = acc.length + l.length := by
  induction l generalizing acc with
  | nil => rfl
  | cons o l ih => simp only [List.foldl_cons, ih, befStep, List.length_append, List.length_cons, List.length_nil]; omega

theorem bef_keep (l : List Oper) (acc : List (List Nat)) {j : Nat} (hj : j < acc.length) : (l.foldl befStep acc).getD j [] = acc.getD j [] := by
  induction l generalizing acc with
  | nil => rfl
  | cons o l ih =>
    simp only [List.foldl_cons]
    rw [ih _ (by simp [befStep]; omega)]
    simp only [befStep, List.getD_eq_getElem?_getD, List.getElem?_append_left hj]

theorem bef_spec (l : List Oper) (acc : List (List Nat)) {j : Nat} {o : Oper} (hj : l[j]? = some o) (hback : ∀ e ∈ o.after, Region.binds .any e = true → e.on < acc.length + j) {k : Nat} :
    k ∈ (l.foldl befStep acc).getD (acc.length + j) [] → ∃ e ∈ o.after, Region.binds .any e = true ∧ (k = e.on ∨ k ∈ (l.foldl befStep acc).getD e.on []) := by
  induction l generalizing acc j with
  | nil => simp at hj
  | cons o' l ih =>
    intro hk
    cases j with
    | zero =>
      simp only [List.getElem?_cons_zero, Option.some.injEq] at hj
      subst hj
      simp only [List.foldl_cons, Nat.add_zero] at hk hback ⊢
      rw [bef_keep l _ (by simp [befStep])] at hk
      simp only [befStep, List.getD_eq_getElem?_getD, List.getElem?_append_right (Nat.le_refl _), Nat.sub_self, List.getElem?_cons_zero, Option.getD_some, List.mem_flatMap] at hk
      obtain ⟨e, he, hk⟩ := hk
      have he' : e ∈ o'.after := by simpa using he
      cases hb : Region.binds .any e with
      | false => rw [hb] at hk; simp at hk
      | true =>
        rw [hb] at hk
        simp only [if_true, List.mem_cons] at hk
        refine ⟨e, he', hb, hk.imp id fun h => ?_⟩
        have hlt := hback e he' hb
        rw [bef_keep l _ (by simp [befStep]; omega)]
        simp only [befStep, List.getD_eq_getElem?_getD, List.getElem?_append_left hlt]
        exact h
    | succ j =>
      simp only [List.getElem?_cons_succ] at hj
      have hlen : (befStep acc o').length = acc.length + 1 := by simp [befStep]
      have := ih (befStep acc o') hj (fun e he hb => by have := hback e he hb; omega) (by rw [hlen]; rw [show acc.length + 1 + j = acc.length + (j + 1) by omega]; exact hk)
      exact this

/-- What is listed is closed below. -/
def Closed (ops : Array Oper) (S : Nat → Bool) : Prop := ∀ i o, ops[i]? = some o → S i = true → ∀ e ∈ o.after, Region.binds .any e = true → S e.on = true

theorem closed_bef {ops : Array Oper} (hback : ∀ i o, ops[i]? = some o → ∀ e ∈ o.after, Region.binds .any e = true → e.on < i) {S : Nat → Bool} (hc : Closed ops S) :
    ∀ (n i : Nat), i < n → S i = true → ∀ k ∈ (befOf ops.toList).getD i [], S k = true := by
  intro n
  induction n with
  | zero => intro i hi; omega
  | succ n ih =>
    intro i hi hS k hk
    have hlen : (befOf ops.toList).length = ops.size := by
      have hb : befOf ops.toList = ops.toList.foldl befStep [] := rfl
      rw [hb, bef_len]; simp
    by_cases hio : i < ops.size
    · obtain ⟨o, ho⟩ : ∃ o, ops[i]? = some o := ⟨_, Array.getElem?_eq_getElem hio⟩
      have hb := bef_spec ops.toList [] (j := i) (o := o) (by simpa using ho) (fun e he hb => by simpa using hback i o ho e he hb) (k := k)
      simp only [List.length_nil, Nat.zero_add] at hb
      obtain ⟨e, he, heb, hk'⟩ := hb hk
      have hSe := hc i o ho hS e he heb
      rcases hk' with rfl | hk'
      · exact hSe
      · exact ih e.on (by have := hback i o ho e he heb; omega) hSe k hk'
    · rw [List.getD_eq_getElem?_getD, List.getElem?_eq_none (by omega)] at hk
      cases hk

end
end Ab
end Go.Proofs.YtidoflgcblglbaaDoor

/-
  DERIVED. A REGION in any order.
  Conditions: none of a program's.
-/
namespace Go.Proofs.YtidoflgcblglbaaDoor
namespace Ab
variable [WX]

/-- How many are not listed. -/
def cnt (S : Nat → Bool) : Nat → Nat
  | 0 => 0
  | n + 1 => cnt S n + (if S n then 0 else 1)

theorem cnt_le {S T : Nat → Bool} (h : ∀ k, S k = true → T k = true) : ∀ n, cnt T n ≤ cnt S n
  | 0 => Nat.le_refl _
  | n + 1 => by
    have := cnt_le h n
    unfold cnt
    cases hs : S n with
    | true => rw [h n hs]; simp; omega
    | false => cases T n <;> simp <;> omega

theorem cnt_lt {S T : Nat → Bool} (h : ∀ k, S k = true → T k = true) {i : Nat} (hS : S i = false) (hT : T i = true) : ∀ n, i < n → cnt T n + 1 ≤ cnt S n
  | 0, hi => by omega
  | n + 1, hi => by
    unfold cnt
    by_cases hin : i = n
    · subst hin
      have := cnt_le h i
      simp only [hS, hT, if_true, Bool.false_eq_true, if_false]; omega
    · have := cnt_lt h hS hT n (by omega)
      cases hs : S n with
      | true => rw [h n hs]; simp; omega
      | false => cases T n <;> simp <;> omega

theorem cnt_zero {S : Nat → Bool} : ∀ n, cnt S n = 0 → ∀ i, i < n → S i = true
  | 0, _, i, hi => by omega
  | n + 1, h, i, hi => by
    unfold cnt at h
    cases hs : S n with
    | false => simp [hs] at h
    | true =>
      simp [hs] at h
      by_cases hin : i = n
      · rw [hin]; exact hs
      · exact cnt_zero n h i (by omega)

theorem cnt_none : ∀ n, cnt (fun _ => false) n ≤ n
  | 0 => Nat.le_refl _
  | n + 1 => by have := cnt_none n; unfold cnt; simp; omega

section
variable {C : Cfg}

theorem statOk_back {ops : Array Oper} (h : statOk ops (befOf ops.toList) = true) {i : Nat} {o : Oper} (ho : ops[i]? = some o) : ∀ e ∈ o.after, Region.binds .any e = true → e.on < i := by
  unfold statOk at h
  rw [Bool.and_eq_true] at h
  have hi : i < ops.size := (Array.getElem?_eq_some_iff.1 ho).1
  have h1 := List.all_eq_true.1 h.1 i (List.mem_range.2 hi)
  have : ops.getD i default = o := by simp [Array.getD_eq_getD_getElem?, ho]
  rw [this] at h1
  intro e he hb
  have h2 := Array.all_eq_true_iff_forall_mem.1 h1 e he
  rw [hb] at h2
  simpa using h2

theorem statOk_pair {ops : Array Oper} (h : statOk ops (befOf ops.toList) = true) {i j : Nat} {oi oj : Oper} (hij : i < j) (hi : ops[i]? = some oi) (hj : ops[j]? = some oj) :
    (∀ d, oi.dst = some d → oj.dst ≠ some d) ∧ (i ∈ (befOf ops.toList).getD j [] ∨ ((∀ d, oi.dst = some d → d ∉ tmpsOf ops oj) ∧ ∀ d, oj.dst = some d → d ∉ tmpsOf ops oi)) := by
  unfold statOk at h
  rw [Bool.and_eq_true] at h
  have hjn : j < ops.size := (Array.getElem?_eq_some_iff.1 hj).1
  have h1 := pairsOk_spec h.2 hij hjn
  have ei : ops.getD i default = oi := by simp [Array.getD_eq_getD_getElem?, hi]
  have ej : ops.getD j default = oj := by simp [Array.getD_eq_getD_getElem?, hj]
  rw [ei, ej, Bool.and_eq_true, Bool.or_eq_true] at h1
  obtain ⟨h1, h2⟩ := h1
  refine ⟨fun d hd he => ?_, ?_⟩
  · rw [hd, he] at h1; simp at h1
  · rcases h2 with h2 | h2
    · left; simpa using h2
    · right
      unfold apartA at h2
      rw [Bool.and_eq_true] at h2
      refine ⟨fun d hd => ?_, fun d hd => ?_⟩
      · have := h2.1; rw [hd] at this; simpa using this
      · have := h2.2; rw [hd] at this; simpa using this

theorem dynOk_pair {bef : List (List Nat)} {es : List Eff} (h : dynOk bef es = true) {i j : Nat} {e f : Eff} (hij : i < j) (hi : es[i]? = some e) (hj : es[j]? = some f) :
    i ∈ bef.getD j [] ∨ e.apart f = true := by
  unfold dynOk at h
  have hjn : j < es.length := (List.getElem?_eq_some_iff.1 hj).1
  have h1 := pairsOk_spec h hij hjn
  rw [hi, hj, Bool.or_eq_true] at h1
  exact h1.imp (fun h => by simpa using h) id

/-- What one operation wants to know of the others: those that may be ahead of it or behind it. -/
theorem loose {ops : Array Oper} {es : List Eff} (hso : statOk ops (befOf ops.toList) = true) (hdo : dynOk (befOf ops.toList) es = true) {S : Nat → Bool} (hc : Closed ops S)
    {i : Nat} {o : Oper} {e : Eff} (ho : ops[i]? = some o) (he : es[i]? = some e) (hS : S i = false) (hr : ∀ x ∈ o.after, Region.binds .any x = true → S x.on = true)
    {k : Nat} {ok : Oper} {ek : Eff} (hok : ops[k]? = some ok) (hek : es[k]? = some ek) (hne : S k ≠ decide (k < i)) :
    (∀ d, ok.dst = some d → d ∉ tmpsOf ops o) ∧ ek.clear e = true := by
  have hback : ∀ i o, ops[i]? = some o → ∀ e ∈ o.after, Region.binds .any e = true → e.on < i := fun i o h => statOk_back hso h
  rcases Nat.lt_trichotomy k i with hk | hk | hk
  · have hSk : S k = false := by
      cases h : S k with
      | false => rfl
      | true => rw [h] at hne; simp [hk] at hne
    have hnot : k ∉ (befOf ops.toList).getD i [] := fun hb => by
      have hT : Closed ops (fun j => S j || j == i) := fun j oj hj hjS x hx hxb => by
        simp only [Bool.or_eq_true, beq_iff_eq] at hjS
        rcases hjS with hjS | rfl
        · simp [hc j oj hj hjS x hx hxb]
        · rw [ho] at hj; cases hj
          simp [hr x hx hxb]
      have := closed_bef hback hT (i + 1) i (by omega) (by simp) k hb
      simp only [Bool.or_eq_true, beq_iff_eq, hSk] at this
      rcases this with h | h
      · cases h
      · omega
    refine ⟨((statOk_pair hso hk hok ho).2.resolve_left hnot).1, ?_⟩
    have := (dynOk_pair hdo hk hek he).resolve_left hnot
    unfold Eff.apart at this
    exact (Bool.and_eq_true _ _ ▸ this).1
  · subst hk
    simp [hS] at hne
  · have hSk : S k = true := by
      cases h : S k with
      | true => rfl
      | false => rw [h] at hne; simp at hne; omega
    have hnot : i ∉ (befOf ops.toList).getD k [] := fun hb => by
      have := closed_bef hback hc (k + 1) k (by omega) hSk i hb
      rw [hS] at this; cases this
    refine ⟨((statOk_pair hso hk ho hok).2.resolve_left hnot).2, ?_⟩
    have := (dynOk_pair hdo hk he hek).resolve_left hnot
    unfold Eff.apart at this
    exact (Bool.and_eq_true _ _ ▸ this).2

end
end Ab
end Go.Proofs.YtidoflgcblglbaaDoor

/-
  DERIVED. A REGION in any order: the law.
  Conditions: none of a program's.
-/
namespace Go.Proofs.YtidoflgcblglbaaDoor
namespace Ab
variable [WX]

section
variable {C : Cfg}

/-- What a region's run of operations has told. -/
structure Told (C : Cfg) (N : Nat) (call : CallT) (f : FuncId) (ops : Array Oper) (base : Nat) (st : St) (es : List Eff) (M : Nat → Nat) : Prop where
  len : es.length = ops.size
  op : ∀ (j : Nat) (o : Oper), ops[j]? = some o → ∃ e, es[j]? = some e ∧ opA C call f ops base (foldS (fun k => decide (k < j)) es 0 st) (M j) j o = some (e, M (j + 1))
  stat : statOk ops (befOf ops.toList) = true
  dyn : dynOk (befOf ops.toList) es = true
  dst : ∀ (j : Nat) (o : Oper), ops[j]? = some o → ∀ d, o.dst = some d → d < N
  mono : ∀ j, j < ops.size → M j ≤ M (j + 1)
  first : base + ops.size ≤ M 0

theorem Told.le {N : Nat} {call : CallT} {f : FuncId} {ops : Array Oper} {base : Nat} {st : St} {es : List Eff} {M : Nat → Nat} (h : Told C N call f ops base st es M) : ∀ (j i : Nat), i ≤ j → j ≤ ops.size → M i ≤ M j
  | 0, i, hi, _ => by have : i = 0 := by omega
                      rw [this]; exact Nat.le_refl _
  | j + 1, i, hi, hj => by
    by_cases hij : i = j + 1
    · rw [hij]; exact Nat.le_refl _
    · exact Nat.le_trans (h.le j i (by omega) (by omega)) (h.mono j (by omega))

/-- The numbers of an operation. -/
def numOf (base : Nat) (M : Nat → Nat) (j n : Nat) : Prop := n = base + j ∨ (M j ≤ n ∧ n < M (j + 1))

theorem Told.disj {N : Nat} {call : CallT} {f : FuncId} {ops : Array Oper} {base : Nat} {st : St} {es : List Eff} {M : Nat → Nat} (h : Told C N call f ops base st es M) {i j n : Nat} (hi : i < ops.size) (hj : j < ops.size)
    (hn : numOf base M i n) (hm : numOf base M j n) : i = j := by
  have h0 := h.first
  have m1 := h.le i 0 (by omega) (by omega)
  have m2 := h.le j 0 (by omega) (by omega)
  rcases Nat.lt_trichotomy i j with hij | hij | hij
  · have m3 := h.le j (i + 1) (by omega) (by omega)
    rcases hn with hn | hn <;> rcases hm with hm | hm <;> omega
  · exact hij
  · have m3 := h.le i (j + 1) (by omega) (by omega)
    rcases hn with hn | hn <;> rcases hm with hm | hm <;> omega

theorem Told.effDst {N : Nat} {call : CallT} (okc : Ok C N call) {f : FuncId} {ops : Array Oper} {base : Nat} {st : St} {es : List Eff} {M : Nat → Nat} (h : Told C N call f ops base st es M) {j : Nat} {o : Oper} {e : Eff} (ho : ops[j]? = some o) (he : es[j]? = some e) : e.dst = o.dst := by
  obtain ⟨e', he', hop⟩ := h.op j o ho
  rw [he] at he'; cases he'
  exact (opA_sound (N := N) okc.calls okc.intr okc.name hop (h.dst j o ho)).2.1

theorem Told.here {N : Nat} {call : CallT} (okc : Ok C N call) {f : FuncId} {ops : Array Oper} {base : Nat} {st : St} {es : List Eff} {M : Nat → Nat} (h : Told C N call f ops base st es M) {S : Nat → Bool} (hc : Closed ops S)
    {i : Nat} {o : Oper} {e : Eff} (ho : ops[i]? = some o) (he : es[i]? = some e) (hS : S i = false) (hr : ∀ x ∈ o.after, Region.binds .any x = true → S x.on = true) :
    opA C call f ops base (foldS S es 0 st) (M i) i o = some (e, M (i + 1)) := by
  obtain ⟨e', he', hop⟩ := h.op i o ho
  rw [he] at he'; cases he'
  have hl : ∀ {k : Nat} {ek : Eff}, es[k]? = some ek → S k ≠ decide (k < i) → (∀ d, ek.dst = some d → d ∉ tmpsOf ops o) ∧ ek.clear e = true := fun {k ek} hek hne => by
    have hk : k < ops.size := by rw [← h.len]; exact (List.getElem?_eq_some_iff.1 hek).1
    have hok : ops[k]? = some ops[k] := Array.getElem?_eq_getElem hk
    have := loose h.stat h.dyn hc ho he hS hr hok hek hne
    rwa [h.effDst okc hok hek]
  refine opA_looks hop (fun t ht => ?_) ?_
  · rw [fo_obs (φ := oE t) (obs := fun st => lk st.env t) (oE_app t), fo_obs (φ := oE t) (obs := fun st => lk st.env t) (oE_app t)]
    refine fo_congr es 0 _ fun k ek hek => ?_
    simp only [Nat.zero_add]
    by_cases hne : S k = decide (k < i)
    · exact .inl hne
    · exact .inr fun x => oE_id (fun hd => (hl hek hne).1 t hd ht) x
  · unfold Looks
    cases hrd : e.rd with
    | some l =>
      intro r hr'
      rw [fo_obs (φ := oG r) (obs := fun st => st.get r) (oG_app r), fo_obs (φ := oG r) (obs := fun st => st.get r) (oG_app r)]
      refine fo_congr es 0 _ fun k ek hek => ?_
      simp only [Nat.zero_add]
      by_cases hne : S k = decide (k < i)
      · exact .inl hne
      · exact .inr fun x => oG_looks (hl hek hne).2 hrd hr' x
    | none =>
      rw [fo_obs (φ := oH) (obs := fun st => st.hp) oH_app, fo_obs (φ := oH) (obs := fun st => st.hp) oH_app]
      refine fo_congr es 0 _ fun k ek hek => ?_
      simp only [Nat.zero_add]
      by_cases hne : S k = decide (k < i)
      · exact .inl hne
      · exact .inr fun x => oH_looks (hl hek hne).2 hrd x

/-- One more, behind those that have run. -/
theorem Told.more {N : Nat} {call : CallT} (okc : Ok C N call) {f : FuncId} {ops : Array Oper} {base : Nat} {st : St} {es : List Eff} {M : Nat → Nat} (h : Told C N call f ops base st es M) {S : Nat → Bool} (hc : Closed ops S)
    {i : Nat} {o : Oper} {e : Eff} (ho : ops[i]? = some o) (he : es[i]? = some e) (hS : S i = false) :
    (∀ t, lk (foldS (fun k => S k || k == i) es 0 st).env t = lk ((foldS S es 0 st).app e).env t) ∧ ∀ r, (foldS (fun k => S k || k == i) es 0 st).get r = ((foldS S es 0 st).app e).get r := by
  have hback : ∀ i o, ops[i]? = some o → ∀ e ∈ o.after, Region.binds .any e = true → e.on < i := fun i o ho => statOk_back h.stat ho
  have hl : ∀ {k : Nat} {ek : Eff}, i < k → S k = true → es[k]? = some ek → (∀ d, e.dst = some d → ek.dst ≠ some d) ∧ e.apart ek = true := fun {k ek} hik hSk hek => by
    have hk : k < ops.size := by rw [← h.len]; exact (List.getElem?_eq_some_iff.1 hek).1
    have hok : ops[k]? = some ops[k] := Array.getElem?_eq_getElem hk
    have hnot : i ∉ (befOf ops.toList).getD k [] := fun hb => by
      have := closed_bef hback hc (k + 1) k (by omega) hSk i hb
      rw [hS] at this; cases this
    refine ⟨?_, (dynOk_pair h.dyn hik he hek).resolve_left hnot⟩
    rw [h.effDst okc ho he, h.effDst okc hok hek]
    exact (statOk_pair h.stat hik ho hok).1
  refine ⟨fun t => ?_, fun r => ?_⟩
  · rw [oE_app, fo_obs (φ := oE t) (obs := fun st => lk st.env t) (oE_app t), fo_obs (φ := oE t) (obs := fun st => lk st.env t) (oE_app t)]
    refine (fo_insert he hS (fun k ek hik hSk hek => ?_) _).symm
    by_cases hd : e.dst = some t
    · exact .inl fun x => oE_id ((hl hik hSk hek).1 t hd) x
    · exact .inr fun x => oE_id hd x
  · rw [oG_app, fo_obs (φ := oG r) (obs := fun st => st.get r) (oG_app r), fo_obs (φ := oG r) (obs := fun st => st.get r) (oG_app r)]
    refine (fo_insert he hS (fun k ek hik hSk hek => ?_) _).symm
    exact (oG_apart (hl hik hSk hek).2 r).symm

theorem fold_all {st : St} {es : List Eff} {S : Nat → Bool} (h : ∀ i, i < es.length → S i = true) : foldS S es 0 st = es.foldl St.app st := by
  have : ∀ (es : List Eff) (k : Nat) (st : St), (∀ i, i < es.length → S (k + i) = true) → foldS S es k st = es.foldl St.app st := by
    intro es
    induction es with
    | nil => intro k st _; rfl
    | cons e r ih =>
      intro k st h
      unfold foldS
      rw [show S k = true from h 0 (by simp)]
      simp only [if_true, List.foldl_cons]
      exact ih (k + 1) _ fun i hi => by
        have := h (i + 1) (by simp; omega)
        rwa [show k + (i + 1) = k + 1 + i by omega] at this
  exact this es 0 st (by simpa using h)

theorem any_sound {N : Nat} {call : CallT} (okc : Ok C N call) {f : FuncId} {ops : Array Oper} {base : Nat} {st : St} {es : List Eff} {M : Nat → Nat} (h : Told C N call f ops base st es M) {Q : Exit → Act → World → Prop} :
    ∀ (fuel : Nat) (listed : Array Bool), listed.size = ops.size → cnt (fun k => listed.getD k false) ops.size ≤ fuel → Closed ops (fun k => listed.getD k false) → ∀ I β a w,
      SR N I β (foldS (fun k => listed.getD k false) es 0 st) a w → (∀ j, j < ops.size → listed.getD j false = false → ∀ n, numOf base M j n → Fr β n) →
      Then N I β (foldS (fun k => listed.getD k false) es 0 st) w (fun n => ∃ j, j < ops.size ∧ numOf base M j n) (es.foldl St.app st) (Q .normal) →
      wpAny C.P .any ops Q fuel listed a w := by
  have hback : ∀ i o, ops[i]? = some o → ∀ e ∈ o.after, Region.binds .any e = true → e.on < i := fun i o ho => statOk_back h.stat ho
  have done : ∀ (listed : Array Bool), (∀ i, i < ops.size → listed.getD i false = true) → ∀ I β a w, SR N I β (foldS (fun k => listed.getD k false) es 0 st) a w →
      Then N I β (foldS (fun k => listed.getD k false) es 0 st) w (fun n => ∃ j, j < ops.size ∧ numOf base M j n) (es.foldl St.app st) (Q .normal) → Q .normal a w := by
    intro listed hall I β a w hs hK
    have heq : foldS (fun k => listed.getD k false) es 0 st = es.foldl St.app st := fold_all fun i hi => hall i (by rw [← h.len]; exact hi)
    rw [heq] at hs hK
    exact hK a w I β hs (.refl _ _ _ _) (.refl _ _)
  intro fuel
  induction fuel with
  | zero =>
    intro listed hsz hcnt hc I β a w hs hfr hK
    have hall := cnt_zero ops.size (Nat.le_zero.1 hcnt)
    refine ⟨?_, done listed hall I β a w hs hK⟩
    cases hr : Region.ready .any ops listed with
    | nil => rfl
    | cons x xs =>
      have hx : x ∈ Region.ready .any ops listed := by rw [hr]; exact List.mem_cons_self
      obtain ⟨h1, o, ho, _⟩ := mem_ready.1 hx
      have hlt : x < ops.size := (Array.getElem?_eq_some_iff.1 ho).1
      have := hall x hlt
      simp [Array.getD_eq_getD_getElem?, Array.getElem?_eq_getElem (show x < listed.size by omega)] at this h1
      rw [this] at h1; cases h1
  | succ fuel ih =>
    intro listed hsz hcnt hc I β a w hs hfr hK
    refine ⟨fun hr => ?_, fun i hi => ?_⟩
    · refine done listed (fun i => ?_) I β a w hs hK
      induction i using Nat.strongRecOn with
      | ind i ihi =>
        intro hlt
        cases hS : listed.getD i false with
        | true => rfl
        | false =>
          have hx : i ∈ Region.ready .any ops listed := mem_ready.2 ⟨by
            simp [Array.getD_eq_getD_getElem?, Array.getElem?_eq_getElem (show i < listed.size by omega)] at hS ⊢; exact hS, ops[i], Array.getElem?_eq_getElem hlt, fun e he hb => by
            have := hback i _ (Array.getElem?_eq_getElem hlt) e he hb
            exact ihi e.on this (by omega)⟩
          rw [hr] at hx; cases hx
    · obtain ⟨h1, o, ho, hall⟩ := mem_ready.1 hi
      have hlt : i < ops.size := (Array.getElem?_eq_some_iff.1 ho).1
      have hS : listed.getD i false = false := by
        simp [Array.getD_eq_getD_getElem?, Array.getElem?_eq_getElem (show i < listed.size by omega)] at h1 ⊢; exact h1
      obtain ⟨e, he, _⟩ := h.op i o ho
      have hop := h.here okc hc ho he hS hall
      obtain ⟨hm1, hdst, haft⟩ := opA_sound (N := N) okc.calls okc.intr okc.name hop (h.dst i o ho)
      obtain ⟨hmE, hmG⟩ := h.more okc hc ho he hS
      have hSet : (fun k => (listed.setIfInBounds i true).getD k false) = fun k => listed.getD k false || k == i := by
        funext k
        by_cases hk : k = i
        · subst hk; simp [show k < listed.size by omega]
        · rw [getD_set_ne false (Ne.symm hk)]
          have : (k == i) = false := by simpa using hk
          rw [this, Bool.or_false]
      have hgetEq : ((foldS (fun k => listed.getD k false) es 0 st).app e).get = (foldS (fun k => listed.getD k false || k == i) es 0 st).get := (funext hmG).symm
      have hnext : ∀ a' w' I' β', SR N I' β' ((foldS (fun k => listed.getD k false) es 0 st).app e) a' w' →
          Step I β (foldS (fun k => listed.getD k false) es 0 st).get w I' β' ((foldS (fun k => listed.getD k false) es 0 st).app e).get w' → Keeps (numOf base M i) β β' →
          wpAny C.P .any ops Q fuel (listed.setIfInBounds i true) a' w' := by
        intro a' w' I' β' hs' hst' hk'
        refine ih (listed.setIfInBounds i true) (by simpa using hsz) ?_ ?_ I' β' a' w' ?_ ?_ ?_
        · have := cnt_lt (S := fun k => listed.getD k false) (T := fun k => (listed.setIfInBounds i true).getD k false) (fun k hk => getD_set_true hk) hS (by simp [show i < listed.size by omega]) ops.size hlt
          omega
        · rw [hSet]
          intro j oj hj hjS x hx hxb
          simp only [Bool.or_eq_true, beq_iff_eq] at hjS
          rcases hjS with hjS | rfl
          · have := hc j oj hj hjS x hx hxb
            simp only at this
            simp only [this, Bool.true_or]
          · rw [ho] at hj; cases hj
            have := hall x hx hxb
            simp only [this, Bool.true_or]
        · rw [hSet]; exact hs'.same hmE hmG
        · intro j hj hjS n hn
          have hji : j ≠ i := fun e => by subst e; simp [show j < listed.size by omega] at hjS
          rw [getD_set_ne false (Ne.symm hji)] at hjS
          exact hk' n (hfr j hj hjS n hn) fun hn' => hji (h.disj hj hlt hn hn')
        · rw [hSet]
          intro a2 w2 I2 β2 hs2 hst2 hk2
          rw [hgetEq] at hst'
          exact hK a2 w2 I2 β2 hs2 (hst'.trans hst2) (hk'.trans hk2 (fun n hn => ⟨i, hlt, hn⟩) fun n hn => hn)
      have := haft I β a w Q _ hs (fun n hn => hfr i hlt hS n hn) hnext
      unfold wpOp
      rw [ho]
      simp only
      split
      · rename_i hw; rw [if_pos hw] at this; exact .inl this
      · rename_i hw; rw [if_neg hw] at this; exact this

theorem lk_restrict {α : Type} {live : List Nat} {l : List (Nat × α)} {d : Nat} {v : α} (h : lk (restrict live l) d = some v) : lk l d = some v := by
  unfold restrict at h
  induction live with
  | nil => simp [lk] at h
  | cons x r ih =>
    simp only [List.filterMap_cons] at h
    cases hx : lk l x with
    | none => simp only [hx, Option.map_none] at h; exact ih h
    | some y =>
      simp only [hx, Option.map_some, lk] at h
      split at h
      · rename_i he; cases h; rw [← he]; exact hx
      · exact ih h

theorem SR.drawn {N : Nat} {I : Nat → Prop} {β : BMap} {st : St} {a : Act} {w : World} (h : SR N I β st a w) (d : Nat) : SR N I β st a { w with drawn := d } ∧ Step I β st.get w I β st.get { w with drawn := d } :=
  ⟨⟨fun t x hx => (h.env t x hx).mono (fun _ h => h) (fun _ _ => rfl) (fun _ _ h => h) (fun _ => Nat.le_refl _),
    ⟨fun r o hr => let ⟨p, hp, ho⟩ := h.sim.obj r o hr; ⟨p, hp, ho.mono rfl (fun _ h => h) (fun _ _ => rfl) (fun _ _ h => h) (fun _ => Nat.le_refl _)⟩, h.sim.inj, h.sim.imm, h.sim.gen, WX.stable (I := I) (I' := I) (w := w) (w' := { w with drawn := d }) (fun _ h => h) (fun _ _ => rfl) h.sim.wx⟩, h.size, h.defers⟩,
    ⟨fun _ h => h, fun _ _ h => h, ⟨rfl, rfl, rfl, Nat.le_refl _, fun _ => Nat.le_refl _, fun _ _ _ => rfl⟩, fun _ h => .inl h, fun _ h => .inl h⟩⟩

theorem restrict_then {N : Nat} {I : Nat → Prop} {β : BMap} {st st1 : St} {w : World} {num : Nat → Prop} {live : List Nat} {nx : Nat} {K : Act → World → Prop}
    (h : Then N I β st w num { env := restrict live st1.env, loc := restrict live st1.loc, hp := st1.hp, nx := nx } K) : Then N I β st w num st1 K := by
  intro a' w' I' β' hs hst hk
  have hsub : ∀ r o, ({ env := restrict live st1.env, loc := restrict live st1.loc, hp := st1.hp, nx := nx } : St).get r = some o → st1.get r = some o := by
    intro r o hr
    cases r with
    | h k g => exact hr
    | l d n =>
      simp only [St.get, lkg] at hr ⊢
      split at hr
      · rename_i m o' hl
        rw [lk_restrict hl]; exact hr
      · cases hr
  refine h a' w' I' β' ⟨fun t x hx => hs.env t x (lk_restrict hx), hs.sim.sub hsub, hs.size, hs.defers⟩ ⟨hst.hI, hst.hβ, hst.keep, fun b ⟨r, o, p, q1, q2, q3⟩ => hst.own b ⟨r, o, p, hsub r o q1, q2, q3⟩, hst.new⟩ hk

theorem regionA_sound {N : Nat} {call : CallT} (okc : Ok C N call) (hm : C.P.follows .mixedOrders = true) {f : FuncId} {id : Nat} {ops : Array Oper} {draw : Bool} {st st' : St} (h : regionA C call f id ops draw st = some st')
    (hd : ∀ o ∈ ops.toList, ∀ d, o.dst = some d → d < N) :
    st.nx ≤ st'.nx ∧ ∀ I β a w (Q : Exit → Act → World → Prop), SR N I β st a w → FrIn β st.nx st'.nx → Then N I β st w (fun n => st.nx ≤ n ∧ n < st'.nx) st' (Q .normal) → (Code.region id ops draw).wp C.P Q a w := by
  unfold regionA at h
  split at h
  · cases h
  · rename_i st1 nx1 es hops
    split at h
    · rename_i hcond
      simp only [Option.some.injEq] at h
      subst h
      have hmo := opsA_mono okc _ _ _ _ _ hd hops
      simp only at hmo ⊢
      refine ⟨by omega, fun I β a w Q hs hfr hK => ?_⟩
      have hK1 := restrict_then hK
      cases hdr : draw with
      | false =>
        refine wp_region_list ?_
        refine ordered_sound okc ops.toList 0 st _ _ hd hops (by simp) I β a w hs (fun n h1 h2 => hfr n (by omega) (by simp at h2; omega)) (fun n h1 h2 => hfr n (by omega) h2) ?_
        intro a2 w2 I2 β2 hs2 hst2 hk2
        refine hK1 a2 w2 I2 β2 hs2 hst2 fun n hn hno => hk2 n hn ?_
        simp only [Array.length_toList]
        rintro (⟨h1, h2⟩ | ⟨h1, h2⟩)
        · exact hno ⟨by omega, by omega⟩
        · exact hno ⟨by omega, by omega⟩
      | true =>
        rw [hdr] at hcond
        simp only [Bool.not_true, Bool.false_or, Bool.and_eq_true] at hcond
        obtain ⟨es1, M, q1, q2, q3, q4, q5, q6⟩ := opsA_parts _ _ _ _ _ hops
        simp only [List.reverse_nil, List.nil_append] at q1
        subst q1
        have hd' : ∀ (j : Nat) (o : Oper), ops[j]? = some o → ∀ d, o.dst = some d → d < N := fun j o ho => hd o (by
          rw [Array.mem_toList_iff]; exact Array.mem_of_getElem? ho)
        have hTold : Told C N call f ops st.nx st es M := by
          refine ⟨by simpa using q2, fun j o ho => ?_, hcond.1, hcond.2, hd', fun j hj => ?_, by rw [q3]; omega⟩
          · obtain ⟨e, he, hop⟩ := q6 j o (by simpa using ho)
            refine ⟨e, he, ?_⟩
            rw [foldS_lt j es 0 st (Nat.zero_le _)]
            simpa using hop
          · obtain ⟨e, he, hop⟩ := q6 j ops[j] (by simp [hj])
            exact (opA_sound (N := N) okc.calls okc.intr okc.name hop (hd' j _ (Array.getElem?_eq_getElem hj))).1
        refine wp_region_any hm ?_
        obtain ⟨hs', hst'⟩ := hs.drawn (w.drawn + 1)
        have hrep : (fun k => (Array.replicate ops.size false).getD k false) = fun _ => false := by
          funext k
          simp only [Array.getD_eq_getD_getElem?]
          cases hk : (Array.replicate ops.size false)[k]? with
          | none => rfl
          | some b =>
            obtain ⟨_, hb⟩ := Array.getElem?_eq_some_iff.1 hk
            simp at hb; simp [← hb]
        have hnone : ∀ (es : List Eff) (k : Nat), foldS (fun _ => false) es k st = st := by
          intro es
          induction es with
          | nil => intro k; rfl
          | cons e r ih => intro k; unfold foldS; exact ih (k + 1)
        have hM : ∀ j, j < ops.size → ∀ n, numOf st.nx M j n → st.nx ≤ n ∧ n < nx1 := fun j hj n hn => by
          have m1 := hTold.le j 0 (by omega) (by omega)
          have m2 := hTold.le ops.size (j + 1) (by omega) (by omega)
          simp only [Array.length_toList] at q4
          rcases hn with hn | hn <;> omega
        refine any_sound okc hTold ops.size _ (by simp) (by rw [hrep]; exact cnt_none _) (by rw [hrep]; intro i o _ h; cases h) I β a _ (by rw [hrep, hnone]; exact hs') (fun j hj _ n hn => ?_) ?_
        · exact hfr n (hM j hj n hn).1 (hM j hj n hn).2
        · rw [hrep, hnone, ← q5]
          intro a2 w2 I2 β2 hs2 hst2 hk2
          refine hK1 a2 w2 I2 β2 hs2 (hst'.trans hst2) fun n hn hno => hk2 n hn fun ⟨j, hj, hn'⟩ => hno (hM j hj n hn')
    · cases h

end
end Ab
end Go.Proofs.YtidoflgcblglbaaDoor

/-
  DERIVED. WHICH OBJECTS there are behind an operation: those that were there, and its own.
  Conditions: none of a program's.
-/
namespace Go.Proofs.YtidoflgcblglbaaDoor
namespace Ab
variable [WX]

/-- What is written is there already, or has the number n. -/
def Old (get : GetF) (n : Nat) (wr : List Wr) : Prop := ∀ x ∈ wr, ∀ k g, x.1 = .h k g → k = n ∨ ∃ g' o, get (.h k g') = some o

section
variable {P : Program} {get : GetF} {n : Nat}

theorem old_nil : Old get n [] := fun _ h => by cases h

theorem ret_wr {v r : AV} {wr : List Wr} (h : ret v = some (r, wr)) : wr = [] := by cases h; rfl

theorem bind_wr {x : Option AV} {r : AV} {wr : List Wr} (h : x.bind ret = some (r, wr)) : wr = [] := by
  cases x with
  | none => cases h
  | some v => exact ret_wr h

theorem old_one {q : Ref} {o : Option AO} (h : ∀ k g, q = .h k g → k = n ∨ ∃ g' o, get (.h k g') = some o) : Old get n [(q, o)] := fun x hx k g e => by
  simp only [List.mem_singleton] at hx; subst hx; exact h k g e

theorem old_n {g : Nat} {o : Option AO} : Old get n [(.h n g, o)] := old_one fun k g e => by cases e; exact .inl rfl
theorem old_l {d m : Nat} {o : Option AO} : Old get n [(.l d m, o)] := old_one fun k g e => by cases e
theorem old_g {k g g' : Nat} {o : Option AO} {x : AO} (h : get (.h k g') = some x) : Old get n [(.h k g, o)] := old_one fun k g e => by cases e; exact .inr ⟨_, _, h⟩

theorem storeA_old {t : TypeId} {a v : AV} {w : Wr} (h : storeA P get t a v = some w) : Old get n [w] := by
  unfold storeA at h
  split at h
  · split at h
    · simp only [Option.map_eq_some_iff] at h
      obtain ⟨_, _, rfl⟩ := h
      exact old_l
    · cases h
  · split at h
    · rename_i hg
      simp only [Option.map_eq_some_iff] at h
      obtain ⟨_, _, rfl⟩ := h
      exact old_g hg
    · cases h
  · split at h
    · rename_i hg
      split at h
      · split at h
        · simp only [Option.map_eq_some_iff] at h
          obtain ⟨_, _, rfl⟩ := h
          exact old_g hg
        · cases h
      · cases h
    · cases h
  · cases h

theorem appRow_old {sz b : Nat} {new : List (List AV)} {x r : AV} {wr : List Wr} (h : appRow get sz b new n x = some (r, wr)) : Old get n wr := by
  unfold appRow at h
  split at h
  · split at h
    · rw [ret_wr h]; exact old_nil
    · split at h
      · cases h; exact old_n
      · cases h
  · split at h
    · split at h
      · rw [ret_wr h]; exact old_nil
      · cases h
    · split at h
      · rename_i hg
        split at h
        · cases h; exact old_g hg
        · cases h
      · cases h
  · cases h

theorem appendA_old {t tx : TypeId} {s x r : AV} {wr : List Wr} (h : appendA P get t tx s x n = some (r, wr)) : Old get n wr := by
  unfold appendA at h
  split at h
  · split at h
    · cases h
    · split at h
      · split at h
        · cases h
        · split at h
          · cases h
          · exact appRow_old h
      · cases h
  · cases h

theorem makeSliceA_old {t : TypeId} {l c r : AV} {wr : List Wr} (h : makeSliceA P t l c n = some (r, wr)) : Old get n wr := by
  unfold makeSliceA at h
  split at h
  · split at h
    · split at h
      · cases h; exact old_n
      · cases h
    · cases h
  · cases h

theorem sliceA_old {t : TypeId} {x r : AV} {lo hi mx : Option AV} {wr : List Wr} (h : sliceA P get t x lo hi mx = some (r, wr)) : Old get n wr := by
  unfold sliceA at h
  split at h
  · split at h
    · cases h
    · split at h
      · rw [ret_wr h]; exact old_nil
      · cases h
  · split at h
    · split at h
      · split at h
        · rw [ret_wr h]; exact old_nil
        · cases h
      · split at h
        · rw [ret_wr h]; exact old_nil
        · cases h
    · cases h
  · split at h
    · rename_i hg
      split at h
      · rw [ret_wr h]; exact old_nil
      · cases h
    · cases h
  · cases h

theorem convA_old {s d : TypeId} {x r : AV} {wr : List Wr} (h : convA P get s d x n = some (r, wr)) : Old get n wr := by
  unfold convA at h
  split at h
  · rw [ret_wr h]; exact old_nil
  · rw [ret_wr h]; exact old_nil
  · split at h
    · split at h
      · cases h; exact old_n
      · cases h
    · cases h
  · split at h
    · split at h
      · rw [ret_wr h]; exact old_nil
      · cases h
    · cases h
  · split at h
    · rename_i hg
      split at h
      · cases h; exact old_g hg
      · cases h
    · cases h
  · cases h

theorem nextA_old {x r : AV} {wr : List Wr} (h : nextA get x = some (r, wr)) : Old get n wr := by
  unfold nextA at h
  split at h
  · split at h
    · rename_i hg
      split at h
      · cases h; exact old_g hg
      · rw [ret_wr h]; exact old_nil
    · cases h
  · cases h

theorem deleteA_old {t : TypeId} {m k : AV} {w : Wr} (h : deleteA P get t m k = some w) : Old get n [w] := by
  unfold deleteA at h
  split at h
  · split at h
    · rename_i hg
      split at h
      · split at h
        · cases h; exact old_g hg
        · cases h; exact old_g hg
        · cases h
      · cases h
    · cases h
  · cases h

theorem builtinA_old {b : Builtin} {ts : Array TypeId} {args : List AV} {r : AV} {wr : List Wr} (h : builtinA P get b ts args n = some (r, wr)) : Old get n wr := by
  unfold builtinA at h
  split at h
  · rw [bind_wr h]; exact old_nil
  · exact appendA_old h
  · rw [bind_wr h]; exact old_nil
  · rw [bind_wr h]; exact old_nil
  · simp only [Option.map_eq_some_iff, Prod.mk.injEq] at h
    obtain ⟨y, hw, _, rfl⟩ := h
    exact deleteA_old hw
  · cases h

theorem updateA_old {t : TypeId} {m k v : AV} {w : Wr} (h : updateA P get t m k v = some w) : Old get n [w] := by
  unfold updateA at h
  split at h
  · split at h
    · rename_i hg
      split at h
      · split at h
        · cases h; exact old_g hg
        · cases h; exact old_g hg
        · cases h
      · cases h
    · cases h
  · cases h

theorem stepA_old {ρ : Operand → AV} {loc : Nat → Bool} {o : Oper} {r : AV} {wr : List Wr} (h : stepA P get ρ n loc o = some (r, wr)) : Old get n wr := by
  unfold stepA at h
  split at h
  case h_1 => split at h <;> first | (rw [ret_wr h]; exact old_nil) | cases h
  case h_2 => split at h <;> first | (rw [ret_wr h]; exact old_nil) | cases h
  case h_3 =>
    split at h
    · split at h <;> first | (rw [ret_wr h]; exact old_nil) | cases h
    · split at h <;> first | (rw [ret_wr h]; exact old_nil) | cases h
    · cases h
  case h_4 =>
    split at h
    · split at h
      · split at h
        · cases h; exact old_l
        · cases h; exact old_n
      · cases h
    · cases h
  case h_5 =>
    split at h
    · split at h
      · split at h
        · cases h; exact old_l
        · cases h; exact old_n
      · cases h
    · cases h
  case h_6 => rw [bind_wr h]; exact old_nil
  case h_7 =>
    split at h
    · split at h
      · split at h
        · split at h
          · cases h; exact old_n
          · cases h
        · cases h
      · cases h
    · cases h
  case h_8 => rw [bind_wr h]; exact old_nil
  case h_9 =>
    simp only [Option.map_eq_some_iff, Prod.mk.injEq] at h
    obtain ⟨w, hw, _, rfl⟩ := h
    exact storeA_old hw
  case h_10 => split at h <;> first | (rw [ret_wr h]; exact old_nil) | cases h
  case h_11 => rw [bind_wr h]; exact old_nil
  case h_12 => rw [bind_wr h]; exact old_nil
  case h_13 => exact convA_old h
  case h_14 =>
    split at h
    · split at h <;> first | (rw [ret_wr h]; exact old_nil) | cases h
    · cases h
  case h_15 =>
    split at h
    · cases h; exact old_n
    · cases h
  case h_16 => exact makeSliceA_old h
  case h_17 => exact sliceA_old h
  case h_18 => split at h <;> first | (rw [ret_wr h]; exact old_nil) | cases h
  case h_19 =>
    split at h
    · split at h
      · rw [bind_wr h]; exact old_nil
      · cases h
    · cases h
  case h_20 => rw [bind_wr h]; exact old_nil
  case h_21 => rw [bind_wr h]; exact old_nil
  case h_22 =>
    split at h
    · cases h; exact old_n
    · cases h
  case h_23 =>
    split at h
    · exact nextA_old h
    · cases h
  case h_24 =>
    split at h
    · rw [bind_wr h]; exact old_nil
    · cases h
  case h_25 =>
    split at h
    · exact builtinA_old h
    · cases h
  case h_26 => rw [bind_wr h]; exact old_nil
  case h_27 =>
    simp only [Option.map_eq_some_iff, Prod.mk.injEq] at h
    obtain ⟨w, hw, _, rfl⟩ := h
    exact updateA_old hw
  case h_28 => cases h

end

/-- What is there behind a step was there or has a new number. -/
def Olds (st st' : St) (num : Nat → Prop) : Prop := ∀ k g o, lkg st'.hp k g = some o → (∃ g' o', lkg st.hp k g' = some o') ∨ num k

theorem Olds.refl (st : St) (num : Nat → Prop) : Olds st st num := fun _ g o h => .inl ⟨g, o, h⟩

theorem Olds.trans {a b c : St} {p q r : Nat → Prop} (h : Olds a b p) (k2 : Olds b c q) (hp : ∀ n, p n → r n) (hq : ∀ n, q n → r n) : Olds a c r := fun i g o hi =>
  (k2 i g o hi).elim (fun ⟨g', o', h'⟩ => (h i g' o' h').imp id (hp i)) fun h' => .inr (hq i h')

theorem olds_wrs {st : St} {n : Nat} {wr : List Wr} (h : Old st.get n wr) {dst : Option Nat} {v : AV} {rd : Option (List Ref)} : Olds st (st.app ⟨dst, v, wr, none, rd⟩) (· = n) := by
  intro k g o hk
  have : (st.app ⟨dst, v, wr, none, rd⟩).get (.h k g) = some o := hk
  rw [get_app] at this
  simp only [effG] at this
  have key : ∀ (l : List Wr) (get : GetF), (∀ x ∈ l, x ∈ wr) → l.foldl wrG get (.h k g) = some o → (∃ x ∈ l, x.1.key = (false, k)) ∨ get (.h k g) = some o := by
    intro l
    induction l with
    | nil => intro get _ h; exact .inr h
    | cons x l ih =>
      intro get hm h
      simp only [List.foldl_cons] at h
      rcases ih _ (fun y hy => hm y (List.mem_cons_of_mem _ hy)) h with ⟨y, hy, hk⟩ | h
      · exact .inl ⟨y, List.mem_cons_of_mem _ hy, hk⟩
      · unfold wrG at h
        split at h
        · rename_i he
          exact .inl ⟨x, List.mem_cons_self, by rw [← he]; rfl⟩
        · exact .inr h
  rcases key wr st.get (fun _ h => h) this with ⟨x, hx, hk'⟩ | h'
  · obtain ⟨q, ox⟩ := x
    cases q with
    | l d m => cases hk'
    | h k' g' =>
      simp only [Ref.key, Prod.mk.injEq, true_and] at hk'
      subst hk'
      rcases h _ hx k' g' rfl with rfl | ⟨g2, o2, h2⟩
      · exact .inr rfl
      · exact .inl ⟨g2, o2, h2⟩
  · exact .inl ⟨g, o, h'⟩

end Ab
end Go.Proofs.YtidoflgcblglbaaDoor

/-
  DERIVED. CODE: the law of its pieces, of a function and of a call.
  Conditions: none of a program's.
-/
namespace Go.Proofs.YtidoflgcblglbaaDoor
namespace Ab
variable [WX]

section
variable {C : Cfg}

theorem goCallP_olds {p : Bool} {call : CallT} (hc : CallOk C.P call) {st : St} {nx nx' : Nat} {dst : Option Nat} {f : FuncId} {args : List AV} {e : Eff} (h : goCallP C p call st nx dst f args = some (e, nx')) :
    Olds st (st.app e) (fun n => nx ≤ n ∧ n < nx') := by
  have plain : ∀ {v : AV} {rd : Option (List Ref)}, Olds st (st.app ⟨dst, v, [], none, rd⟩) (fun n => nx ≤ n ∧ n < nx') := fun {v rd} k g o hk => by
    have := olds_wrs (n := nx) (old_nil (get := st.get)) (dst := dst) (v := v) (rd := rd) k g o hk
    rcases this with h | rfl
    · exact .inl h
    · have : (st.app ⟨dst, v, [], none, rd⟩).get (.h k g) = some o := hk
      rw [get_app] at this
      exact .inl ⟨g, o, this⟩
  unfold goCallP at h
  split at h
  · simp only [Option.map_eq_some_iff, Prod.mk.injEq] at h
    obtain ⟨_, _, rfl, _⟩ := h
    exact plain
  · split at h
    · split at h
      · split at h
        · simp only [Option.map_eq_some_iff, Prod.mk.injEq] at h
          obtain ⟨_, _, rfl, _⟩ := h
          exact plain
        · cases h
      · split at h
        · split at h
          · split at h
            · cases h; exact plain
            · cases h
          · cases h
        · cases h
    · split at h
      · split at h
        · rename_i r hp nx1 hcall
          simp only [Option.some.injEq, Prod.mk.injEq] at h
          obtain ⟨rfl, rfl⟩ := h
          have hold := (hc _ _ _ _ _ _ _ hcall).2.1
          intro k g o hk
          have : (st.app ⟨dst, r, hp.reverse.map (fun x => (.h x.1 x.2.1, some x.2.2)), none, some []⟩).get (.h k g) = some o := hk
          rw [get_app] at this
          simp only [effG] at this
          rw [get_beside] at this
          simp only at this
          split at this
          · rename_i m o' hl
            rcases hold k m o' (by unfold lkg; rw [hl]; simp) with ⟨_, _, h'⟩ | h'
            · cases h'
            · exact .inr h'
          · exact .inl ⟨g, o, this⟩
        · cases h
      · split at h
        · split at h
          · rename_i r hp nx1 hcall
            simp only [Option.some.injEq, Prod.mk.injEq] at h
            obtain ⟨rfl, rfl⟩ := h
            have hold := (hc _ _ _ _ _ _ _ hcall).2.1
            intro k g o hk
            have : (st.app ⟨dst, r, [], some (st.hp, hp), none⟩).hp = hp := by rw [oH_app]; simp [oH]
            rw [this] at hk
            exact hold k g o hk
          · cases h
        · cases h

theorem goCallF_olds {call : CallT} (hc : CallOk C.P call) {st : St} {nx nx' : Nat} {dst : Option Nat} {f : FuncId} {args : List AV} {e : Eff} (h : goCallF call st nx dst f args = some (e, nx')) :
    Olds st (st.app e) (fun n => nx ≤ n ∧ n < nx') := by
  unfold goCallF at h
  split at h
  · split at h
    · rename_i r hp nx1 hcall
      split at h
      · simp only [Option.some.injEq, Prod.mk.injEq] at h
        obtain ⟨rfl, rfl⟩ := h
        have hold := (hc _ _ _ _ _ _ _ hcall).2.1
        intro k g o hk
        have : (st.app ⟨dst, r, hp.reverse.map (fun x => (.h x.1 x.2.1, some x.2.2)), none, none⟩).get (.h k g) = some o := hk
        rw [get_app] at this
        simp only [effG] at this
        rw [get_beside] at this
        simp only at this
        split at this
        · rename_i m o' hl
          rcases hold k m o' (by unfold lkg; rw [hl]; simp) with ⟨_, _, h'⟩ | h'
          · cases h'
          · exact .inr h'
        · exact .inl ⟨g, o, this⟩
      · cases h
    · cases h
  · cases h

theorem goCall_olds {call : CallT} (hc : CallOk C.P call) {st : St} {nx nx' : Nat} {dst : Option Nat} {f : FuncId} {args : List AV} {e : Eff} (h : goCall C call st nx dst f args = some (e, nx')) :
    Olds st (st.app e) (fun n => nx ≤ n ∧ n < nx') := by
  rcases goCall_from h with ⟨p, hp⟩ | hp | ⟨_, hp⟩ | ⟨_, hp⟩
  · exact goCallP_olds hc hp
  · exact goCallF_olds hc hp
  rotate_left
  · unfold goCallH at hp
    split at hp
    · split at hp
      · rename_i r hp1 nx1 hcall
        simp only [Option.some.injEq, Prod.mk.injEq] at hp
        obtain ⟨rfl, rfl⟩ := hp
        have hold := (hc _ _ _ _ _ _ _ hcall).2.1
        intro k g o hk
        have : (st.app ⟨dst, r, [], some (st.hp, hp1), none⟩).hp = hp1 := by rw [oH_app]; simp [oH]
        rw [this] at hk
        exact hold k g o hk
      · cases hp
    · cases hp
  · obtain ⟨r, rfl, _⟩ := goCallR_eq hp
    intro k g o hk
    have : (st.app ⟨dst, r, [], none, none⟩).get (.h k g) = some o := hk
    rw [get_app] at this
    exact .inl ⟨g, o, this⟩

theorem opA_olds {N : Nat} {call : CallT} (okc : Ok C N call) {f : FuncId} {ops : Array Oper} {base nx i nx' : Nat} {st : St} {o : Oper} {e : Eff} (h : opA C call f ops base st nx i o = some (e, nx')) :
    Olds st (st.app e) (fun n => n = base + i ∨ (nx ≤ n ∧ n < nx')) := by
  unfold opA at h
  split at h
  · cases h
  · simp only [Option.some.injEq, Prod.mk.injEq] at h
    obtain ⟨rfl, rfl⟩ := h
    exact fun k g o hk => (olds_wrs (n := base + i) (old_nil (get := st.get)) k g o hk).imp id .inl
  · have plain : ∀ {e : Eff} {nx' : Nat}, (stepA C.P st.get (Ab.ev st.env) (base + i) (C.loc f) o).map (fun r => ((⟨o.dst, r.1, r.2, none, some (rdA (Ab.ev st.env) o)⟩ : Eff), nx)) = some (e, nx') →
        Olds st (st.app e) (fun n => n = base + i ∨ (nx ≤ n ∧ n < nx')) := by
      intro e nx' h
      simp only [Option.map_eq_some_iff, Prod.mk.injEq] at h
      obtain ⟨⟨r, wr⟩, hs, rfl, rfl⟩ := h
      exact fun k g o hk => (olds_wrs (stepA_old hs) k g o hk).imp id .inl
    split at h
    · split at h
      · exact fun k g o hk => (goCall_olds okc.calls h k g o hk).imp id .inr
      · cases h
    · exact plain h

theorem opsA_olds {N : Nat} {call : CallT} (okc : Ok C N call) {f : FuncId} {ops : Array Oper} {base : Nat} : ∀ (rest : List Oper) (i : Nat) (st : St) (nx : Nat) (acc : List Eff) {st' : St} {nx' : Nat} {es : List Eff},
    (∀ o ∈ rest, ∀ d, o.dst = some d → d < N) → opsA C call f ops base rest i st nx acc = some (st', nx', es) → base + i + rest.length ≤ nx → Olds st st' (fun n => base ≤ n ∧ n < nx')
  | [], i, st, nx, acc, st', nx', es, _, h, _ => by unfold opsA at h; cases h; exact .refl _ _
  | o :: rest, i, st, nx, acc, st', nx', es, hd, h, hb => by
    unfold opsA at h
    split at h
    · rename_i e nx1 ho
      have h1 := (opA_sound (N := N) okc.calls okc.intr okc.name ho (hd o List.mem_cons_self)).1
      have h2 := opsA_mono okc _ _ _ _ _ (fun o ho => hd o (List.mem_cons_of_mem _ ho)) h
      simp only [List.length_cons] at hb h2
      refine (opA_olds okc ho).trans (opsA_olds okc rest (i + 1) _ nx1 _ (fun o ho => hd o (List.mem_cons_of_mem _ ho)) h (by omega)) (fun n hn => ?_) fun n hn => hn
      rcases hn with hn | hn <;> omega
    · cases h

theorem regionA_olds {N : Nat} {call : CallT} (okc : Ok C N call) {f : FuncId} {id : Nat} {ops : Array Oper} {draw : Bool} {st st' : St} (h : regionA C call f id ops draw st = some st')
    (hd : ∀ o ∈ ops.toList, ∀ d, o.dst = some d → d < N) : Olds st st' (fun n => st.nx ≤ n ∧ n < st'.nx) := by
  unfold regionA at h
  split at h
  · cases h
  · rename_i st1 nx1 es hops
    split at h
    · simp only [Option.some.injEq] at h
      subst h
      have := opsA_olds okc _ _ _ _ _ hd hops (by simp)
      exact this
    · cases h

/-- Each target lies within the frame. -/
def dstOk (N : Nat) : Code → Bool
  | .region _ ops _ => ops.toList.all fun o => match o.dst with | some d => decide (d < N) | none => true
  | .seq a b | .cond _ a b => dstOk N a && dstOk N b
  | .block _ a | .loop a => dstOk N a
  | _ => true

theorem dstOk_region {N id : Nat} {ops : Array Oper} {draw : Bool} (h : dstOk N (.region id ops draw) = true) : ∀ o ∈ ops.toList, ∀ d, o.dst = some d → d < N := fun o ho d hd => by
  have := List.all_eq_true.1 h o ho
  rw [hd] at this
  simpa using this

def Ex.out : Ex → Exit
  | .normal => .normal
  | .exit id => .exit id
  | .ret => .ret

theorem Then.step {N : Nat} {I I1 : Nat → Prop} {β β1 : BMap} {st st1 st' : St} {w w1 : World} {p q r : Nat → Prop} {K : Act → World → Prop} (h : Then N I β st w r st' K)
    (hst : Step I β st.get w I1 β1 st1.get w1) (hk : Keeps p β β1) (hp : ∀ n, p n → r n) (hq : ∀ n, q n → r n) : Then N I1 β1 st1 w1 q st' K := fun a2 w2 I2 β2 hs2 hst2 hk2 =>
  h a2 w2 I2 β2 hs2 (hst.trans hst2) (hk.trans hk2 hp hq)

/-- What a piece of code comes to. -/
structure Runs1 (C : Cfg) (N : Nat) (c : Code) (st : St) (ex : Ex) (st' : St) : Prop where
  le : st.nx ≤ st'.nx
  old : Olds st st' (fun n => st.nx ≤ n ∧ n < st'.nx)
  wp : ∀ I β a w (Q : Exit → Act → World → Prop), SR N I β st a w → FrIn β st.nx st'.nx → Then N I β st w (fun n => st.nx ≤ n ∧ n < st'.nx) st' (Q ex.out) → c.wp C.P Q a w

theorem Runs1.here {N : Nat} {c : Code} {st : St} {ex : Ex} (h : ∀ (Q : Exit → Act → World → Prop) a w, Q ex.out a w → c.wp C.P Q a w) : Runs1 C N c st ex st :=
  ⟨Nat.le_refl _, .refl _ _, fun I β a w Q hs _ hK => h Q a w (hK a w I β hs (.refl _ _ _ _) (.refl _ _))⟩

/-- Two pieces, one behind the other. -/
theorem Runs1.comp {N : Nat} {st st1 st' : St} {ex1 ex : Ex} {c1 c2 c : Code} (h1 : Runs1 C N c1 st ex1 st1) (h2 : Runs1 C N c2 st1 ex st')
    (h : ∀ (Q Q1 : Exit → Act → World → Prop) a w, (∀ a w, c2.wp C.P Q a w → Q1 ex1.out a w) → c1.wp C.P Q1 a w → (∀ a w, Q1 ex1.out a w → c2.wp C.P Q a w) → (∀ e a w, Q1 e a w → e = ex1.out) → c.wp C.P Q a w) : Runs1 C N c st ex st' := by
  have a1 := h1.le
  have a2 := h2.le
  refine ⟨Nat.le_trans a1 a2, h1.old.trans h2.old (fun n hn => ⟨hn.1, by omega⟩) fun n hn => ⟨by omega, hn.2⟩, fun I β a w Q hs hfr hK => ?_⟩
  refine h Q (fun e a w => e = ex1.out ∧ c2.wp C.P Q a w) a w (fun a w h => ⟨rfl, h⟩) ?_ (fun a w h => h.2) fun e a w h => h.1
  refine h1.wp I β a w _ hs (fun n hn1 hn2 => hfr n hn1 (by omega)) fun aa wa Ia βa hsa hsta hka => ⟨rfl, ?_⟩
  refine h2.wp Ia βa aa wa Q hsa (fun n hn1 hn2 => hka n (hfr n (by omega) hn2) fun hn => by omega) ?_
  exact hK.step hsta hka (fun n hn => ⟨hn.1, by omega⟩) fun n hn => ⟨by omega, hn.2⟩

theorem codeA_sound {N : Nat} {call : CallT} (okc : Ok C N call) (hm : C.P.follows .mixedOrders = true) {k : Nat} {f : FuncId} (c : Code) : ∀ {st st' : St} {ex : Ex}, dstOk N c = true → codeA C call k f c st = some (ex, st') → Runs1 C N c st ex st' := by
  induction c with
  | skip => intro st st' ex _ h; unfold codeA at h; cases h; exact .here fun Q a w => wp_skip
  | region id ops draw =>
    intro st st' ex hd h
    unfold codeA at h
    simp only [Option.map_eq_some_iff, Prod.mk.injEq] at h
    obtain ⟨st1, hr, rfl, rfl⟩ := h
    obtain ⟨h1, h2⟩ := regionA_sound okc hm hr (dstOk_region hd)
    exact ⟨h1, regionA_olds okc hr (dstOk_region hd), fun I β a w Q hs hfr hK => h2 I β a w Q hs hfr hK⟩
  | seq x y ihx ihy =>
    intro st st' ex hd h
    unfold dstOk at hd
    rw [Bool.and_eq_true] at hd
    unfold codeA at h
    split at h
    · rename_i st1 hx
      exact Runs1.comp (ihx hd.1 hx) (ihy hd.2 h) fun Q Q1 a w _ h1 h2 h3 => wp_seq (wp_mono h1 fun e a w hq => by
        have := h3 e a w hq; subst this; exact h2 a w hq)
    · rename_i hne
      have hx := ihx hd.1 h
      refine ⟨hx.le, hx.old, fun I β a w Q hs hfr hK => wp_seq (hx.wp I β a w _ hs hfr ?_)⟩
      cases ex with
      | normal => exact absurd h (hne st')
      | exit id => exact hK
      | ret => exact hK
  | cond cnd x y ihx ihy =>
    intro st st' ex hd h
    unfold dstOk at hd
    rw [Bool.and_eq_true] at hd
    unfold codeA at h
    split at h
    · rename_i hc
      have hx := ihx hd.1 h
      refine ⟨hx.le, hx.old, fun I β a w Q hs hfr hK => ?_⟩
      have hv := hs.ev cnd
      rw [hc] at hv
      refine wp_cond_true ?_ (hx.wp I β a w Q hs hfr hK)
      generalize a.eval cnd = v at hv
      cases hv; rfl
    · rename_i hc
      have hy := ihy hd.2 h
      refine ⟨hy.le, hy.old, fun I β a w Q hs hfr hK => ?_⟩
      have hv := hs.ev cnd
      rw [hc] at hv
      refine wp_cond_false ?_ (hy.wp I β a w Q hs hfr hK)
      generalize a.eval cnd = v at hv
      cases hv; rfl
    · cases h
  | block id x ih =>
    intro st st' ex hd h
    unfold dstOk at hd
    unfold codeA at h
    split at h
    · rename_i j st1 hx
      have hx' := ih hd hx
      split at h
      · rename_i hj
        cases h
        refine ⟨hx'.le, hx'.old, fun I β a w Q hs hfr hK => wp_block (hx'.wp I β a w _ hs hfr ?_)⟩
        intro a2 w2 I2 β2 hs2 hst2 hk2
        show (if j = id then Q .normal a2 w2 else Q (.exit j) a2 w2)
        rw [if_pos hj]
        exact hK a2 w2 I2 β2 hs2 hst2 hk2
      · rename_i hj
        cases h
        refine ⟨hx'.le, hx'.old, fun I β a w Q hs hfr hK => wp_block (hx'.wp I β a w _ hs hfr ?_)⟩
        intro a2 w2 I2 β2 hs2 hst2 hk2
        show (if j = id then Q .normal a2 w2 else Q (.exit j) a2 w2)
        rw [if_neg hj]
        exact hK a2 w2 I2 β2 hs2 hst2 hk2
    · rename_i hne
      have hx := ih hd h
      refine ⟨hx.le, hx.old, fun I β a w Q hs hfr hK => wp_block (hx.wp I β a w _ hs hfr ?_)⟩
      cases ex with
      | normal => exact hK
      | exit id => exact absurd h (hne id st')
      | ret => exact hK
  | loop x ih =>
    intro st st' ex hd h
    unfold dstOk at hd
    unfold codeA at h
    have key : ∀ (n : Nat) (st st' : St) (ex : Ex), loopA (codeA C call k f x) n st = some (ex, st') →
        st.nx ≤ st'.nx ∧ Olds st st' (fun n => st.nx ≤ n ∧ n < st'.nx) ∧ ∀ I β a w (Q : Exit → Act → World → Prop), SR N I β st a w → FrIn β st.nx st'.nx →
          Then N I β st w (fun n => st.nx ≤ n ∧ n < st'.nx) st' (Q ex.out) → Code.rounds C.P x Q n a w := by
      intro n
      induction n with
      | zero => intro st st' ex h; cases h
      | succ n ihn =>
        intro st st' ex h
        unfold loopA at h
        split at h
        · rename_i st1 hx
          have hx' := ih hd hx
          obtain ⟨l1, l2, l3⟩ := ihn _ _ _ h
          have l0 := hx'.le
          refine ⟨Nat.le_trans l0 l1, hx'.old.trans l2 (fun n hn => ⟨hn.1, by omega⟩) fun n hn => ⟨by omega, hn.2⟩, fun I β a w Q hs hfr hK => ?_⟩
          rw [rounds_succ]
          refine hx'.wp I β a w _ hs (fun n hn1 hn2 => hfr n hn1 (by omega)) fun aa wa Ia βa hsa hsta hka => ?_
          refine l3 Ia βa aa wa Q hsa (fun n hn1 hn2 => hka n (hfr n (by omega) hn2) fun hn => by omega) ?_
          exact hK.step hsta hka (fun n hn => ⟨hn.1, by omega⟩) fun n hn => ⟨by omega, hn.2⟩
        · rename_i hne
          have hx := ih hd h
          refine ⟨hx.le, hx.old, fun I β a w Q hs hfr hK => ?_⟩
          rw [rounds_succ]
          refine hx.wp I β a w _ hs hfr ?_
          cases ex with
          | normal => exact absurd h (hne st')
          | exit id => exact hK
          | ret => exact hK
    obtain ⟨l1, l2, l3⟩ := key k st st' ex h
    exact ⟨l1, l2, fun I β a w Q hs hfr hK => wp_loop_rounds k (l3 I β a w Q hs hfr hK)⟩
  | exit id => intro st st' ex _ h; unfold codeA at h; cases h; exact .here fun Q a w => wp_exit
  | ret => intro st st' ex _ h; unfold codeA at h; cases h; exact .here fun Q a w => wp_ret
  | _ => intro st st' ex _ h; unfold codeA at h; cases h

end
end Ab
end Go.Proofs.YtidoflgcblglbaaDoor

/-
  DERIVED. A FUNCTION AND A CALL.
  Conditions: none of a program's.
-/
namespace Go.Proofs.YtidoflgcblglbaaDoor
namespace Ab
variable [WX]

section
variable {C : Cfg}

theorem lk_enterA (args : List AV) : ∀ (j t : Nat) (x : AV), lk (enterA args j) t = some x → j ≤ t ∧ args[t - j]? = some x := by
  induction args with
  | nil => intro j t x h; cases h
  | cons y r ih =>
    intro j t x h
    simp only [enterA, lk] at h
    split at h
    · rename_i hj; cases h; subst hj; exact ⟨Nat.le_refl _, by simp⟩
    · obtain ⟨h1, h2⟩ := ih (j + 1) t x h
      refine ⟨by omega, ?_⟩
      rw [show t - j = (t - (j + 1)) + 1 by omega, List.getElem?_cons_succ]
      exact h2

theorem enter_SR {N : Nat} {I : Nat → Prop} {β : BMap} {w : World} {vals : Array Value} {args : List AV} {hp : Hp} {nx : Nat} (hs : Sim I β (hget hp) w) (ha : Args I w β vals args) (hN : args.length ≤ N) :
    SR N I β { env := enterA args 0, loc := [], hp := hp, nx := nx } { tmps := vals ++ Array.replicate (N - vals.size) undef, defers := [] } w ∧
      ({ env := enterA args 0, loc := [], hp := hp, nx := nx } : St).get = hget hp := by
  have hg : ({ env := enterA args 0, loc := [], hp := hp, nx := nx } : St).get = hget hp := by
    funext r
    cases r <;> rfl
  refine ⟨⟨fun t x hx => ?_, by rw [hg]; exact hs, ?_, rfl⟩, hg⟩
  · obtain ⟨_, h2⟩ := lk_enterA args 0 t x hx
    simp only [Nat.sub_zero] at h2
    have hlt : t < vals.size := by rw [ha.1]; exact (List.getElem?_eq_some_iff.1 h2).1
    have hv : vals[t]? = some vals[t] := Array.getElem?_eq_getElem hlt
    have := ha.2 t _ x hv h2
    simp only [Array.getD_eq_getD_getElem?, Array.getElem?_append_left hlt, hv, Option.getD_some]
    exact this
  · have := ha.1
    simp only [Array.size_append, Array.size_replicate]; omega

/-- What a result's variable holds. -/
def resF (tmps : Array Value) : ResultVar → Sem Value
  | .tmp t => pure (tmps.getD t undef)
  | .cell c t => do loadVar t (← asAddr (tmps.getD c undef))

theorem resA_sound {N : Nat} {I : Nat → Prop} {β : BMap} {st : St} {a : Act} {w : World} (hs : SR N I β st a w) : ∀ (l : List ResultVar) {r : List AV}, resA C st l = some r → ∃ vs : List Value,
    (l.mapM (resF a.tmps)).run C.P w = .ok vs w ∧ vs.length = r.length ∧ ∀ (j : Nat) (v : Value) (x : AV), vs[j]? = some v → r[j]? = some x → RV I w β v x
  | [], r, h => by unfold resA at h; cases h; exact ⟨[], by simp, rfl, fun j v x hv => by simp at hv⟩
  | .tmp t :: l, r, h => by
    unfold resA at h
    split at h
    · simp only [Option.map_eq_some_iff] at h
      obtain ⟨r1, hr, rfl⟩ := h
      obtain ⟨vs, h1, h2, h3⟩ := resA_sound hs l hr
      refine ⟨a.tmps.getD t undef :: vs, ?_, by simp [h2], fun j v x hv hx => ?_⟩
      · rw [List.mapM_cons]
        simp only [resF, pure_bind, Sem.run_bind, h1, Sem.run_pure, Result.andThen]
      · cases j with
        | zero =>
          simp only [List.getElem?_cons_zero, Option.some.injEq] at hv hx
          subst hv hx
          exact hs.ev (.tmp t)
        | succ j =>
          simp only [List.getElem?_cons_succ] at hv hx
          exact h3 j v x hv hx
    · cases h
  | .cell c t :: l, r, h => by
    unfold resA at h
    split at h
    · rename_i y hy
      simp only [Option.map_eq_some_iff] at h
      obtain ⟨r1, hr, rfl⟩ := h
      obtain ⟨vs, h1, h2, h3⟩ := resA_sound hs l hr
      obtain ⟨v, hv, hvr⟩ := loadA_sound hs.sim (hs.ev (.tmp c)) hy
      have hv' : (resF a.tmps (.cell c t)).run C.P w = .ok v w := by
        show (do loadVar t (← asAddr (a.tmps.getD c undef)) : Sem Value).run C.P w = .ok v w
        have he : a.eval (.tmp c) = a.tmps.getD c undef := rfl
        rw [he] at hv
        generalize a.tmps.getD c undef = x at hv
        unfold Instr.loadAt at hv
        cases x with
        | pointer p => cases p with
          | some q => simpa [Instr.sureAddr, asAddr] using hv
          | none => simp [Instr.sureAddr, stuck] at hv
        | _ => simp [Instr.sureAddr, stuck] at hv
      refine ⟨v :: vs, ?_, by simp [h2], fun j u x hu hx => ?_⟩
      · rw [List.mapM_cons]
        rw [Sem.run_bind, hv']
        simp only [Sem.run_bind, h1, Sem.run_pure, Result.andThen]
      · cases j with
        | zero =>
          simp only [List.getElem?_cons_zero, Option.some.injEq] at hu hx
          subst hu hx
          exact hvr
        | succ j =>
          simp only [List.getElem?_cons_succ] at hu hx
          exact h3 j u x hu hx
    · cases h

theorem results_sound {N : Nat} {I : Nat → Prop} {β : BMap} {st : St} {a : Act} {w : World} {fn : Func} {l : List AV} (hs : SR N I β st a w) (h : resA C st fn.results.toList = some l) :
    ∃ v, (results fn a.tmps).run C.P w = .ok v w ∧ RV I w β v (one l) := by
  obtain ⟨vs, h1, h2, h3⟩ := resA_sound hs _ h
  refine ⟨if hz : vs.toArray.size = 1 then vs.toArray[0] else .tuple vs.toArray, ?_, ?_⟩
  · have : results fn a.tmps = (do let vs ← fn.results.mapM (resF a.tmps); pure (if h : vs.size = 1 then vs[0] else .tuple vs)) := rfl
    rw [this, Array.mapM_eq_mapM_toList, Sem.run_bind, map_eq_pure_bind, Sem.run_bind, h1]
    simp only [Sem.run_pure, Result.andThen]
  · match vs, l, h2, h3 with
    | [], [], _, _ => exact .tup _ #[] [] rfl (fun j v x hv => by simp at hv)
    | [v], [x], _, h3 => exact h3 0 v x rfl rfl
    | v1 :: v2 :: vs, x1 :: x2 :: xs, h2, h3 =>
      simp only [List.size_toArray, List.length_cons] at h2 ⊢
      rw [dif_neg (by omega)]
      refine .tup _ _ _ (by simpa using h2) fun j v x hv hx => h3 j v x (by simpa using hv) hx

theorem run_ex {call : CallT} {f : FuncId} {fn : Func} {c : Code} {k : Nat} {args : List AV} {hp hp' : Hp} {nx nx' : Nat} {r : AV} (okc : Ok C fn.ntmps call) (hm : C.P.follows .mixedOrders = true) (hfn : C.P.funcs[f]? = some fn) (hc : fn.body = some c) (hd : dstOk fn.ntmps c = true) (hlen : args.length ≤ fn.ntmps)
    {ex : Ex} {st : St} (hcode : codeA C call k f c { env := enterA args 0, loc := [], hp := hp, nx := nx } = some (ex, st)) (hex : ex = .normal ∨ ex = .ret) (hres : (resA C st fn.results.toList).map (fun l => (one l, st.hp, st.nx)) = some (r, hp', nx')) :
    nx ≤ nx' ∧ (∀ k g o, lkg hp' k g = some o → (∃ g' o', lkg hp k g' = some o') ∨ (nx ≤ k ∧ k < nx')) ∧ (∃ fn c, C.P.funcs[f]? = some fn ∧ fn.body = some c) ∧
    ∀ I β w vals, Sim I β (hget hp) w → FrIn β nx nx' → Args I w β vals args →
      Calls C.P f vals w fun e w' => ∃ v I' β', e = .returned v ∧ RV I' w' β' v r ∧ Sim I' β' (hget hp') w' ∧ Step I β (hget hp) w I' β' (hget hp') w' ∧ Keeps (fun n => nx ≤ n ∧ n < nx') β β' := by
  have hR := codeA_sound okc hm c hd hcode
  simp only [Option.map_eq_some_iff, Prod.mk.injEq] at hres
  obtain ⟨l, hl, rfl, rfl, rfl⟩ := hres
  refine ⟨hR.le, hR.old, ⟨fn, c, hfn, hc⟩, fun I β w vals hs hfr ha => ?_⟩
  obtain ⟨hSR, hg⟩ := enter_SR hs ha hlen
  refine calls_of_wp hfn hc ?_
  refine hR.wp I β _ w _ hSR hfr fun a' w' I' β' hs' hst' hk' => ?_
  obtain ⟨v, hv, hvr⟩ := results_sound hs' hl
  have hsub : ∀ q o, hget st.hp q = some o → st.get q = some o := fun q o hq => by
    cases q with
    | h k g => exact hq
    | l d n => cases hq
  have hb : a'.defers = [] ∧ ∃ v, (results fn a'.tmps).run C.P w' = .ok v w' ∧ ∃ v2 I' β', Ending.returned v = .returned v2 ∧ RV I' w' β' v2 (one l) ∧ Sim I' β' (hget st.hp) w' ∧ Step I β (hget hp) w I' β' (hget st.hp) w' ∧
      Keeps (fun n => nx ≤ n ∧ n < st.nx) β β' := by
    refine ⟨hs'.defers, v, hv, v, I', β', rfl, hvr, hs'.sim.sub hsub, ?_, hk'⟩
    rw [hg] at hst'
    exact ⟨hst'.hI, hst'.hβ, hst'.keep, fun b ⟨q, o, p, q1, q2, q3⟩ => hst'.own b ⟨q, o, p, hsub q o q1, q2, q3⟩, hst'.new⟩
  rcases hex with rfl | rfl
  · exact hb
  · exact hb

theorem runA_sound {call : CallT} (okc : ∀ N, Ok C N call) (hm : C.P.follows .mixedOrders = true) (hd : ∀ (f : FuncId) (fn : Func) (c : Code), C.P.funcs[f]? = some fn → fn.body = some c → dstOk fn.ntmps c = true) (k : Nat) : CallOk C.P (runA C call k) := by
  intro f args hp nx r hp' nx' h
  unfold runA at h
  split at h
  · rename_i fn hfn
    split at h
    · rename_i c hc
      split at h
      · rename_i hlen
        split at h
        · rename_i st hcode; exact run_ex (okc fn.ntmps) hm hfn hc (hd f fn c hfn hc) hlen hcode (.inl rfl) h
        · rename_i st hcode; exact run_ex (okc fn.ntmps) hm hfn hc (hd f fn c hfn hc) hlen hcode (.inr rfl) h
        · cases h
      · cases h
    · cases h
  · cases h

/-- A program of which the closed facts hold. -/
structure Fit (C : Cfg) : Prop where
  intr : IntrOk C
  name : ∀ (f : FuncId) (fn : Func), C.P.funcs[f]? = some fn → (fn.name == "runtime.NumGoroutine") = false
  mixed : C.P.follows .mixedOrders = true
  dst : ∀ (f : FuncId) (fn : Func) (c : Code), C.P.funcs[f]? = some fn → fn.body = some c → dstOk fn.ntmps c = true
  hint : ∀ f h, C.hint f = some h → CallOk C.P fun g args hp nx => if g = f then h args hp nx else none

theorem callA_sound (fit : Fit C) (k : Nat) : ∀ n, CallOk C.P (callA C k n)
  | 0 => fun f args hp nx r hp' nx' h => by cases h
  | n + 1 => fun f args hp nx r hp' nx' h => by
    unfold callA at h
    split at h
    · rename_i hh hf
      exact fit.hint f hh hf f args hp nx r hp' nx' (by simpa using h)
    · exact runA_sound (fun _ => ⟨callA_sound fit k n, fit.intr, fit.name⟩) fit.mixed fit.dst k f args hp nx r hp' nx' h

end
end Ab
end Go.Proofs.YtidoflgcblglbaaDoor

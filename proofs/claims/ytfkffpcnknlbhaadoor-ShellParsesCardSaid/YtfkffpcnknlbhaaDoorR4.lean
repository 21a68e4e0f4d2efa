/-
  DERIVED. lockstepref30.Lines, shell.words: what they come to.
  Conditions: texts shorter than the rounds that are let.
-/
import Derived.Test.YtfkffpcnknlbhaaDoorR3
set_option linter.all false
set_option maxHeartbeats 4000000
namespace Go.Proofs.YtfkffpcnknlbhaaDoor
namespace Ab
set_option maxRecDepth 100000
set_option maxHeartbeats 4000000
attribute [local simp] appendA appRow newsA rowsSz rowsOf isIntD makeSliceA elemOf rowsBuilt

theorem lk_set {α : Type} (l : List (Nat × α)) (k j : Nat) (x : α) : lk (up l k x) j = if j = k then some x else lk l j := by
  induction l with
  | nil =>
    by_cases h : j = k
    · simp [up, lk, h]
    · simp [up, lk, h, Ne.symm h]
  | cons y r ih =>
    obtain ⟨i, z⟩ := y
    by_cases h : i = k
    · subst h
      by_cases h2 : i = j
      · simp [up, lk, h2]
      · simp [up, lk, h2, Ne.symm h2]
    · by_cases h2 : i = j
      · subst h2
        simp [up, lk, h]
      · simp only [up, if_neg h, lk, if_neg h2, ih]
theorem mostB : mostBytes = 68719476736 := by decide

/-- A list that is being built: none yet, or an object of its own. -/
def SVal (sz : Nat) (hp : Hp) (nx : Nat) (v : AV) (rows : List (List AV)) : Prop :=
  (rows = [] ∧ v = .vs true 0 []) ∨ ∃ k g, v = .rs k g 0 rows.length sz ∧ lk hp k = some (g, .arr sz rows) ∧ k < nx ∧ rows ≠ []
/-- It, frozen. -/
def vsOf (sz : Nat) (rows : List (List AV)) : AV := if rows = [] then .vs true 0 [] else .vs false sz rows
def txts (l : List Bs) : List (List AV) := l.map fun x => [.s (ba x)]
theorem txts_len (l : List Bs) : (txts l).length = l.length := by simp [txts]
theorem txts_snoc (l : List Bs) (x : Bs) : txts l ++ [[.s (ba x)]] = txts (l ++ [x]) := by simp [txts]
theorem SVal.keep {sz : Nat} {hp hp' : Hp} {nx nx' : Nat} {v : AV} {rows : List (List AV)} (h : SVal sz hp nx v rows) (hn : nx ≤ nx') (hs : ∀ j, j < nx → lk hp' j = lk hp j) : SVal sz hp' nx' v rows := by
  rcases h with h | ⟨k, g, e1, e2, e3, e4⟩
  · exact .inl h
  · exact .inr ⟨k, g, e1, by rw [hs k e3]; exact e2, by omega, e4⟩

theorem mapO_self {α : Type} {f : α → Option α} : ∀ {l : List α}, (∀ x ∈ l, f x = some x) → mapO f l = some l
  | [], _ => rfl
  | x :: l, h => by
    unfold mapO
    rw [h x List.mem_cons_self, mapO_self fun y hy => h y (List.mem_cons_of_mem _ hy)]
    rfl
theorem frz_txts {get : Ref → Option AO} {n : Nat} (l : List Bs) : mapO (mapO (frz get (n + 1))) (txts l) = some (txts l) := by
  refine mapO_self fun x hx => ?_
  simp only [txts, List.mem_map] at hx
  obtain ⟨y, _, rfl⟩ := hx
  simp
theorem frz_sval {get : Ref → Option AO} {hp : Hp} {nx n : Nat} {v : AV} {l : List Bs} (h : SVal 1 hp nx v (txts l)) (hg : ∀ k g, get (.h k g) = lkg hp k g) : frz get (n + 2) v = some (vsOf 1 (txts l)) := by
  rcases h with ⟨e1, rfl⟩ | ⟨k, g, rfl, e2, e3, e4⟩
  · simp [vsOf, e1]
  · simp [hg, e2, rowsOf, frz_txts, vsOf, e4]

theorem hd_app (a b : Bs) (h : a.all (· != 10) = true) : hd 10 (a ++ 10 :: b) = a ∧ tl 10 (a ++ 10 :: b) = b := by
  induction a with
  | nil => simp [hd, tl]
  | cons x a ih =>
    rw [List.all_cons, Bool.and_eq_true] at h
    have := ih h.2
    simp only [hd, tl, List.cons_append, List.takeWhile_cons, List.dropWhile_cons, h.1, if_true]
    refine ⟨?_, this.2⟩
    have h2 := this.1
    unfold hd at h2
    rw [h2]
theorem hd_all (a : Bs) (h : a.all (· != 10) = true) : hd 10 a = a ∧ tl 10 a = [] := by
  refine hd_none 10 a ?_
  cases hc : a.contains 10
  · rfl
  · have : (10 : UInt8) ∈ a := by simpa using hc
    have := List.all_eq_true.1 h _ this
    simp at this
theorem linesF_fuel : ∀ (n m : Nat) (l : Bs), l.length ≤ n → l.length ≤ m → linesF n l = linesF m l
  | 0, m, l, h, _ => by
    obtain rfl : l = [] := List.length_eq_zero_iff.1 (by omega)
    cases m <;> simp [linesF]
  | n + 1, 0, l, _, h => by
    obtain rfl : l = [] := List.length_eq_zero_iff.1 (by omega)
    simp [linesF]
  | n + 1, m + 1, l, h1, h2 => by
    unfold linesF
    by_cases h : l = []
    · simp [h]
    · have := tl_lt 10 l h
      simp only [h, if_false]
      rw [linesF_fuel n m (tl 10 l) (by omega) (by omega)]
theorem linesOf_step (l : Bs) (h : l ≠ []) : linesOf l = hd 10 l :: linesOf (tl 10 l) := by
  unfold linesOf
  obtain ⟨n, hn⟩ : ∃ n, l.length = n + 1 := ⟨l.length - 1, by have := List.length_pos_iff.2 h; omega⟩
  have := tl_lt 10 l h
  rw [hn]
  show (if l = [] then [] else hd 10 l :: linesF n (tl 10 l)) = _
  rw [if_neg h, linesF_fuel n (tl 10 l).length (tl 10 l) (by omega) (by omega)]
theorem linesOf_nil : linesOf [] = [] := rfl

theorem run7 (call : CallT) (k : Nat) (l : Bs) (hl : l.length < 2 ^ 20) (hk : l.length < k) : Ends cfg call k 7 [.s (ba l)] [] 0 fun r hp nx => SVal 1 hp nx r (txts (linesOf l)) := by
  refine run_wp Tryd.func7 rfl (by simp [Tryd.f7]) ?_
  simp
  refine loop_wp (ι := Nat × Nat × Nat × AV × Hp × List Bs) (fun i => { env := [(0, .s (ba l)), (3, i.2.2.2.1), (4, .i .i64 (i.2.2.1 : Nat)), (5, .i .i64 (i.1 : Nat))], loc := [], hp := i.2.2.2.2.1, nx := i.2.1 }) (fun i => l.length - i.1)
    (fun i => i.1 ≤ l.length ∧ i.2.2.1 ≤ i.1 ∧ SVal 1 i.2.2.2.2.1 i.2.1 i.2.2.2.1 (txts i.2.2.2.2.2) ∧ i.2.2.2.2.2.length ≤ i.1 ∧ i.2.2.2.2.2 ++ linesOf (l.drop i.2.2.1) = linesOf l ∧ ((l.drop i.2.2.1).take (i.1 - i.2.2.1)).all (· != 10) = true) (0, _, 0, .vs true 0 [], [], []) rfl ⟨Nat.zero_le _, Nat.zero_le _, .inl ⟨rfl, rfl⟩, Nat.zero_le _, by simp, by simp⟩ (by simpa using hk) ?_
  rintro Next ⟨i, nx, fr, v, hp, L⟩ ⟨hi0, hfr, hv, hL, hlin, hall⟩ hnext
  simp only at hi0 hfr hv hL hlin hall hnext ⊢
  by_cases hi : i < l.length
  · obtain ⟨x, hx, hd⟩ := at_get hi
    have c1 : (i : Int) < l.length := by omega
    have c2 : (0 : Int) ≤ i := by omega
    have c3 : IntKind.i64.wrap ((i : Int) + 1) = i + 1 := wrap_i64 (by omega) (by omega)
    have hsnoc : (l.drop fr).take (i + 1 - fr) = (l.drop fr).take (i - fr) ++ [x] := by
      have e1 : i + 1 - fr = (i - fr) + 1 := by omega
      rw [e1, List.take_add_one, List.getElem?_drop, show fr + (i - fr) = i by omega, hx]
      rfl
    have hsplit : l.drop fr = (l.drop fr).take (i - fr) ++ x :: l.drop (i + 1) := by
      conv => lhs; rw [← drop_split l fr i hfr, hd]
    by_cases h10 : x = 10
    · have g := byte_eq (c := 10) (n := 10) rfl h10
      subst h10
      have h3 := hd_app _ (l.drop (i + 1)) hall
      rw [← hsplit] at h3
      have hne : l.drop fr ≠ [] := by rw [hsplit]; simp
      have hlin2 : (L ++ [(l.drop fr).take (i - fr)]) ++ linesOf (l.drop (i + 1)) = linesOf l := by
        rw [← hlin, linesOf_step _ hne, h3.1, h3.2, List.append_assoc]; rfl
      have c4 : (0 : Int) ≤ fr := by omega
      have d1 : (L.length + 1) * 17 ≤ 68719476736 := by omega
      rcases hv with ⟨e1, rfl⟩ | ⟨kk, gg, rfl, e2, e3, e4⟩
      · have e1' : L = [] := by simpa [txts] using e1
        subst e1'
        simp [mostB, Nat.add_assoc, lk_set, c1, c2, c3, c4, hx, g, hfr, hi0, ba_cut]
        exact hnext (i + 1, _, i + 1, .rs (nx + 14) 0 0 1 1, _, [] ++ [(l.drop fr).take (i - fr)]) (by simp only; omega) ⟨hi, Nat.le_refl _, .inr ⟨nx + 14, 0, rfl, by simp [lk_set, txts], by simp only; omega, by simp [txts]⟩, by simp, hlin2, by simp⟩
      · have f1 : ∀ c, ¬ kk = nx + c := fun c => by omega
        have f2 : ∀ c, ¬ nx + c = kk := fun c => by omega
        simp [mostB, Nat.add_assoc, lk_set, c1, c2, c3, c4, hx, g, hfr, hi0, ba_cut, e2, f1, f2, txts_len, d1]
        exact hnext (i + 1, _, i + 1, .rs kk (gg + 1) 0 (L.length + 1) 1, _, L ++ [(l.drop fr).take (i - fr)]) (by simp only; omega) ⟨hi, Nat.le_refl _, .inr ⟨kk, gg + 1, by simp [txts], by simp [lk_set, txts], by simp only; omega, by simp [txts]⟩, by simp; omega, hlin2, by simp⟩
    · have g := byte_ne (c := 10) (n := 10) rfl h10
      simp [Nat.add_assoc, c1, c2, c3, hx, g]
      refine hnext (i + 1, _, fr, v, hp, L) (by simp only; omega) ⟨hi, by simp only; omega, hv.keep (by simp only; omega) fun _ _ => rfl, by simp only; omega, hlin, ?_⟩
      simp only
      rw [hsnoc, List.all_append, hall]
      simp [h10]
  · obtain rfl : i = l.length := by omega
    rw [tail_take] at hall
    have h3 := hd_all _ hall
    by_cases h5 : fr < l.length
    · have c5 : (fr : Int) < l.length := by omega
      have c4 : (0 : Int) ≤ fr := by omega
      have hne : l.drop fr ≠ [] := by
        intro h
        have := congrArg List.length h
        simp at this
        omega
      have hlin2 : L ++ [l.drop fr] = linesOf l := by
        rw [← hlin, linesOf_step _ hne, h3.1, h3.2]; rfl
      have d1 : (L.length + 1) * 17 ≤ 68719476736 := by omega
      rcases hv with ⟨e1, rfl⟩ | ⟨kk, gg, rfl, e2, e3, e4⟩
      · have e1' : L = [] := by simpa [txts] using e1
        subst e1'
        simp [mostB, Nat.add_assoc, lk_set, c4, c5, hfr, ba_cut, tail_take]
        refine .inr ⟨nx + 13, 0, ?_, ?_, ?_, ?_⟩
        · rw [← hlin2]; rfl
        · rw [← hlin2, lk_set, if_pos rfl]; rfl
        · omega
        · rw [← hlin2]; simp [txts]
      · have f1 : ∀ c, ¬ kk = nx + c := fun c => by omega
        have f2 : ∀ c, ¬ nx + c = kk := fun c => by omega
        simp [mostB, Nat.add_assoc, lk_set, c4, c5, hfr, ba_cut, tail_take, e2, f1, f2, txts_len, d1]
        refine .inr ⟨kk, gg + 1, ?_, ?_, ?_, ?_⟩
        · rw [← hlin2]; simp [txts]
        · rw [← hlin2, lk_set, if_pos rfl]; simp [txts]
        · omega
        · rw [← hlin2]; simp [txts]
    · obtain rfl : fr = l.length := by omega
      rw [List.drop_of_length_le (Nat.le_refl _), linesOf_nil, List.append_nil] at hlin
      rw [← hlin]
      rcases hv with ⟨e1, rfl⟩ | ⟨kk, gg, rfl, e2, e3, e4⟩
      · simp [Nat.add_assoc]
        exact .inl ⟨e1, rfl⟩
      · simp [Nat.add_assoc]
        exact .inr ⟨kk, gg, rfl, e2, by omega, e4⟩

end Ab
end Go.Proofs.YtfkffpcnknlbhaaDoor

/-
  DERIVED. What a call lays beside, its heap unknown; sums of places.
  Conditions: none of a program's.
-/
import Derived.Test.YtidoflgcblglbaaDoorWJ
import Derived.Test.YtidoflgcblglbaaDoorTA
set_option linter.all false
set_option maxHeartbeats 4000000
namespace Go.Proofs.YtidoflgcblglbaaDoor
namespace Ab
open Go.Lib
set_option maxRecDepth 100000
set_option maxHeartbeats 4000000
set_option linter.all false

/-- What a call laid, as writes; a heap with it laid beside. -/
def layW (hp : Hp) : List Wr := hp.reverse.map (fun x => (.h x.1 x.2.1, some x.2.2))
def layH (h0 hp : Hp) : Hp := hp.foldr (fun x acc => up acc x.1 x.2) h0
theorem foldl_layW {st : St} {hp : Hp} : List.foldl St.wr1 st (layW hp) = { env := st.env, loc := st.loc, hp := layH st.hp hp, nx := st.nx } := by
  unfold layW layH
  rw [List.foldl_map, List.foldl_reverse]
  induction hp with
  | nil => rfl
  | cons x hp ih =>
    rw [List.foldr_cons, List.foldr_cons, ih]
    rfl
theorem lk_layH {h0 hp : Hp} {j : Nat} : lk (layH h0 hp) j = match lk hp j with
    | some x => some x
    | none => lk h0 j := by
  unfold layH
  induction hp with
  | nil => rfl
  | cons x hp ih =>
    obtain ⟨k, y⟩ := x
    rw [List.foldr_cons, lk_set]
    simp only [lk]
    by_cases e : j = k
    · subst e; simp
    · rw [if_neg e, if_neg (fun h => e h.symm), ih]
theorem lay_new {h0 hp : Hp} {j : Nat} {x : Nat × AO} (h : lk hp j = some x) : lk (layH h0 hp) j = some x := by rw [lk_layH, h]
theorem lay_low {h0 hp : Hp} {N N' j : Nat} (hk : ∀ j x, lk hp j = some x → N ≤ j ∧ j < N') (hj : j < N) : lk (layH h0 hp) j = lk h0 j := by
  rw [lk_layH]
  cases h : lk hp j with
  | none => rfl
  | some x => have := hk j x h; omega
theorem lay_keys {h0 hp : Hp} {n0 N N' : Nat} (h0k : ∀ j x, lk h0 j = some x → n0 ≤ j ∧ j < N) (hk : ∀ j x, lk hp j = some x → N ≤ j ∧ j < N') (hn : n0 ≤ N) (hN : N ≤ N') : ∀ j x, lk (layH h0 hp) j = some x → n0 ≤ j ∧ j < N' := by
  intro j x h
  rw [lk_layH] at h
  cases h2 : lk hp j with
  | none => rw [h2] at h; have := h0k j x h; omega
  | some y => have := hk j y h2; omega
theorem besideE_lay {dst : Option Nat} {Q : Eff → Nat → Prop} {r : AV} {hp : Hp} {n : Nat} : besideE dst Q r hp n = Q ⟨dst, r, layW hp, none, some []⟩ n := rfl
theorem f_lay {call : CallT} {st : St} {nx nx' : Nat} {dst : Option Nat} {g : FuncId} {args args' : List AV} {r : AV} {hp : Hp} {Q : Eff → Nat → Prop} (hf : mapO (frz st.get frzDepth) args = some args') (hc : call g args' [] nx = some (r, hp, nx'))
    (hr : nov r = true) (hn : NovH hp) (hq : Q ⟨dst, r, layW hp, none, none⟩ nx') : oW (fCall call st nx dst g args) Q := by
  refine f_use hf hc ?_ hq
  rw [hr, Bool.true_and, List.all_eq_true]
  exact hn
theorem f_sp {K n : Nat} {st : St} {nx : Nat} {dst : Option Nat} {g : FuncId} {args args' : List AV} {Q : Eff → Nat → Prop} {P : AV → Hp → Nat → Prop} (hf : mapO (frz st.get frzDepth) args = some args') (h : Sp K n g args' [] nx P)
    (hq : ∀ r hp n', P r hp n' → nov r = true ∧ NovH hp ∧ Q ⟨dst, r, layW hp, none, none⟩ n') : oW (fCall (callA cfg K n) st nx dst g args) Q := by
  obtain ⟨r, hp, n', h1, h2⟩ := h
  obtain ⟨q1, q2, q3⟩ := hq _ _ _ h2
  exact f_lay hf h1 q1 q2 q3

theorem sum_le : ∀ {a b : List Nat}, a.length = b.length → (∀ i, nAt a i ≤ nAt b i) → a.sum ≤ b.sum
  | [], [], _, _ => Nat.le_refl _
  | [], _ :: _, h, _ => by simp at h
  | _ :: _, [], h, _ => by simp at h
  | x :: a, y :: b, h, hi => by
    have h0 := hi 0
    have := sum_le (a := a) (b := b) (by simpa using h) fun i => by simpa [nAt] using hi (i + 1)
    simp [nAt] at h0
    simp
    omega
theorem sum_set1 : ∀ {a : List Nat} {i : Nat}, i < a.length → (a.set i (nAt a i + 1)).sum = a.sum + 1
  | [], i, h => by simp at h
  | x :: a, 0, _ => by simp [nAt]; omega
  | x :: a, i + 1, h => by
    have := sum_set1 (a := a) (i := i) (by simpa using h)
    have e : nAt (x :: a) (i + 1) = nAt a i := by simp [nAt]
    rw [e, List.set_cons_succ, List.sum_cons, this, List.sum_cons]
    omega
theorem bump_sum : ∀ (l : List Int) (a : List Nat), (∀ p ∈ l, 0 ≤ p ∧ p < (a.length : Int)) → (bump a l).sum = a.sum + l.length
  | [], a, _ => by simp [bump]
  | p :: l, a, h => by
    have hp := h p List.mem_cons_self
    rw [bump, bump_sum l _ (fun x hx => by simpa using h x (List.mem_cons_of_mem _ hx)), sum_set1 (by omega)]
    simp
    omega
theorem bump_snoc : ∀ (l : List Int) (a : List Nat) (p : Int), bump a (l ++ [p]) = (bump a l).set p.toNat (nAt (bump a l) p.toNat + 1)
  | [], a, p => rfl
  | q :: l, a, p => by rw [List.cons_append, bump, bump_snoc l]; rfl
/-- Records laid as a slice, or none. -/
def RecsO (H : Hp) (nx N : Nat) (v : AV) (B : List Rec) : Prop := (B = [] ∧ v = .vs true 0 []) ∨ ∃ kn g rows, v = .rs kn g 0 B.length 6 ∧ lk H kn = some (g, .arr 6 rows) ∧ rows.length = B.length ∧ (∀ (j : Nat) (c : List AV) (r : Rec), rows[j]? = some c → B[j]? = some r → RecC c r) ∧ nx ≤ kn ∧ kn < N
theorem chk_fits {logs : Logs} (h0 : chk logs = 0) : 1 ≤ logs.length ∧ Fits logs ∧ (∀ (i k : Nat) (r : Rec), (logAt logs i)[k]? = some r → CanR r) := by
  unfold chk at h0
  split at h0
  · cases h0
  · rename_i h1
    split at h0
    · cases h0
    · rename_i h3
      split at h0
      · rename_i h2
        refine ⟨by omega, h2, fun i k r hr => ?_⟩
        apply Classical.byContradiction
        intro hc
        exact h3 ⟨_, List.mem_of_getElem? (logAt_some hr), r, List.mem_of_getElem? hr, hc⟩
      · cases h0

end Ab
end Go.Proofs.YtidoflgcblglbaaDoor

/-
  DERIVED. Records laid on the heap, apart from one another: what told, Order, Behind speak of.
  Conditions: none of a program's.
-/
namespace Go.Proofs.YtidoflgcblglbaaDoor
namespace Ab
open Go.Lib
set_option maxRecDepth 100000
set_option maxHeartbeats 4000000
set_option linter.all false

def LstP (nn : Bool) (H : Hp) (lo N : Nat) (v : AV) (l : List Int) : Prop := (∃ a g, v = .rs a g 0 l.length 1 ∧ lk H a = some (g, .arr 1 (ints l)) ∧ lo ≤ a ∧ a < N) ∨ (nn = true ∧ l = [] ∧ v = .vs true 0 [])
def LstV (nn : Bool) (H : Hp) (lo N : Nat) (v : AV) (l : List Val) : Prop := (∃ a g, v = .rs a g 0 l.length 3 ∧ lk H a = some (g, .arr 3 (valRows l)) ∧ lo ≤ a ∧ a < N) ∨ (nn = true ∧ l = [] ∧ v = .vs true 0 [])
/-- A record's row, its lists on the heap. -/
def RowG (nn : Bool) (H : Hp) (lo N : Nat) (c : List AV) (r : Rec) : Prop := ∃ p q, c = [.i .u64 (r.id : Nat), .i .u64 (r.client : Nat), .i .u64 (r.seq : Nat), p, .s r.proc, q] ∧ LstP nn H lo N p r.parts ∧ LstV nn H lo N q r.args
/-- The object of a row's last list. -/
def argO : List AV → Option Nat
  | [_, _, _, _, _, .rs b _ _ _ _] => some b
  | _ => none
def ApartR (rows : List (List AV)) : Prop := rows.Pairwise fun c c' => ∀ b, argO c = some b → argO c' ≠ some b
def RowsG (nn : Bool) (H : Hp) (lo N : Nat) (v : AV) (l : List Rec) : Prop := (l = [] ∧ v = .vs true 0 []) ∨ ∃ kn g rows, v = .rs kn g 0 l.length 6 ∧ lk H kn = some (g, .arr 6 rows) ∧ rows.length = l.length ∧ (∀ (j : Nat) (c : List AV) (r : Rec), rows[j]? = some c → l[j]? = some r → RowG nn H lo N c r) ∧ ApartR rows ∧ lo ≤ kn ∧ kn < N
theorem LstP.keep {nn : Bool} {H H' : Hp} {lo N N' : Nat} {v : AV} {l : List Int} (h : LstP nn H lo N v l) (hk : ∀ j, lo ≤ j → j < N → (∃ g rows, lk H j = some (g, .arr 1 rows)) → lk H' j = lk H j) (hN : N ≤ N') : LstP nn H' lo N' v l := by
  rcases h with ⟨a, g, h1, h2, h3, h4⟩ | h
  · exact .inl ⟨a, g, h1, by rw [hk a h3 h4 ⟨_, _, h2⟩]; exact h2, h3, by omega⟩
  · exact .inr h
theorem LstV.keep {nn : Bool} {H H' : Hp} {lo N N' : Nat} {v : AV} {l : List Val} (h : LstV nn H lo N v l) (hk : ∀ j, lo ≤ j → j < N → (∃ g rows, lk H j = some (g, .arr 3 rows)) → lk H' j = lk H j) (hN : N ≤ N') : LstV nn H' lo N' v l := by
  rcases h with ⟨a, g, h1, h2, h3, h4⟩ | h
  · exact .inl ⟨a, g, h1, by rw [hk a h3 h4 ⟨_, _, h2⟩]; exact h2, h3, by omega⟩
  · exact .inr h
theorem RowG.keep {nn : Bool} {H H' : Hp} {lo N N' : Nat} {c : List AV} {r : Rec} (h : RowG nn H lo N c r) (hk : ∀ j, lo ≤ j → j < N → (∃ g sz rows, sz ≠ 6 ∧ lk H j = some (g, .arr sz rows)) → lk H' j = lk H j) (hN : N ≤ N') : RowG nn H' lo N' c r := by
  obtain ⟨p, q, h1, h2, h3⟩ := h
  exact ⟨p, q, h1, h2.keep (fun j a b ⟨g, rows, e⟩ => hk j a b ⟨g, 1, rows, by omega, e⟩) hN, h3.keep (fun j a b ⟨g, rows, e⟩ => hk j a b ⟨g, 3, rows, by omega, e⟩) hN⟩
theorem RowG.arg_lt {nn : Bool} {H : Hp} {lo N : Nat} {c : List AV} {r : Rec} (h : RowG nn H lo N c r) {b : Nat} (hb : argO c = some b) : lo ≤ b ∧ b < N := by
  obtain ⟨p, q, rfl, _, h3⟩ := h
  rcases h3 with ⟨a, g, rfl, _, h5, h6⟩ | ⟨_, _, rfl⟩
  · simp only [argO, Option.some.injEq] at hb
    omega
  · simp [argO] at hb
theorem RowsG.keep {nn : Bool} {H H' : Hp} {lo N N' : Nat} {v : AV} {l : List Rec} (h : RowsG nn H lo N v l) (hk : ∀ j, lo ≤ j → j < N → lk H' j = lk H j) (hN : N ≤ N') : RowsG nn H' lo N' v l := by
  rcases h with h | ⟨kn, g, rows, h1, h2, h3, h4, h5, h6, h7⟩
  · exact .inl h
  · exact .inr ⟨kn, g, rows, h1, by rw [hk kn h6 h7]; exact h2, h3, fun j c r hc hr => (h4 j c r hc hr).keep (fun j a b _ => hk j a b) hN, h5, h6, by omega⟩
theorem apart_perm {a b : List (List AV)} (h : a.Perm b) (ha : ApartR a) : ApartR b := by
  unfold ApartR at ha ⊢
  refine h.pairwise ha ?_
  intro x y hxy b hb e
  exact hxy b e hb
theorem apart_snoc {out : List (List AV)} {c : List AV} (h : ApartR out) (hc : ∀ x ∈ out, ∀ b, argO x = some b → argO c ≠ some b) : ApartR (out ++ [c]) := by
  unfold ApartR at h ⊢
  rw [List.pairwise_append]
  refine ⟨h, by simp, fun x hx y hy => ?_⟩
  rw [List.mem_singleton.1 hy]
  exact hc x hx
theorem argO_heap (a ga b gb : Nat) (r : Rec) : argO (recHeap a ga b gb r) = some b := rfl
theorem rowG_heap {nn : Bool} {H : Hp} {lo N a ga b gb : Nat} {r : Rec} (ha : lk H a = some (ga, .arr 1 (ints r.parts))) (hb : lk H b = some (gb, .arr 3 (valRows r.args))) (h1 : lo ≤ a) (h2 : a < N) (h3 : lo ≤ b) (h4 : b < N) : RowG nn H lo N (recHeap a ga b gb r) r :=
  ⟨_, _, rfl, .inl ⟨a, ga, rfl, ha, h1, h2⟩, .inl ⟨b, gb, rfl, hb, h3, h4⟩⟩
theorem key_rowG {nn : Bool} {H : Hp} {lo N : Nat} {c : List AV} {r : Rec} (h : RowG nn H lo N c r) : keyRow c = r.id := by
  obtain ⟨p, q, rfl, _, _⟩ := h
  simp [keyRow]
/-- Other objects are laid. -/
theorem lk_ne {H : Hp} {i j g g' : Nat} {sz sz' : Nat} {a b : List (List AV)} (h1 : lk H i = some (g, .arr sz a)) (h2 : lk H j = some (g', .arr sz' b)) (h : sz ≠ sz') : i ≠ j := by
  rintro rfl
  rw [h1] at h2
  simp only [Option.some.injEq, Prod.mk.injEq, AO.arr.injEq] at h2
  exact h h2.2.1

end Ab
end Go.Proofs.YtidoflgcblglbaaDoor

/-
  DERIVED. A form in memory, frozen; table.New, (*Table).Form, Len, Next, Mark.
  Conditions: sizes below a row's limit.
-/
import Derived.Test.YtgkaidnfmkncmaaDoorS19
set_option linter.all false
set_option maxHeartbeats 4000000
namespace Go.Proofs.YtgkaidnfmkncmaaDoor
namespace Ab
open Go.Lib
set_option maxRecDepth 100000
set_option maxHeartbeats 4000000

def Key.heap (k : Key) : Key := { k with z := false }
def Tab.heap (t : Tab) : Tab := { t with zc := false, zk := false, keys := t.keys.map Key.heap }

theorem mapO_self {α : Type} {f : α → Option α} : ∀ {l : List α}, (∀ x ∈ l, f x = some x) → mapO f l = some l
  | [], _ => rfl
  | x :: l, h => by
    unfold mapO
    rw [h x List.mem_cons_self, mapO_self fun y hy => h y (List.mem_cons_of_mem _ hy)]
    rfl
theorem mapO_idx {α β : Type} {f : α → Option β} : ∀ {l : List α} {r : List β}, l.length = r.length → (∀ (i : Nat) (x : α) (y : β), l[i]? = some x → r[i]? = some y → f x = some y) → mapO f l = some r
  | [], [], _, _ => rfl
  | x :: l, y :: r, hl, h => by
    unfold mapO
    rw [h 0 x y rfl rfl, mapO_idx (l := l) (r := r) (by simpa using hl) fun i a b ha hb => h (i + 1) a b (by simpa using ha) (by simpa using hb)]
    rfl

theorem frz_col {get : Ref → Option AO} {n : Nat} (c : Col) : mapO (frz get (n + 1)) c.row = some c.row := by simp [Col.row]
theorem frz_val {get : Ref → Option AO} {n : Nat} (c : Val) : mapO (frz get (n + 1)) c.row = some c.row := by simp [Val.row]
theorem frz_ints {get : Ref → Option AO} {n : Nat} (l : List Int) : mapO (mapO (frz get (n + 1))) (ints l) = some (ints l) := by
  refine mapO_self fun x hx => ?_
  simp only [ints, List.mem_map] at hx
  obtain ⟨y, _, rfl⟩ := hx
  simp

theorem frz_holds {get : Ref → Option AO} {hp : Hp} {lo hi : Nat} {v : AV} {t : Tab} (h : Holds hp lo hi v t) (hg : ∀ k g, get (.h k g) = lkg hp k g) : frz get 12 v = some (.agg t.heap.row) := by
  obtain ⟨kc, gc, kk, gk, rows, e1, e2, e3, e4, e5, e6, e7, e8, e9⟩ := h.h
  subst e1
  have h1 : mapO (mapO (frz get 10)) (t.cols.map Col.row) = some (t.cols.map Col.row) := mapO_self fun x hx => by
    rw [List.mem_map] at hx
    obtain ⟨c, _, rfl⟩ := hx
    exact frz_col c
  have h2 : mapO (mapO (frz get 10)) rows = some ((t.keys.map Key.heap).map Key.row) := by
    refine mapO_idx (by simp [e4.1]) fun i x y hx hy => ?_
    simp only [List.map_map, List.getElem?_map, Option.map_eq_some_iff] at hy
    obtain ⟨key, hk, rfl⟩ := hy
    obtain ⟨a, g, q1, q2, q3, q4, q5, q6⟩ := e4.2 i x key hx hk
    subst q1
    simp [hg, q2, ints_len, rowsOf, frz_ints, Key.row, Key.heap]
    rw [← ints_len, List.take_length, frz_ints]
    rfl
  have h3 : (t.cols.map Col.row).take t.cols.length = t.cols.map Col.row := List.take_of_length_le (by simp)
  have h4 : rows.take t.keys.length = rows := List.take_of_length_le (by rw [e4.1]; exact Nat.le_refl _)
  have h5 : t.keys.length ≤ rows.length := by rw [e4.1]; exact Nat.le_refl _
  simp [hg, e2, e3, rowsOf, h3, h4, h5, h1, h2, Tab.row, Tab.heap]

theorem frz_vals {get : Ref → Option AO} {hp : Hp} {n g : Nat} {r : List Val} (h : lk hp n = some (g, .arr 3 (r.map Val.row))) (hg : ∀ k g, get (.h k g) = lkg hp k g) : frz get 12 (.rs n g 0 r.length 3) = some (.vs false 3 (r.map Val.row)) := by
  have h1 : mapO (mapO (frz get 11)) (r.map Val.row) = some (r.map Val.row) := mapO_self fun x hx => by
    rw [List.mem_map] at hx
    obtain ⟨c, _, rfl⟩ := hx
    exact frz_val c
  have h3 : (r.map Val.row).take r.length = r.map Val.row := List.take_of_length_le (by simp)
  simp [hg, h, rowsOf, h3, h1]

theorem frz_tab {get : Ref → Option AO} (t : Tab) : frz get 12 (.agg t.row) = some (.agg t.row) := by simp [Tab.row]

end Ab
end Go.Proofs.YtgkaidnfmkncmaaDoor

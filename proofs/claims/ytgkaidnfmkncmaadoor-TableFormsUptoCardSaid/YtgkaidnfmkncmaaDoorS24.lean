/-
  DERIVED. The whole call of TableForms comes to true.
  Conditions: sizes below 2^20.
-/
import Derived.Test.YtgkaidnfmkncmaaDoorS23
set_option linter.all false
set_option maxHeartbeats 4000000
namespace Go.Proofs.YtgkaidnfmkncmaaDoor
namespace Ab
open Go.Lib
set_option maxRecDepth 100000

theorem firstBad_map {α β : Type} {f : List α → α → Int} {f' : List β → β → Int} {g : α → β} (h : ∀ a x, f' (a.map g) (g x) = f a x) : ∀ (l a : List α), firstBad f' (a.map g) (l.map g) = firstBad f a l
  | [], _ => rfl
  | x :: r, a => by
    have ih := firstBad_map h r (a ++ [x])
    rw [List.map_append] at ih
    simp only [List.map_cons, List.map_nil] at ih
    simp only [List.map_cons, firstBad, h, ih]

theorem keyChk_heap (cols : Int) (a : List Key) (k : Key) : keyChk cols (a.map Key.heap) k.heap = keyChk cols a k := by
  unfold keyChk
  rw [List.any_map]
  rfl

theorem tabChk_heap (t : Tab) : tabChk t.heap = tabChk t := by
  have h1 : firstBad (keyChk t.cols.length) [] (t.keys.map Key.heap) = firstBad (keyChk t.cols.length) [] t.keys := firstBad_map (g := Key.heap) (keyChk_heap _) t.keys []
  obtain ⟨n, zc, zk, cols, keys, part, most⟩ := t
  unfold tabChk Tab.heap
  simp only at h1 ⊢
  rw [h1, List.length_map]
  cases keys with
  | nil => rfl
  | cons k r => rfl

theorem fitsAns_heap (t : Tab) (r : List Val) : fitsAns t.heap r = fitsAns t r := by
  unfold fitsAns
  rw [tabChk_heap]
  rfl

theorem Tab.Ok.heap {m : Nat} {t : Tab} (ok : t.Ok m) : t.heap.Ok m := by
  refine ⟨ok.n, ok.cl, ?_, ok.c, ?_, (fun h => by cases h), (fun h => by cases h)⟩
  · show (t.keys.map Key.heap).length < m
    rw [List.length_map]; exact ok.kl
  · intro k hk
    rw [show t.heap.keys = t.keys.map Key.heap from rfl, List.mem_map] at hk
    obtain ⟨x, hx, rfl⟩ := hk
    have := ok.k x hx
    exact ⟨this.n, this.c, fun h => by cases h⟩
theorem Tab.Ok.own {m : Nat} {t : Tab} (ok : t.Ok m) : t.own.Ok m := ⟨ok.n, ok.cl, ok.kl, ok.c, ok.k, ok.zc, ok.zk⟩

theorem core_heap (l : List Key) : (l.map Key.heap).map Key.core = l.map Key.core := by
  rw [List.map_map]; rfl
theorem like_heap (t : Tab) : Like t.heap t := ⟨rfl, rfl, core_heap t.keys, rfl, rfl⟩
theorem like_own (t : Tab) : Like t.own.own.heap t.plain := by
  refine ⟨rfl, rfl, core_heap t.keys, ?_, rfl⟩
  show (if -1 > (if -1 > t.part then -1 else t.part) then -1 else (if -1 > t.part then -1 else t.part)) = (if t.part < 0 then -1 else t.part)
  by_cases h1 : t.part < -1
  · have h2 : t.part < 0 := by omega
    simp [h1, h2]
  · by_cases h2 : t.part < 0
    · simp [h1, h2]; omega
    · simp [h1, h2]

theorem facts3 (K : Nat) (hK : 2 ^ 20 ≤ K) (n : Nat) (t : Tab) (ok : t.Ok (2 ^ 20)) (z : Bool) (r : List Val) (hz : z = true → r = []) (hr : r.length < 2 ^ 20) (hv : ∀ v ∈ r, v.s.size < 2 ^ 20) : Facts3 (callA cfg K (n + 6)) t z r := {
  h4 := fun nx => by
    rw [callA_succ]
    exact (run4 (callA cfg K (n + 5)) K t _ ok (Nat.le_refl _) hK nx (Q := fun v hp nx' => nx ≤ nx' ∧ Holds hp nx nx' v t ∧ ∀ j, j < nx → lk hp j = none) fun v hp nx' a b c => ⟨a, b, c⟩).ex
  h5 := fun nx => by
    rw [callA_succ]
    obtain ⟨x, hp', nx', q1, m, g, q2, q3, q4, q5⟩ := run5 (callA cfg K (n + 5)) K nx z r hz (by omega) (Q := fun x hp' nx' => ∃ m g, x = .rs m g 0 r.length 3 ∧ hp' = [(m, (g, .arr 3 (r.map Val.row)))] ∧ nx ≤ m ∧ m < nx') fun m g nx' a b => ⟨m, g, rfl, rfl, a, b⟩
    subst q2 q3
    exact ⟨m, g, nx', q1, q4, q5⟩
  h6 := by rw [p6 K hK n t.heap ok.heap, tabChk_heap]
  h7 := p7 K hK (n + 1) t ok
  h8 := by rw [p8 K hK n t.heap ok.heap false r hr hv, fitsAns_heap]
  h9 := p9 K hK n t ok z r hr hv
  h10 := p10 K hK (n + 5) _ _ ok.heap (like_heap t)
  h11 := p11 K hK (n + 4) false z r hr
  h12a := fun hc hp nx lo hi v hv hnx => by
    rw [callA_succ]
    obtain ⟨x, hp', nx', q1, q2, q3, q4⟩ := run12 (callA cfg K (n + 5)) K t (by rw [p19 K hK n t.heap ok.heap, tabChk_heap]) (c26 K hK (n + 2) t ok) hp nx lo hi v hv hnx (Q := fun x hp' nx' => x = .tup [.np, .i .i64 (tabChk t)] ∧ hp' = hp ∧ nx ≤ nx') (fun _ nx' a => ⟨rfl, rfl, a⟩) (fun h => absurd h hc)
    subst q2 q3
    exact ⟨nx', q1, q4⟩
  h12b := fun hc hp nx lo hi v hv hnx => by
    rw [callA_succ]
    obtain ⟨x, hp', nx', q1, m, q2, q3⟩ := run12 (callA cfg K (n + 5)) K t (by rw [p19 K hK n t.heap ok.heap, tabChk_heap]) (c26 K hK (n + 2) t ok) hp nx lo hi v hv hnx (Q := fun x hp' nx' => ∃ m, x = .tup [.ptr m 0 0, .i .i64 0] ∧ nx ≤ nx' ∧ TAt hp' nx nx' m t.own ∧ ∀ j, j < nx → lk hp' j = lk hp j) (fun h => absurd hc h) (fun _ m hp' nx' a b c => ⟨m, rfl, a, b, c⟩)
    subst q2
    exact ⟨m, hp', nx', q1, q3⟩
  h13 := fun hp nx lo hi v hv => by
    rw [callA_succ]
    obtain ⟨x, hp', nx', q1, q2, q3⟩ := run13 (callA cfg K (n + 5)) K t _ ok (Nat.le_refl _) hK hp nx lo hi v hv (Q := fun x hp' nx' => x = .tup [] ∧ nx ≤ nx' ∧ ∀ j, j < lo ∨ hi ≤ j → lk hp' j = lk hp j) fun hp' nx' a b => ⟨rfl, a, b⟩
    subst q2
    exact ⟨hp', nx', q1, q3⟩
  h13' := fun hp nx lo hi v hv => by
    rw [callA_succ]
    obtain ⟨x, hp', nx', q1, q2, q3⟩ := run13 (callA cfg K (n + 5)) K t.own.own _ ok.own.own (Nat.le_refl _) hK hp nx lo hi v hv (Q := fun x hp' nx' => x = .tup [] ∧ nx ≤ nx' ∧ ∀ j, j < lo ∨ hi ≤ j → lk hp' j = lk hp j) fun hp' nx' a b => ⟨rfl, a, b⟩
    subst q2
    exact ⟨hp', nx', q1, q3⟩
  h14 := fun hp nx lo hi m hT hnx => by
    rw [callA_succ]
    exact (run14 (callA cfg K (n + 5)) K t.own (c27 K hK (n + 3) t.own ok.own) hp nx lo hi m hT hnx (Q := fun v' hp' nx' => nx ≤ nx' ∧ Holds hp' nx nx' v' t.own.own ∧ ∀ j, j < nx → lk hp' j = lk hp j) fun v' hp' nx' a b c => ⟨a, b, c⟩).ex
  h15 := p15 K hK (n + 5) t
  h10' := p10 K hK (n + 5) _ _ ok.own.own.heap (like_own t)
  h16 := fun hp nx lo hi m hT => by
    rw [callA_succ]
    obtain ⟨x, hp', nx', q1, q2, q3, q4⟩ := run16 (callA cfg K (n + 5)) K t.own hp nx lo hi m hT (Q := fun x hp' nx' => x = .i .i64 0 ∧ hp' = hp ∧ nx ≤ nx') fun nx' a => ⟨rfl, rfl, a⟩
    subst q2 q3
    exact ⟨nx', q1, q4⟩
  h17 := fun hp nx lo hi m hT => by
    rw [callA_succ]
    obtain ⟨x, hp', nx', q1, q2, q3, q4⟩ := run17 (callA cfg K (n + 5)) K t.own hp nx lo hi m hT (Q := fun x hp' nx' => x = .i .u64 1 ∧ hp' = hp ∧ nx ≤ nx') fun nx' a => ⟨rfl, rfl, a⟩
    subst q2 q3
    exact ⟨nx', q1, q4⟩
  h18 := fun hp nx lo hi m hT => by
    rw [callA_succ]
    obtain ⟨x, hp', nx', q1, q2, q3, q4⟩ := run18 (callA cfg K (n + 5)) K t.own hp nx lo hi m hT (Q := fun x hp' nx' => x = .i .i64 0 ∧ hp' = hp ∧ nx ≤ nx') fun nx' a => ⟨rfl, rfl, a⟩
    subst q2 q3
    exact ⟨nx', q1, q4⟩ }

theorem call3 (t : Tab) (ok : t.Ok (2 ^ 20)) (z : Bool) (r : List Val) (hz : z = true → r = []) (hr : r.length < 2 ^ 20) (hv : ∀ v ∈ r, v.s.size < 2 ^ 20) : ∃ k d hp nx, callA cfg k d 3 [.agg t.row, .vs z 3 (r.map Val.row)] [] 0 = some (.b true, hp, nx) := by
  obtain ⟨x, hp, nx, h1, h2⟩ := run3 (callA cfg (2 ^ 20) 6) (2 ^ 20) t z r (facts3 (2 ^ 20) (Nat.le_refl _) 0 t ok z r hz hr hv) (by decide)
  subst h2
  exact ⟨2 ^ 20, 7, hp, nx, h1⟩

end Ab
end Go.Proofs.YtgkaidnfmkncmaaDoor

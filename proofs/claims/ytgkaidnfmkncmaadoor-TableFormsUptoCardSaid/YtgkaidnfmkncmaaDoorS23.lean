/-
  DERIVED. The whole call of TableForms, by the depth of its calls.
  Conditions: sizes below 2^20.
-/
import Derived.Test.YtgkaidnfmkncmaaDoorS22
set_option linter.all false
set_option maxHeartbeats 4000000
namespace Go.Proofs.YtgkaidnfmkncmaaDoor
namespace Ab
open Go.Lib
set_option maxRecDepth 100000

section
variable (K : Nat) (hK : 2 ^ 20 ≤ K)

theorem callA_succ (n : Nat) : callA cfg K (n + 1) = runA cfg (callA cfg K n) K := rfl

theorem Ends.ex {call : CallT} {k f nx : Nat} {args : List AV} {hp : Hp} {Q : AV → Hp → Nat → Prop} (h : Ends cfg call k f args hp nx Q) : ∃ r hp' nx', runA cfg call k f args hp nx = some (r, hp', nx') ∧ Q r hp' nx' := h

include hK

theorem p46 (n : Nat) (s : ByteArray) (hs : s.size < 2 ^ 20) : pR (callA cfg K (n + 1)) 46 [.s s] = some (.b (validD s.data.toList)) := by
  rw [callA_succ]; exact pR_of (run46 _ K s (by omega) (by omega)) rfl
theorem p28 (n : Nat) (s : ByteArray) (hs : s.size < 2 ^ 20) : pR (callA cfg K (n + 1)) 28 [.s s] = some (.b (nameOk s)) := by
  rw [callA_succ]; exact pR_of (run28 _ K s (by omega) (by omega)) rfl
theorem p35 (n : Nat) (v : Val) (hs : v.s.size < 2 ^ 20) : pR (callA cfg K (n + 1)) 35 [.agg v.row] = some (.i .i64 (valChk v)) := by
  rw [callA_succ]; exact pR_of (run35 _ K v (by omega)) rfl
theorem p45 (n : Nat) (z : Bool) (l : List Int) (v : Int) (hl : l.length < 2 ^ 20) : pR (callA cfg K (n + 1)) 45 [.vs z 1 (ints l), .i .i64 v] = some (.i .i64 (idxOf (v == ·) 0 l)) := by
  rw [callA_succ]; exact pR_of (run45 _ K z l v (by omega) (by omega)) rfl
theorem p25 (n : Nat) (v : Val) : pR (callA cfg K (n + 1)) 25 [.agg v.row, .agg v.row] = some (.b true) := by
  rw [callA_succ]; exact pR_of (run25 _ K v) rfl
theorem p10 (n : Nat) (a b : Tab) (ok : a.Ok (2 ^ 20)) (h : Like a b) : pR (callA cfg K (n + 1)) 10 [.agg a.row, .agg b.row] = some (.b true) := by
  rw [callA_succ]; exact pR_of (run10 _ K a b _ ok (by omega) hK h) rfl
theorem p15 (n : Nat) (t : Tab) : pR (callA cfg K (n + 1)) 15 [.agg t.row] = some (.agg t.plain.row) := by
  rw [callA_succ]
  obtain ⟨r', hp', nx', h1, rfl⟩ := run15 (callA cfg K n) K t
  unfold pR
  rw [h1]
  exact frz_tab _

theorem c37 (n : Nat) : CloneOk (callA cfg K (n + 1)) 37 4 := fun hp nx a g rows h1 h2 h3 => by
  rw [callA_succ]
  obtain ⟨r, hp', nx', q1, n', g', q2, q3, q4, q5, q6⟩ := run37 (callA cfg K n) K hp nx a g rows h1 h2 h3 (Q := fun x hp' nx' => ∃ n' g', x = .rs n' g' 0 rows.length 4 ∧ nx ≤ n' ∧ n' < nx' ∧ lk hp' n' = some (g', .arr 4 rows) ∧ ∀ j, j < nx → lk hp' j = lk hp j) fun n' g' hp' nx' a1 a2 a3 a4 => ⟨n', g', rfl, a1, a2, a3, a4⟩
  subst q2
  exact ⟨n', g', hp', nx', q1, q3, q4, q5, q6⟩
theorem c38 (n : Nat) : CloneOk (callA cfg K (n + 1)) 38 3 := fun hp nx a g rows h1 h2 h3 => by
  rw [callA_succ]
  obtain ⟨r, hp', nx', q1, n', g', q2, q3, q4, q5, q6⟩ := run38 (callA cfg K n) K hp nx a g rows h1 h2 h3 (Q := fun x hp' nx' => ∃ n' g', x = .rs n' g' 0 rows.length 3 ∧ nx ≤ n' ∧ n' < nx' ∧ lk hp' n' = some (g', .arr 3 rows) ∧ ∀ j, j < nx → lk hp' j = lk hp j) fun n' g' hp' nx' a1 a2 a3 a4 => ⟨n', g', rfl, a1, a2, a3, a4⟩
  subst q2
  exact ⟨n', g', hp', nx', q1, q3, q4, q5, q6⟩
theorem c39 (n : Nat) : CloneOk (callA cfg K (n + 1)) 39 1 := fun hp nx a g rows h1 h2 h3 => by
  rw [callA_succ]
  obtain ⟨r, hp', nx', q1, n', g', q2, q3, q4, q5, q6⟩ := run39 (callA cfg K n) K hp nx a g rows h1 h2 h3 (Q := fun x hp' nx' => ∃ n' g', x = .rs n' g' 0 rows.length 1 ∧ nx ≤ n' ∧ n' < nx' ∧ lk hp' n' = some (g', .arr 1 rows) ∧ ∀ j, j < nx → lk hp' j = lk hp j) fun n' g' hp' nx' a1 a2 a3 a4 => ⟨n', g', rfl, a1, a2, a3, a4⟩
  subst q2
  exact ⟨n', g', hp', nx', q1, q3, q4, q5, q6⟩
theorem c36 (n nx : Nat) : callA cfg K (n + 1) 36 [.b false] [] nx = some (.ptr (nx + 3) 0 0, [(nx + 3, (0, .cells [.b false, .np]))], nx + 5) := by
  rw [callA_succ]
  exact (run36 (callA cfg K n) K false nx (Q := fun r1 h1 n1 => r1 = .ptr (nx + 3) 0 0 ∧ h1 = [(nx + 3, (0, .cells [.b false, .np]))] ∧ n1 = nx + 5) ⟨rfl, rfl, rfl⟩).eq
theorem c27 (n : Nat) (t : Tab) (ok : t.Ok (2 ^ 20)) : OwnOk (callA cfg K (n + 2)) t := fun hp nx lo hi v hv hnx => by
  rw [callA_succ]
  exact (run27 (callA cfg K (n + 1)) K (c37 K hK n) (c38 K hK n) (c39 K hK n) t _ ok (Nat.le_refl _) hK hp nx lo hi v hv hnx (Q := fun v' hp' nx' => nx ≤ nx' ∧ Holds hp' nx nx' v' t.own ∧ ∀ j, j < nx → lk hp' j = lk hp j) fun v' hp' nx' a1 a2 a3 => ⟨a1, a2, a3⟩).ex
theorem c26 (n : Nat) (t : Tab) (ok : t.Ok (2 ^ 20)) : BegunOk (callA cfg K (n + 3)) t := fun hp nx lo hi v hv hnx => by
  rw [callA_succ]
  obtain ⟨r, hp', nx', q1, m, q2, q3⟩ := run26 (callA cfg K (n + 2)) K (c36 K hK (n + 1)) t (c27 K hK n t ok) _ ok (Nat.le_refl _) hK hp nx lo hi v hv hnx (Q := fun x hp' nx' => ∃ m, x = .ptr m 0 0 ∧ nx ≤ nx' ∧ TAt hp' nx nx' m t.own ∧ ∀ j, j < nx → lk hp' j = lk hp j) fun m hp' nx' a1 a2 a3 => ⟨m, rfl, a1, a2, a3⟩
  subst q2
  exact ⟨m, hp', nx', q1, q3⟩

theorem p34 (n : Nat) (v : Val) (hs : v.s.size < 2 ^ 20) : pR (callA cfg K (n + 2)) 34 [.agg v.row] = some (.i .i64 (valChk v)) := by
  rw [callA_succ]; exact pR_of (run34 _ K v (p46 K hK n v.s hs)) rfl
theorem p33 (n : Nat) (z : Bool) (l : List Int) (v : Int) (hl : l.length < 2 ^ 20) : pR (callA cfg K (n + 2)) 33 [.vs z 1 (ints l), .i .i64 v] = some (.b (l.any (v == ·))) := by
  rw [callA_succ]; exact pR_of (run33 _ K z l v (p45 K hK n z l v hl)) rfl
theorem p48 (n : Nat) (z : Bool) (l : List Col) (d : Col) (hl : l.length < 2 ^ 20) : pR (callA cfg K (n + 2)) 48 [.vs z 4 (l.map Col.row), .fn 41 [.vp d.row]] = some (.i .i64 (idxOf (fun c => c.n.toList == d.n.toList) 0 l)) := by
  rw [callA_succ]; exact pR_of (run48 _ K z l d (by omega) (by omega) fun c nx => by rw [callA_succ]; exact run41 _ K nx c d) rfl
theorem p40 (n : Nat) (z : Bool) (l : List Col) (d : Col) (hl : l.length < 2 ^ 20) : pR (callA cfg K (n + 3)) 40 [.vs z 4 (l.map Col.row), .fn 41 [.vp d.row]] = some (.b (l.any (fun c => c.n.toList == d.n.toList))) := by
  rw [callA_succ]; exact pR_of (run40 _ K z l d (p48 K hK n z l d hl)) rfl
theorem p49 (n : Nat) (z : Bool) (l : List Key) (d : Key) (hl : l.length < 2 ^ 20) : pR (callA cfg K (n + 2)) 49 [.vs z 3 (l.map Key.row), .fn 43 [.vp d.row]] = some (.i .i64 (idxOf (fun c => c.n.toList == d.n.toList) 0 l)) := by
  rw [callA_succ]; exact pR_of (run49 _ K z l d (by omega) (by omega) fun c nx => by rw [callA_succ]; exact run43 _ K nx c d) rfl
theorem p42 (n : Nat) (z : Bool) (l : List Key) (d : Key) (hl : l.length < 2 ^ 20) : pR (callA cfg K (n + 3)) 42 [.vs z 3 (l.map Key.row), .fn 43 [.vp d.row]] = some (.b (l.any (fun c => c.n.toList == d.n.toList))) := by
  rw [callA_succ]; exact pR_of (run42 _ K z l d (p49 K hK n z l d hl)) rfl
theorem p44 (n : Nat) (z : Bool) (l : List Int) (t : Tab) (hl : l.length < 2 ^ 20) (hr : ∀ c ∈ l, 0 ≤ c ∧ c < t.cols.length) : pR (callA cfg K (n + 2)) 44 [.vs z 1 (ints l), .fn 32 [.vp t.row]] = some (.i .i64 (idxOf (notNN t) 0 l)) := by
  rw [callA_succ]; exact pR_of (run44 _ K z l t.row (notNN t) (by omega) (by omega) fun c hc nx => by rw [callA_succ]; exact run32 _ K nx t c (hr c hc).1 (hr c hc).2) rfl
theorem p31 (n : Nat) (z : Bool) (l : List Int) (t : Tab) (hl : l.length < 2 ^ 20) (hr : ∀ c ∈ l, 0 ≤ c ∧ c < t.cols.length) : pR (callA cfg K (n + 3)) 31 [.vs z 1 (ints l), .fn 32 [.vp t.row]] = some (.b (l.any (notNN t))) := by
  rw [callA_succ]; exact pR_of (run31 _ K z l t.row (notNN t) (p44 K hK n z l t hl hr)) rfl
theorem p20 (n : Nat) (s : ByteArray) (hs : s.size < 2 ^ 20) : pR (callA cfg K (n + 3)) 20 [.s s] = some (.b (nameOk s)) := by
  rw [callA_succ]; exact pR_of (run20 _ K s (by omega) (by omega) (p34 K hK n ⟨3, 0, s⟩ hs)) rfl
theorem p29 (n : Nat) (z : Bool) (l : List Col) (c : Col) (hl : l.length < 2 ^ 20) (hc : c.n.size < 2 ^ 20) : pR (callA cfg K (n + 4)) 29 [.agg c.row, .vs z 4 (l.map Col.row)] = some (.i .i64 (colChk l c)) := by
  rw [callA_succ]; exact pR_of (run29 _ K z l c (p28 K hK (n + 2) c.n hc) (p40 K hK n z l c hl)) rfl
theorem p21 (n : Nat) (z : Bool) (l : List Col) (i : Nat) (hi : i < l.length) (hl : l.length < 2 ^ 20) (hc : l[i].n.size < 2 ^ 20) : pR (callA cfg K (n + 4)) 21 [.vs z 4 (l.map Col.row), .i .i64 (i : Nat)] = some (.i .i64 (colChk (l.take i) l[i])) := by
  rw [callA_succ]; exact pR_of (run21 _ K z l i hi (by omega) (by omega) (p20 K hK n _ hc)) rfl
theorem p30 (n : Nat) (z : Bool) (l : List Key) (c : Key) (cols : Nat) (hl : l.length < 2 ^ 20) (hc : c.Ok (2 ^ 20)) : pR (callA cfg K (n + 4)) 30 [.agg c.row, .vs z 3 (l.map Key.row), .i .i64 (cols : Nat)] = some (.i .i64 (keyChk cols l c)) := by
  have h := hc.c
  rw [callA_succ]; exact pR_of (run30 _ K z l c cols hc.z (by omega) (by omega) (p28 K hK (n + 2) c.n hc.n) (p42 K hK n z l c hl) fun y q v h1 => p33 K hK (n + 1) y q v (by omega)) rfl
theorem p22 (n : Nat) (t : Tab) (ok : t.Ok (2 ^ 20)) (i : Nat) (hi : i < t.keys.length) : pR (callA cfg K (n + 4)) 22 [.agg t.row, .i .i64 (i : Nat)] = some (.i .i64 (keyChk t.cols.length (t.keys.take i) t.keys[i])) := by
  have h1 := ok.kl
  have h2 := ok.k _ (List.getElem_mem hi)
  have h3 := h2.c
  rw [callA_succ]; exact pR_of (run22 _ K t i hi (by omega) (by omega) (by omega) (by omega) (p20 K hK n _ h2.n)) rfl
theorem p19 (n : Nat) (t : Tab) (ok : t.Ok (2 ^ 20)) : pR (callA cfg K (n + 5)) 19 [.agg t.row] = some (.i .i64 (tabChk t)) := by
  have h1 := ok.cl
  have h2 := ok.kl
  rw [callA_succ]
  exact pR_of (run19 _ K t _ ok (by omega) hK (p28 K hK (n + 3) _ ok.n) (fun z l c hc hl => p29 K hK n z l c (by omega) (ok.c c hc)) (fun z l c hc hl => p30 K hK n z l c _ (by omega) (ok.k c hc)) (fun y q hq hr => p31 K hK (n + 1) y q t hq hr) (fun y q v hq => p33 K hK (n + 2) y q v hq)) rfl
theorem p7 (n : Nat) (t : Tab) (ok : t.Ok (2 ^ 20)) : pR (callA cfg K (n + 5)) 7 [.agg t.row] = some (.i .i64 (tabChk t)) := by
  rw [callA_succ]
  exact pR_of (run7 _ K t _ ok (by omega) hK (p20 K hK (n + 1) _ ok.n) (fun i hi => p21 K hK n _ _ i hi ok.cl (ok.c _ (List.getElem_mem hi))) (fun i hi => p22 K hK n t ok i hi)) rfl
theorem p6 (n : Nat) (t : Tab) (ok : t.Ok (2 ^ 20)) : pR (callA cfg K (n + 6)) 6 [.agg t.row] = some (.i .i64 (tabChk t)) := by
  rw [callA_succ]; exact pR_of (run6 _ K t (p19 K hK n t ok)) rfl
theorem p23 (n : Nat) (t : Tab) (z : Bool) (r : List Val) (hr : r.length < 2 ^ 20) (hv : ∀ v ∈ r, v.s.size < 2 ^ 20) : pR (callA cfg K (n + 2)) 23 [.agg t.row, .vs z 3 (r.map Val.row)] = some (.i .i64 (fitChk t r)) := by
  rw [callA_succ]; exact pR_of (run23 _ K t z r (by omega) (by omega) fun v hm => p35 K hK n v (hv v hm)) rfl
theorem p24 (n : Nat) (t : Tab) (z : Bool) (r : List Val) (hr : r.length < 2 ^ 20) (hv : ∀ v ∈ r, v.s.size < 2 ^ 20) : pR (callA cfg K (n + 3)) 24 [.agg t.row, .vs z 3 (r.map Val.row)] = some (.i .i64 (fitChk t r)) := by
  rw [callA_succ]; exact pR_of (run24 _ K t z r (by omega) (by omega) fun v hm => p34 K hK n v (hv v hm)) rfl
theorem p8 (n : Nat) (t : Tab) (ok : t.Ok (2 ^ 20)) (z : Bool) (r : List Val) (hr : r.length < 2 ^ 20) (hv : ∀ v ∈ r, v.s.size < 2 ^ 20) : pR (callA cfg K (n + 6)) 8 [.agg t.row, .vs z 3 (r.map Val.row)] = some (.i .i64 (fitsAns t r)) := by
  rw [callA_succ]; exact pR_of (run8 _ K t z r (p19 K hK n t ok) (p23 K hK (n + 3) t z r hr hv)) rfl
theorem p9 (n : Nat) (t : Tab) (ok : t.Ok (2 ^ 20)) (z : Bool) (r : List Val) (hr : r.length < 2 ^ 20) (hv : ∀ v ∈ r, v.s.size < 2 ^ 20) : pR (callA cfg K (n + 6)) 9 [.agg t.row, .vs z 3 (r.map Val.row)] = some (.i .i64 (fitsAns t r)) := by
  rw [callA_succ]; exact pR_of (run9 _ K t z r (p7 K hK n t ok) (p24 K hK (n + 2) t z r hr hv)) rfl
theorem p11 (n : Nat) (y z : Bool) (r : List Val) (hr : r.length < 2 ^ 20) : pR (callA cfg K (n + 2)) 11 [.vs y 3 (r.map Val.row), .vs z 3 (r.map Val.row)] = some (.b true) := by
  rw [callA_succ]; exact pR_of (run11 _ K y z r (by omega) (by omega) fun v _ => p25 K hK n v) rfl
end
end Ab
end Go.Proofs.YtgkaidnfmkncmaaDoor

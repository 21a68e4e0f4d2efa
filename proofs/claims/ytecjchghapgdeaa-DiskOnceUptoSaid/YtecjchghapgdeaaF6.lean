/-
  DERIVED. The document's disk: names with one, where there are none yet.
  Conditions: enough rounds, enough depth.
-/
import Derived.Test.YtecjchghapgdeaaF5
set_option linter.all false
set_option maxHeartbeats 4000000
namespace Go.Proofs.Ytecjchghapgdeaa
namespace Ab
set_option maxRecDepth 100000
set_option maxHeartbeats 8000000
set_option linter.all false
attribute [local simp] wp_region regionA opsA nCall rCall goCallR pCall pnCall lenA appendA appRow newsA rowsSz rowsOf isIntD makeSliceA elemOf rowsBuilt eqA eq1

theorem c_dwith0 {K n nx : Nat} (hK : big K) (hn : 1 ≤ n) (z z' : Nat) (s : Bs) (x : Nat) (hx : x ≤ 2 ^ 40) :
    callA cfg K n 70 [.agg [.vs true z [], .vs true z' []], .s (ba s), .i .i64 (x : Nat)] [] nx = some (.agg [.rs (nx + 18) 0 0 1 1, .rs (nx + 23) 0 0 1 1],
      [(nx + 17, (0, .arr 1 [[.s (ba s)]])), (nx + 18, (0, .arr 1 [[.s (ba s)]])), (nx + 22, (0, .arr 1 [[.i .i64 (x : Nat)]])), (nx + 23, (0, .arr 1 [[.i .i64 (x : Nat)]]))], nx + 30) := by
  obtain ⟨n, rfl⟩ : ∃ m, n = m + 1 := ⟨n - 1, by omega⟩
  have : Sp K (n + 1) 70 [.agg [.vs true z [], .vs true z' []], .s (ba s), .i .i64 (x : Nat)] [] nx fun r hp' nx' => r = .agg [.rs (nx + 18) 0 0 1 1, .rs (nx + 23) 0 0 1 1] ∧
      hp' = [(nx + 17, (0, .arr 1 [[.s (ba s)]])), (nx + 18, (0, .arr 1 [[.s (ba s)]])), (nx + 22, (0, .arr 1 [[.i .i64 (x : Nat)]])), (nx + 23, (0, .arr 1 [[.i .i64 (x : Nat)]]))] ∧ nx' = nx + 30 := by
    refine sp_cps fun Q hQ => ?_
    refine sp_of rfl (run_wp Try.func70 rfl (by simp [Try.f70]) ?_)
    have h0 : ¬ ((x : Nat) : Int) < 0 := by omega
    simp [h0]
    refine loop_wp (ι := Nat) (fun i => { env := [(1, .s (ba s)), (2, .i .i64 (x : Nat)), (3, .lp 3 nx 0), (6, .lp 6 (nx + 1) 0), (7, .lp 7 (nx + 2) 0), (8, .b false), (9, .i .i64 0)], loc := [(3, nx, .cells [.vs true z [], .vs true z' []]), (6, nx + 1, .cells [.vs true 0 [], .vs true 0 []]), (7, nx + 2, .cells [.vs true 0 [], .vs true 0 []])], hp := [], nx := nx + 7 }) (fun _ => 0)
      (fun _ => True) 0 rfl trivial (by unfold big at hK; omega) ?_
    rintro Next _ _ hnext
    simp [mostB, lk_set, up_up, Nat.add_assoc, shown_nil, shown_one]
    refine ⟨⟨by kernel_rfl, by simp [dynOk, pairsOk, befOf, Region.binds, Eff.apart, Eff.clear, Eff.wkeys, Ref.key, AV.refs0, List.range, List.range.loop]⟩, ?_⟩
    refine hQ _ _ _ ?_
    exact ⟨rfl, rfl, rfl⟩
  obtain ⟨r, hp', nx', h1, h2, h3, h4⟩ := this
  rw [h1, h2, h3, h4]

end Ab
end Go.Proofs.Ytecjchghapgdeaa

/-
  DERIVED. The document's disk: Create.
  Conditions: enough rounds, enough depth; a disk of bounded size.
-/
namespace Go.Proofs.Ytecjchghapgdeaa
namespace Ab
set_option maxRecDepth 100000
set_option maxHeartbeats 8000000
set_option linter.all false
attribute [local simp] wp_region regionA opsA nCall rCall goCallR pCall pnCall lenA appendA appRow newsA rowsSz rowsOf isIntD makeSliceA elemOf rowsBuilt eqA eq1

/-- now, of the ways alone. -/
theorem c_dnow2 {K n : Nat} (hn : 1 ≤ n) {k : Nat} {q fv wv l dd a b : AV} {wr : List (List AV)} {hp : Hp} {nx : Nat} {S : Nat → Prop} (hg : lk hp k = some (0, .cells [q, fv, wv, l, dd])) (hw : SV 2 hp S wv wr) (hl : wr.length ≤ 2 ^ 22)
    (h1 : wr[wr.length - 1]? = some [a, b]) (ha : a.okc = true) (hb : b.okc = true) :
    Sp K n 66 [.ptr k 0 0] hp nx fun r hp' nx' => hp' = hp ∧ nx ≤ nx' ∧ r = .agg [a, b] := by
  refine sp_cps fun Q hQ => ?_
  obtain ⟨n, rfl⟩ : ∃ m, n = m + 1 := ⟨n - 1, by omega⟩
  have hne : 0 < wr.length := by
    have := (List.getElem?_eq_some_iff.1 h1).1
    omega
  obtain ⟨kw, g, i0, all, e1, e2, e3, e4, e5, _⟩ := hw.at h1
  subst e1
  refine sp_of rfl (run_wp Try.func66 rfl (by simp [Try.f66]) ?_)
  have w1 : IntKind.i64.wrap ((wr.length : Int) - 1) = ((wr.length - 1 : Nat) : Int) := by rw [wrap_i64 (by omega) (by omega)]; omega
  have w2 : ((wr.length - 1 : Nat) : Int) < (wr.length : Int) := by omega
  simp [hg, e2, e3, w1, w2, ha, hb]
  refine ⟨⟨by kernel_rfl, by simp [dynOk, pairsOk, befOf, Region.binds, Eff.apart, Eff.clear, Eff.wkeys, Ref.key, AV.refs0, List.range, List.range.loop]⟩, ?_⟩
  refine hQ _ _ _ ?_
  exact ⟨rfl, by omega, rfl⟩

/-- The same at whatever heap where the ways are as they were. -/
theorem f_dnow2 {K n : Nat} (hn : 1 ≤ n) (k : Nat) (wv a b : AV) (wr : List (List AV)) (P : Hp → Nat → Prop) (hl : wr.length ≤ 2 ^ 22) (h1 : wr[wr.length - 1]? = some [a, b]) (ha : a.okc = true) (hb : b.okc = true)
    (hP : ∀ H N, P H N → (∃ q fv l dd, lk H k = some (0, .cells [q, fv, wv, l, dd])) ∧ ∃ S, SV 2 H S wv wr) :
    ∃ nf : Hp → Nat → Nat, ∀ H N, P H N → callA cfg K n 66 [.ptr k 0 0] H N = some (.agg [a, b], H, nf H N) ∧ N ≤ nf H N := by
  refine ⟨fun H N => ((callA cfg K n 66 [.ptr k 0 0] H N).getD (.undef, [], 0)).2.2, fun H N hp => ?_⟩
  obtain ⟨⟨q, fv, l, dd, hg⟩, S, hw⟩ := hP H N hp
  obtain ⟨r, hp', nx', e1, rfl, e2, rfl⟩ := c_dnow2 (K := K) (nx := N) hn hg hw hl h1 ha hb
  simp [e1, e2]

/-- A file put behind the others. -/
theorem f_dwith {K n : Nat} (hK : big K) (hn : 1 ≤ n) (S : Nat → Prop) (w : Way) (a b : AV) (hw : w.length ≤ 64) (s : Bs) (x : Int) (hx : -1 ≤ x ∧ x ≤ 2 ^ 40) (P : Hp → Nat → Prop)
    (hP : ∀ H N, P H N → (∀ j, S j → j < N) ∧ SV 1 H S a (nameRows w) ∧ SV 1 H S b (fiRows w)) :
    ∃ (oa ob : Hp → Nat → AV) (h1 : Hp → Nat → Hp) (n1 : Hp → Nat → Nat), ∀ H N, P H N → callA cfg K n 70 [.agg [a, b], .s (ba s), .i .i64 x] H N = some (.agg [oa H N, ob H N], h1 H N, n1 H N) ∧
      N ≤ n1 H N ∧ (∀ j, j < N → lk (h1 H N) j = lk H j) ∧ Two (h1 H N) N (n1 H N) (oa H N) (ob H N) (withX w s x) := by
  obtain ⟨r, h1, n1, y, hy⟩ := sk' (K := K) (n := n) (g := 70) (args := [.agg [a, b], .s (ba s), .i .i64 x]) (X := AV × AV) (P := P)
    (Q := fun H N r H' N' y => r = .agg [y.1, y.2] ∧ N ≤ N' ∧ (∀ j, j < N → lk H' j = lk H j) ∧ Two H' N N' y.1 y.2 (withX w s x)) fun H N hp => by
    obtain ⟨hS, ha, hb⟩ := hP H N hp
    obtain ⟨r, H', N', e1, e2, e3, oa, ob, e4, e5⟩ := c_dwith (K := K) (n := n) hK hn hS ha hb hw s x hx
    exact ⟨r, H', N', e1, (oa, ob), e4, e2, e3, e5⟩
  exact ⟨fun H N => (y H N).1, fun H N => (y H N).2, h1, n1, fun H N hp => by
    obtain ⟨e1, e2, e3, e4, e5⟩ := hy H N hp
    exact ⟨by rw [e1, e2], e3, e4, e5⟩⟩

theorem skY {K n : Nat} {g : FuncId} {X Y : Type} [Inhabited X] {args : Y → List AV} {P : Y → Hp → Nat → Prop} {Q : Y → Hp → Nat → AV → Hp → Nat → X → Prop} (h : ∀ y H N, P y H N → Sp K n g (args y) H N fun r h' n' => ∃ x, Q y H N r h' n' x) :
    ∃ (r : Y → Hp → Nat → AV) (h' : Y → Hp → Nat → Hp) (n' : Y → Hp → Nat → Nat) (x : Y → Hp → Nat → X), ∀ y H N, P y H N → callA cfg K n g (args y) H N = some (r y H N, h' y H N, n' y H N) ∧ Q y H N (r y H N) (h' y H N) (n' y H N) (x y H N) := by
  have h2 : ∀ y, ∃ t : (Hp → Nat → AV) × (Hp → Nat → Hp) × (Hp → Nat → Nat) × (Hp → Nat → X), ∀ H N, P y H N → callA cfg K n g (args y) H N = some (t.1 H N, t.2.1 H N, t.2.2.1 H N) ∧ Q y H N (t.1 H N) (t.2.1 H N) (t.2.2.1 H N) (t.2.2.2 H N) := fun y => by
    obtain ⟨r, h', n', x, h3⟩ := sk' (K := K) (n := n) (g := g) (args := args y) (P := P y) (Q := Q y) (h y)
    exact ⟨(r, h', n', x), h3⟩
  obtain ⟨f, hf⟩ := Classical.skolem.1 h2
  exact ⟨fun y => (f y).1, fun y => (f y).2.1, fun y => (f y).2.2.1, fun y => (f y).2.2.2, hf⟩

/-- A way put behind the others, at whatever heap. -/
theorem f_dchanges {K n : Nat} (hn : 1 ≤ n) (k : Nat) (wv : AV) (wr : List (List AV)) (S : Nat → Prop) (kS : S k) (hne : wr ≠ []) (hl : wr.length ≤ 2 ^ 22) (P : AV × AV → Hp → Nat → Prop)
    (hP : ∀ y H N, P y H N → (∀ j, S j → j < N) ∧ (∃ q fv l dd, lk H k = some (0, .cells [q, fv, wv, l, dd])) ∧ SV 2 H S wv wr ∧ y.1.okc = true ∧ y.2.okc = true ∧ y.1.mv = true ∧ y.2.mv = true) :
    ∃ (r : AV × AV → Hp → Nat → AV) (h1 : AV × AV → Hp → Nat → Hp) (n1 : AV × AV → Hp → Nat → Nat) (w1 : AV × AV → Hp → Nat → AV), ∀ y H N, P y H N → callA cfg K n 69 [.ptr k 0 0, .agg [y.1, y.2]] H N = some (r y H N, h1 y H N, n1 y H N) ∧
      N ≤ n1 y H N ∧ (∀ q fv l dd, lk H k = some (0, .cells [q, fv, wv, l, dd]) → lk (h1 y H N) k = some (0, .cells [q, fv, w1 y H N, l, dd])) ∧ SV 2 (h1 y H N) (fun j => N ≤ j ∧ j < n1 y H N) (w1 y H N) (wr ++ [[y.1, y.2]]) ∧ ∀ j, j < N → j ≠ k → lk (h1 y H N) j = lk H j := by
  refine skY (args := fun y : AV × AV => [.ptr k 0 0, .agg [y.1, y.2]]) (Q := fun y H N r H' N' w' => N ≤ N' ∧ (∀ q fv l dd, lk H k = some (0, .cells [q, fv, wv, l, dd]) → lk H' k = some (0, .cells [q, fv, w', l, dd])) ∧ SV 2 H' (fun j => N ≤ j ∧ j < N') w' (wr ++ [[y.1, y.2]]) ∧ ∀ j, j < N → j ≠ k → lk H' j = lk H j) fun y H N hp => ?_
  obtain ⟨hS, ⟨q, fv, l, dd, hg⟩, hw, h1, h2, h3, h4⟩ := hP y H N hp
  refine (c_dchanges (K := K) (n := n) hn k q fv wv l dd y.1 y.2 wr H N S hS hg kS hw hne hl h1 h2 h3 h4).mono fun r H' N' ⟨w', e1, e2, e3, e4⟩ => ⟨w', e1, fun q' fv' l' dd' hg' => ?_, e3, e4⟩
  rw [hg] at hg'
  cases hg'
  exact e2

end Ab
end Go.Proofs.Ytecjchghapgdeaa

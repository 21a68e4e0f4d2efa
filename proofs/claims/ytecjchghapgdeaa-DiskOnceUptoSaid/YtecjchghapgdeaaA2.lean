/-
  DERIVED. What the laws' arguments are: calls.
  Conditions: none.
-/
import Derived.Test.YtecjchghapgdeaaA1
import Derived.Test.YtecjchghapgdeaaJ9
set_option linter.all false
set_option maxHeartbeats 4000000
namespace Go.Proofs.Ytecjchghapgdeaa
namespace Ab
set_option maxRecDepth 100000
set_option linter.all false

theorem cells57 : Try.prog.cellsOf 57 = 6 := by kernel_rfl
theorem cells9 : Try.prog.cellsOf 9 = 1 := by kernel_rfl
theorem cells22 : Try.prog.cellsOf 22 = 1 := by kernel_rfl
theorem cells23 : Try.prog.cellsOf 23 = 1 := by kernel_rfl

theorem ty9 {n : Nat} {cs : List AV} (h : TyC Try.prog (n + 1) 9 cs) : ∃ s : Bs, cs = [.s (ba s)] := by
  simp only [TyC, underlying_9] at h
  obtain ⟨s, rfl, _⟩ := h
  exact ⟨s.data.toList, by rw [← ba_of]⟩
theorem ty57 {n : Nat} {cs : List AV} (h : TyC Try.prog (n + 3) 57 cs) : ∃ a zb zk, cs = actV a zb zk ∧ (zb = true → a.b = []) ∧ (zk = true → a.keeps = []) ∧ -9223372036854775808 ≤ a.n ∧ a.n ≤ 9223372036854775807 := by
  unfold TyC at h
  simp only [underlying_57, List.map_cons, List.map_nil, TyS] at h
  obtain ⟨c0, r0, rfl, _, t0, c1, r1, rfl, _, t1, c2, r2, rfl, _, t2, c3, r3, rfl, _, t3, c4, r4, rfl, _, t4, c5, r5, rfl, _, t5, rfl⟩ := h
  obtain ⟨k, rfl, _, _⟩ := ty3 t0
  obtain ⟨nm, rfl⟩ := ty9 t1
  obtain ⟨to, rfl⟩ := ty9 t2
  obtain ⟨zb, b, rfl, hb⟩ := ty22 t3
  obtain ⟨x, rfl, x1, x2⟩ := ty3 t4
  obtain ⟨zk, ks, rfl, hk, _⟩ := ty23 t5
  exact ⟨⟨k, nm, to, b, x, ks⟩, zb, zk, rfl, hb, hk, x1, x2⟩
theorem ty37 {n : Nat} {cs : List AV} (h : TyC Try.prog (n + 4) 37 cs) : ∃ z rows l, cs = [.vs z 6 rows] ∧ (z = true → rows = []) ∧ ActRows rows l ∧ ∀ a ∈ l, -9223372036854775808 ≤ a.n ∧ a.n ≤ 9223372036854775807 := by
  unfold TyC at h
  simp only [underlying_37, cells57] at h
  obtain ⟨z, rows, rfl, h1, _, h2⟩ := h
  have key : ∀ rows : List (List AV), (∀ r ∈ rows, r.length = 6 ∧ TyC Try.prog (n + 3) 57 r) → ∃ l, ActRows rows l ∧ ∀ a ∈ l, -9223372036854775808 ≤ a.n ∧ a.n ≤ 9223372036854775807 := by
    intro rows
    induction rows with
    | nil => intro _; exact ⟨[], ⟨rfl, fun i r x h => by simp at h⟩, fun a h => by cases h⟩
    | cons r rows ih =>
      intro hr
      obtain ⟨a, zb, zk, rfl, q1, q2, q3⟩ := ty57 (hr r List.mem_cons_self).2
      obtain ⟨l, e1, e2⟩ := ih fun r hr' => hr r (List.mem_cons_of_mem _ hr')
      refine ⟨a :: l, ⟨by simp [e1.1], fun i r x p1 p2 => ?_⟩, fun b hb => ?_⟩
      · cases i with
        | zero => cases p1; cases p2; exact ⟨zb, zk, rfl, q1, q2⟩
        | succ i => exact e1.2 i r x p1 p2
      · rcases List.mem_cons.1 hb with rfl | hb
        · exact q3
        · exact e2 b hb
  obtain ⟨l, e1, e2⟩ := key rows h2
  exact ⟨z, rows, l, rfl, h1, e1, e2⟩

theorem ba_size' (s : Bs) : (ba s).size = s.length := ba_size s
theorem bulk_act {n : Nat} (a : ActD) (zb zk : Bool) : a.name.length + a.to.length + a.b.length + a.keeps.length + 6 ≤ bulkL (n + 1) (actV a zb zk) := by
  have h1 := bulk_bytes (n := n) (z := zb) (l := a.b)
  have h2 := bulk_ints (n := n) (z := zk) (l := a.keeps)
  simp only [AV.cells, bulkL, List.map_cons, List.map_nil, List.sum_cons, List.sum_nil, Nat.add_zero] at h1 h2
  simp only [actV, bulkL, List.map_cons, List.map_nil, List.sum_cons, List.sum_nil, Nat.add_zero]
  have h3 : bulkA (n + 1) (.s (ba a.name)) = a.name.length + 1 := by simp [bulkA]
  have h4 : bulkA (n + 1) (.s (ba a.to)) = a.to.length + 1 := by simp [bulkA]
  have h5 := bulkA_pos (n + 1) (.i .i64 a.kind)
  have h6 := bulkA_pos (n + 1) (.i .i64 a.n)
  omega
theorem bulk_acts {n : Nat} {z : Bool} : ∀ {rows : List (List AV)} {l : List ActD}, ActRows rows l → l.length * 6 + 1 ≤ bulkL (n + 2) (AV.vs z 6 rows).cells ∧ ∀ a ∈ l, a.name.length + a.to.length + a.b.length + a.keeps.length ≤ bulkL (n + 2) (AV.vs z 6 rows).cells := by
  intro rows l h
  have h0 : bulkL (n + 2) (AV.vs z 6 rows).cells = (rows.map fun r => bulkL (n + 1) r).sum + 1 := by
    simp [AV.cells, bulkL, bulkA]
  rw [h0]
  have key : ∀ (l : List ActD) (rows : List (List AV)), ActRows rows l → l.length * 6 ≤ (rows.map fun r => bulkL (n + 1) r).sum ∧ ∀ a ∈ l, a.name.length + a.to.length + a.b.length + a.keeps.length ≤ (rows.map fun r => bulkL (n + 1) r).sum := by
    intro l
    induction l with
    | nil => intro rows _; exact ⟨by simp, fun a h => by cases h⟩
    | cons a l ih =>
      intro rows h
      match rows, h with
      | [], h => exact absurd h.1 (by simp)
      | r :: rows, h =>
        obtain ⟨zb, zk, rfl, _⟩ := h.2 0 r a rfl rfl
        obtain ⟨i1, i2⟩ := ih rows ⟨by simpa using h.1, fun i r x p1 p2 => h.2 (i + 1) r x p1 p2⟩
        have hb := bulk_act (n := n) a zb zk
        simp only [List.length_cons, List.map_cons, List.sum_cons]
        refine ⟨by omega, fun b hb' => ?_⟩
        rcases List.mem_cons.1 hb' with rfl | hb'
        · omega
        · have := i2 b hb'
          omega
  obtain ⟨k1, k2⟩ := key l rows h
  exact ⟨by omega, fun a ha => by have := k2 a ha; omega⟩

theorem plainFast : Plain cfg (2 ^ 20) 8 4 [3, 37, 23, 3] := by
  intro xs hl hty hbulk
  match xs, hl with
  | [x0, x1, x2, x3], _ =>
    have h0 := hty 0 3 x0 rfl rfl
    have h1 := hty 1 37 x1 rfl rfl
    have h2 := hty 2 23 x2 rfl rfl
    have h3 := hty 3 3 x3 rfl rfl
    unfold ArgOf at h0 h1 h2 h3
    simp only [cP, underlying_3, underlying_37, underlying_23] at h0 h1 h2 h3
    obtain ⟨q, e0, _⟩ := ty3 (n := 7) h0
    obtain ⟨za, rows, l, e1, hza, hr, hn⟩ := ty37 (n := 4) h1
    obtain ⟨zk, ks, e2, hk, _⟩ := ty23 (n := 6) h2
    obtain ⟨nm, e3, _⟩ := ty3 (n := 7) h3
    cases e0; cases e1; cases e2; cases e3
    have hs := hbulk 8
    simp only [List.map_cons, List.map_nil, List.sum_cons, List.sum_nil] at hs
    obtain ⟨b1, b2⟩ := bulk_acts (n := 6) (z := za) hr
    simp only [show 6 + 2 = 8 from rfl] at b1 b2
    have b3 : ks.length + 1 ≤ bulkL 8 _ := bulk_ints (n := 7) (z := zk) (l := ks)
    obtain ⟨r, hp', nx', h5, h6⟩ := c_Fast (K := 2 ^ 26) (n := 7) (nx := 0) (hp := []) (Nat.le_refl _) (Nat.le_refl _) q za zk rows l ks nm hza hk hr (by omega) (fun a ha => by
      have h7 := b2 a ha
      have h8 := hn a ha
      exact ⟨⟨by omega, by omega, by omega, by omega, h8⟩, by omega⟩) (by omega)
    subst h6
    exact ⟨_, _, _, _, h5⟩

theorem plainOnce : Plain cfg (2 ^ 20) 8 5 [3, 37, 23, 23, 3, 3] := by
  intro xs hl hty hbulk
  match xs, hl with
  | [x0, x1, x2, x3, x4, x5], _ =>
    have h0 := hty 0 3 x0 rfl rfl
    have h1 := hty 1 37 x1 rfl rfl
    have h2 := hty 2 23 x2 rfl rfl
    have h3 := hty 3 23 x3 rfl rfl
    have h4 := hty 4 3 x4 rfl rfl
    have h5 := hty 5 3 x5 rfl rfl
    unfold ArgOf at h0 h1 h2 h3 h4 h5
    simp only [cP, underlying_3, underlying_37, underlying_23] at h0 h1 h2 h3 h4 h5
    obtain ⟨q, e0, _⟩ := ty3 (n := 7) h0
    obtain ⟨za, rows, l, e1, hza, hr, hn⟩ := ty37 (n := 4) h1
    obtain ⟨zk, ks, e2, hk, _⟩ := ty23 (n := 6) h2
    obtain ⟨zg, gs, e3, hg, _⟩ := ty23 (n := 6) h3
    obtain ⟨nm, e4, _⟩ := ty3 (n := 7) h4
    obtain ⟨mr, e5, _⟩ := ty3 (n := 7) h5
    cases e0; cases e1; cases e2; cases e3; cases e4; cases e5
    have hs := hbulk 8
    simp only [List.map_cons, List.map_nil, List.sum_cons, List.sum_nil] at hs
    obtain ⟨b1, b2⟩ := bulk_acts (n := 6) (z := za) hr
    simp only [show 6 + 2 = 8 from rfl] at b1 b2
    have b3 : ks.length + 1 ≤ bulkL 8 _ := bulk_ints (n := 7) (z := zk) (l := ks)
    have b4 : gs.length + 1 ≤ bulkL 8 _ := bulk_ints (n := 7) (z := zg) (l := gs)
    obtain ⟨r, hp', nx', h7, h6⟩ := c_Once (K := 2 ^ 26) (n := 7) (nx := 0) (hp := []) (Nat.le_refl _) (Nat.le_refl _) q za zk zg rows l ks gs nm mr hza hk hg hr (by omega) (fun a ha => by
      have h7 := b2 a ha
      have h8 := hn a ha
      exact ⟨⟨by omega, by omega, by omega, by omega, h8⟩, by omega⟩) (by omega) (by omega)
    subst h6
    exact ⟨_, _, _, _, h7⟩

end Ab
end Go.Proofs.Ytecjchghapgdeaa

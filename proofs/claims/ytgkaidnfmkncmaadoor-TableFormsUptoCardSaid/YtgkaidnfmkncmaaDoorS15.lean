/-
  DERIVED. locksteplaw08.Form: a form in memory of its own.
  Conditions: sizes below a row's limit.
-/
import Derived.Test.YtgkaidnfmkncmaaDoorS14
set_option linter.all false
set_option maxHeartbeats 4000000
namespace Go.Proofs.YtgkaidnfmkncmaaDoor
namespace Ab
open Go.Lib
set_option maxRecDepth 100000
set_option maxHeartbeats 4000000
attribute [local simp] appendA appRow newsA rowsSz rowsOf isIntD makeSliceA elemOf rowsBuilt

/-- A key's row in memory. -/
def KRow (hp : Hp) (lo hi kc kk : Nat) (r : List AV) (key : Key) : Prop :=
  ∃ a g, r = [.s key.n, .rs a g 0 key.cs.length 1, .b key.u] ∧ lk hp a = some (g, .arr 1 (ints key.cs)) ∧ lo ≤ a ∧ a < hi ∧ a ≠ kc ∧ a ≠ kk
def KRows (hp : Hp) (lo hi kc kk : Nat) (rows : List (List AV)) (keys : List Key) : Prop :=
  rows.length = keys.length ∧ ∀ (i : Nat) (r : List AV) (key : Key), rows[i]? = some r → keys[i]? = some key → KRow hp lo hi kc kk r key
/-- A form in memory. -/
structure Holds (hp : Hp) (lo hi : Nat) (v : AV) (t : Tab) : Prop where
  h : ∃ kc gc kk gk rows, v = .agg [.s t.n, .rs kc gc 0 t.cols.length 4, .rs kk gk 0 t.keys.length 3, .i .i64 t.part, .i .i64 t.most] ∧
    lk hp kc = some (gc, .arr 4 (t.cols.map Col.row)) ∧ lk hp kk = some (gk, .arr 3 rows) ∧ KRows hp lo hi kc kk rows t.keys ∧ lo ≤ kc ∧ kc < hi ∧ lo ≤ kk ∧ kk < hi ∧ kc ≠ kk

theorem KRow.mono {hp hp' : Hp} {lo hi lo' hi' kc kk : Nat} {r : List AV} {key : Key} (h : KRow hp lo hi kc kk r key) (h1 : lo' ≤ lo) (h2 : hi ≤ hi') (h3 : ∀ j, lo ≤ j → j < hi → j ≠ kc → j ≠ kk → lk hp' j = lk hp j) : KRow hp' lo' hi' kc kk r key := by
  obtain ⟨a, g, e1, e2, e3, e4, e5, e6⟩ := h
  exact ⟨a, g, e1, by rw [h3 a e3 e4 e5 e6]; exact e2, by omega, by omega, e5, e6⟩
theorem KRows.mono {hp hp' : Hp} {lo hi lo' hi' kc kk : Nat} {rows : List (List AV)} {keys : List Key} (h : KRows hp lo hi kc kk rows keys) (h1 : lo' ≤ lo) (h2 : hi ≤ hi') (h3 : ∀ j, lo ≤ j → j < hi → j ≠ kc → j ≠ kk → lk hp' j = lk hp j) : KRows hp' lo' hi' kc kk rows keys :=
  ⟨h.1, fun i r key h4 h5 => (h.2 i r key h4 h5).mono h1 h2 h3⟩
theorem Holds.mono {hp hp' : Hp} {lo hi lo' hi' : Nat} {v : AV} {t : Tab} (h : Holds hp lo hi v t) (h1 : lo' ≤ lo) (h2 : hi ≤ hi') (h3 : ∀ j, lo ≤ j → j < hi → lk hp' j = lk hp j) : Holds hp' lo' hi' v t := by
  obtain ⟨kc, gc, kk, gk, rows, e1, e2, e3, e4, e5, e6, e7, e8, e9⟩ := h.h
  exact ⟨kc, gc, kk, gk, rows, e1, by rw [h3 kc e5 e6]; exact e2, by rw [h3 kk e7 e8]; exact e3, e4.mono h1 h2 fun j a b _ _ => h3 j a b, by omega, by omega, by omega, by omega, e9⟩

theorem KRows.snoc {hp : Hp} {lo hi kc kk : Nat} {rows : List (List AV)} {keys : List Key} {r : List AV} {key : Key} (h : KRows hp lo hi kc kk rows keys) (h1 : KRow hp lo hi kc kk r key) : KRows hp lo hi kc kk (rows ++ [r]) (keys ++ [key]) := by
  refine ⟨by simp [h.1], fun i r' key' h2 h3 => ?_⟩
  by_cases hi : i < rows.length
  · rw [List.getElem?_append_left hi] at h2
    rw [List.getElem?_append_left (by rw [← h.1]; exact hi)] at h3
    exact h.2 i r' key' h2 h3
  · rw [List.getElem?_append_right (by omega)] at h2
    rw [List.getElem?_append_right (by rw [← h.1]; omega), ← h.1] at h3
    obtain ⟨j, hj⟩ : ∃ j, i - rows.length = j := ⟨_, rfl⟩
    rw [hj] at h2 h3
    cases j with
    | zero => simp at h2 h3; subst h2 h3; exact h1
    | succ j => simp at h2

theorem loop4 (call : CallT) (k : Nat) (t : Tab) (m : Nat) (ok : t.Ok m) (hm : m ≤ 2 ^ 20) (hk : m ≤ k) (n1 n2 kc kk lo nx0 : Nat) (w0 w1 w3 w4 : AV) (z2 : List AV) (hp0 : Hp) (h1 : lo ≤ kk) (h2 : kk < nx0) (h0 : kc < nx0) (h3 : kc ≠ kk) (h4 : lk hp0 kk = some (0, .arr 3 [])) {Q : Ex × St → Prop}
    (hQ : ∀ hp nx rows, nx0 ≤ nx → KRows hp nx0 nx kc kk rows t.keys → lk hp kk = some (t.keys.length, .arr 3 rows) → (∀ j, j < nx0 → j ≠ kk → lk hp j = lk hp0 j) →
      Q (.exit 0, { env := [(1, .lp 1 n1 0), (2, .lp 2 n2 0), (3, .rs kk t.keys.length 0 t.keys.length 3), (4, .i .i64 (t.keys.length : Nat)), (24, .b false)], loc := [(1, n1, .cells [w0, w1, .vs t.zk 3 (t.keys.map Key.row), w3, w4]), (2, n2, .cells z2)], hp := hp, nx := nx })) :
    wp (loopK cfg call k 4 (loopOf Tryd.f4 0) { env := [(1, .lp 1 n1 0), (2, .lp 2 n2 0), (3, .rs kk 0 0 0 3), (4, .i .i64 (0 : Nat))], loc := [(1, n1, .cells [w0, w1, .vs t.zk 3 (t.keys.map Key.row), w3, w4]), (2, n2, .cells z2)], hp := hp0, nx := nx0 }) Q := by
  have okk := ok.kl
  refine loop_wp (ι := Nat × Nat × Hp × List (List AV)) (fun i => { env := [(1, .lp 1 n1 0), (2, .lp 2 n2 0), (3, .rs kk i.1 0 i.1 3), (4, .i .i64 (i.1 : Nat))], loc := [(1, n1, .cells [w0, w1, .vs t.zk 3 (t.keys.map Key.row), w3, w4]), (2, n2, .cells z2)], hp := i.2.2.1, nx := i.2.1 }) (fun i => t.keys.length - i.1)
    (fun i => i.1 ≤ t.keys.length ∧ nx0 ≤ i.2.1 ∧ KRows i.2.2.1 nx0 i.2.1 kc kk i.2.2.2 (t.keys.take i.1) ∧ lk i.2.2.1 kk = some (i.1, .arr 3 i.2.2.2) ∧ ∀ j, j < nx0 → j ≠ kk → lk i.2.2.1 j = lk hp0 j) (0, nx0, hp0, []) rfl ⟨Nat.zero_le _, Nat.le_refl _, ⟨rfl, fun i r key hr => by simp at hr⟩, h4, fun j _ _ => rfl⟩ (by simp only; omega) ?_
  rintro Next ⟨i, nx, hp, rows⟩ ⟨hi0, hnx, hrows, hkk, hold⟩ hnext
  simp only at hi0 hnx hrows hkk hold hnext ⊢
  by_cases hi : i < t.keys.length
  · have c1 : (i : Int) < t.keys.length := by omega
    have c2 : (0 : Int) ≤ i := by omega
    have c3 : IntKind.i64.wrap ((i : Int) + 1) = i + 1 := wrap_i64 (by omega) (by omega)
    obtain ⟨x, hx⟩ : ∃ x, t.keys[i] = x := ⟨_, rfl⟩
    have okx : x.Ok m := by rw [← hx]; exact ok.k _ (List.getElem_mem hi)
    have f1 : ∀ c, ¬ kk = nx + c := fun c => by omega
    have f2 : ¬ kk = nx := by omega
    have f3 : ∀ c, ¬ nx + c = kk := fun c => by omega
    have hrl : rows.length = i := by rw [hrows.1]; simp; omega
    obtain ⟨xn, xz, xcs, xu⟩ := x
    have okc : xcs.length < m := okx.c
    have d3 : IntKind.i64.wrap ((xcs.length : Int) + 1) = xcs.length + 1 := wrap_i64 (by omega) (by omega)
    have d2 : xcs.length * 9 ≤ 68719476736 := by omega
    have d4 : (xcs.length + 1) * 9 ≤ 68719476736 := by omega
    have d5 : (0 : Int) ≤ xcs.length + 1 := by omega
    have d6 : ((xcs.length : Int) + 1).toNat = xcs.length + 1 := by omega
    have d7 : (i + 1) * 49 ≤ 68719476736 := by omega
    have hgo : ∀ (hp' : Hp) (nx' a g : Nat), nx ≤ a → a < nx' → nx ≤ nx' → a ≠ kk → lk hp' a = some (g, .arr 1 (ints xcs)) → lk hp' kk = some (i + 1, .arr 3 (rows ++ [[.s xn, .rs a g 0 xcs.length 1, .b xu]])) → (∀ j, j < nx → j ≠ kk → lk hp' j = lk hp j) →
        Next { env := [(1, .lp 1 n1 0), (2, .lp 2 n2 0), (3, .rs kk (i + 1) 0 (i + 1) 3), (4, .i .i64 ((i : Int) + 1))], loc := [(1, n1, .cells [w0, w1, .vs t.zk 3 (t.keys.map Key.row), w3, w4]), (2, n2, .cells z2)], hp := hp', nx := nx' } := by
      intro hp' nx' a g g1 g2 g3 g4 g5 g6 g7
      refine hnext (i + 1, nx', hp', rows ++ [[.s xn, .rs a g 0 xcs.length 1, .b xu]]) (by simp only; omega) ⟨hi, by simp only; omega, ?_, g6, fun j h5 h6 => by simp only; rw [g7 j (by omega) h6]; exact hold j h5 h6⟩
      simp only
      rw [← take_next hi, hx]
      refine KRows.snoc (hrows.mono (Nat.le_refl _) g3 fun j _ h6 _ h8 => g7 j h6 h8) ⟨a, g, rfl, g5, by omega, g2, by omega, g4⟩
    by_cases h0 : xcs.length = 0
    · have e0 : xcs = [] := List.length_eq_zero_iff.1 h0
      subst e0
      have hg : ∀ j, j < nx → ∀ c, ¬ j = nx + c := fun j hj c => by omega
      cases xz
      · simp [loopOf, loopsIn, Tryd.f4, mostB, Nat.add_assoc, lk_set, c1, c2, c3, hi, hx, Key.row, ints, f1, f2, hkk, hrl, d7, wrap1]
        refine ⟨⟨by kernel_rfl, by kernel_rfl⟩, ?_⟩
        refine hgo _ _ (nx + 16) 0 (by omega) (by omega) (by omega) (by omega) (by simp [lk_set, f3, ints]) (by simp [lk_set, f1]) ?_
        intro j h5 h6
        simp [lk_set, hg j h5, h6]
      · simp [loopOf, loopsIn, Tryd.f4, mostB, Nat.add_assoc, lk_set, c1, c2, c3, hi, hx, Key.row, ints, f1, f2, hkk, hrl, d7, wrap1]
        refine ⟨⟨by kernel_rfl, by kernel_rfl⟩, ?_⟩
        refine hgo _ _ (nx + 16) 0 (by omega) (by omega) (by omega) (by omega) (by simp [lk_set, f3, ints]) (by simp [lk_set, f1]) ?_
        intro j h5 h6
        simp [lk_set, hg j h5, h6]
    · have hg : ∀ j, j < nx → ∀ c, ¬ j = nx + c := fun j hj c => by omega
      have h0' : ¬ xcs = [] := fun h => h0 (by rw [h]; rfl)
      have hxz : xz = false := by
        cases xz with
        | false => rfl
        | true => exact absurd (okx.z rfl) h0'
      subst hxz
      simp [loopOf, loopsIn, Tryd.f4, mostB, Nat.add_assoc, lk_set, c1, c2, c3, hi, hx, Key.row, ints_len, f1, f2, hkk, hrl, d7, d2, d3, d4, d5, d6, h0, h0']
      refine ⟨⟨by kernel_rfl, by kernel_rfl⟩, ?_⟩
      refine hgo _ _ (nx + 16) 1 (by omega) (by omega) (by omega) (by omega) (by simp [lk_set, f3]) (by simp [lk_set, f1]) ?_
      intro j h5 h6
      simp [lk_set, hg j h5, h6]
  · obtain rfl : i = t.keys.length := by omega
    have hr := hrows
    rw [List.take_of_length_le (Nat.le_refl _)] at hr
    simp [loopOf, loopsIn, Tryd.f4]
    exact hQ hp _ rows (by omega) (hr.mono (Nat.le_refl _) (by omega) fun j _ _ _ _ => rfl) hkk hold

end Ab
end Go.Proofs.YtgkaidnfmkncmaaDoor

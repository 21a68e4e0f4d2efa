/-
  DERIVED. locksteplaw08.SpoilForm: it writes over a form's own objects alone.
  Conditions: sizes below a row's limit.
-/
import Derived.Test.YtgkaidnfmkncmaaDoorS17
set_option linter.all false
set_option maxHeartbeats 4000000
namespace Go.Proofs.YtgkaidnfmkncmaaDoor
namespace Ab
open Go.Lib
set_option maxRecDepth 100000
set_option maxHeartbeats 4000000
attribute [local simp] rowsOf

/-- A key's row whose columns lie in memory. -/
def SRow (hp : Hp) (lo hi kk m : Nat) (r : List AV) : Prop :=
  ∃ s a g len u q, r = [.s s, .rs a g 0 len 1, .b u] ∧ lk hp a = some (g, .arr 1 q) ∧ q.length = len ∧ (∀ c ∈ q, c.length = 1) ∧ lo ≤ a ∧ a < hi ∧ a ≠ kk ∧ len < m

theorem mem_set {α : Type} {l : List α} {i : Nat} {x : α} {P : α → Prop} (h : ∀ c ∈ l, P c) (hx : P x) : ∀ c ∈ l.set i x, P c := by
  intro c hc
  rcases List.mem_or_eq_of_mem_set hc with hc | rfl
  · exact h c hc
  · exact hx

theorem loop13a (call : CallT) (k : Nat) (cl m : Nat) (hcl : cl < m) (hm : m ≤ 2 ^ 20) (hk : m ≤ k) (n1 kc gc nx0 : Nat) (w0 w2 w3 w4 : AV) (hp0 : Hp) (rows0 : List (List AV)) (h1 : lk hp0 kc = some (gc, .arr 4 rows0)) (h2 : rows0.length = cl) (h3 : ∀ r ∈ rows0, r.length = 4) {Q : Ex × St → Prop}
    (hQ : ∀ hp nx, nx0 ≤ nx → (∀ j, j ≠ kc → lk hp j = lk hp0 j) → Q (.exit 0, { env := [(1, .lp 1 n1 0), (2, .i .i64 (cl : Nat)), (9, .b false)], loc := [(1, n1, .cells [w0, .rs kc gc 0 cl 4, w2, w3, w4])], hp := hp, nx := nx })) :
    wp (loopK cfg call k 13 (loopOf Tryd.f13 0) { env := [(1, .lp 1 n1 0), (2, .i .i64 (0 : Nat))], loc := [(1, n1, .cells [w0, .rs kc gc 0 cl 4, w2, w3, w4])], hp := hp0, nx := nx0 }) Q := by
  refine loop_wp (ι := Nat × Nat × Hp × List (List AV)) (fun i => { env := [(1, .lp 1 n1 0), (2, .i .i64 (i.1 : Nat))], loc := [(1, n1, .cells [w0, .rs kc gc 0 cl 4, w2, w3, w4])], hp := i.2.2.1, nx := i.2.1 }) (fun i => cl - i.1)
    (fun i => i.1 ≤ cl ∧ nx0 ≤ i.2.1 ∧ lk i.2.2.1 kc = some (gc, .arr 4 i.2.2.2) ∧ i.2.2.2.length = cl ∧ (∀ r ∈ i.2.2.2, r.length = 4) ∧ ∀ j, j ≠ kc → lk i.2.2.1 j = lk hp0 j) (0, nx0, hp0, rows0) rfl ⟨Nat.zero_le _, Nat.le_refl _, h1, h2, h3, fun j _ => rfl⟩ (by simp only; omega) ?_
  rintro Next ⟨i, nx, hp, rows⟩ ⟨hi0, hnx, hkc, hlen, hrow, hold⟩ hnext
  simp only at hi0 hnx hkc hlen hrow hold hnext ⊢
  by_cases hi : i < cl
  · have c1 : (i : Int) < cl := by omega
    have c2 : (0 : Int) ≤ i := by omega
    have c3 : IntKind.i64.wrap ((i : Int) + 1) = i + 1 := wrap_i64 (by omega) (by omega)
    have hir : i < rows.length := by omega
    obtain ⟨r, hr⟩ : ∃ r, rows[i] = r := ⟨_, rfl⟩
    have hr4 : r.length = 4 := by rw [← hr]; exact hrow _ (List.getElem_mem hir)
    have hd4 : r.drop 4 = [] := List.drop_of_length_le (by omega)
    simp [loopOf, loopsIn, Tryd.f13, Nat.add_assoc, c1, c2, c3, hkc, hir, hr, hr4, hd4]
    exact hnext (i + 1, _, _, rows.set i _) (by simp only; omega) ⟨hi, by simp only; omega, by simp only; rw [lk_set, if_pos rfl], by simp [hlen], mem_set hrow rfl, fun j hj => by simp only; rw [lk_set, if_neg hj]; exact hold j hj⟩
  · obtain rfl : i = cl := by omega
    simp [loopOf, loopsIn, Tryd.f13]
    exact hQ hp _ (by omega) hold

theorem loop13c (call : CallT) (k : Nat) (len m : Nat) (hl : len < m) (hm : m ≤ 2 ^ 20) (hk : m ≤ k) (n1 kk gk kl i0 a g nx0 : Nat) (hak : a ≠ kk) (w0 w1 w3 w4 : AV) (s : ByteArray) (u : Bool) (hp0 : Hp) (rows : List (List AV)) (q0 : List (List AV)) (hi0k : i0 < kl) (h0 : lk hp0 kk = some (gk, .arr 3 rows)) (hri : rows[i0]? = some [.s s, .rs a g 0 len 1, .b u])
    (h1 : lk hp0 a = some (g, .arr 1 q0)) (h2 : q0.length = len) (h3 : ∀ r ∈ q0, r.length = 1) {Q : Ex × St → Prop}
    (hQ : ∀ hp nx q, nx0 ≤ nx → lk hp a = some (g, .arr 1 q) → q.length = len → (∀ r ∈ q, r.length = 1) → (∀ j, j ≠ a → lk hp j = lk hp0 j) → Q (.exit 4, { env := [(1, .lp 1 n1 0), (3, .i .i64 (i0 : Nat)), (4, .i .i64 (len : Nat)), (32, .b false)], loc := [(1, n1, .cells [w0, w1, .rs kk gk 0 kl 3, w3, w4])], hp := hp, nx := nx })) :
    wp (loopK cfg call k 13 (loopOf Tryd.f13 2) { env := [(1, .lp 1 n1 0), (3, .i .i64 (i0 : Nat)), (4, .i .i64 (0 : Nat))], loc := [(1, n1, .cells [w0, w1, .rs kk gk 0 kl 3, w3, w4])], hp := hp0, nx := nx0 }) Q := by
  refine loop_wp (ι := Nat × Nat × Hp × List (List AV)) (fun i => { env := [(1, .lp 1 n1 0), (3, .i .i64 (i0 : Nat)), (4, .i .i64 (i.1 : Nat))], loc := [(1, n1, .cells [w0, w1, .rs kk gk 0 kl 3, w3, w4])], hp := i.2.2.1, nx := i.2.1 }) (fun i => len - i.1)
    (fun i => i.1 ≤ len ∧ nx0 ≤ i.2.1 ∧ lk i.2.2.1 a = some (g, .arr 1 i.2.2.2) ∧ i.2.2.2.length = len ∧ (∀ r ∈ i.2.2.2, r.length = 1) ∧ ∀ j, j ≠ a → lk i.2.2.1 j = lk hp0 j) (0, nx0, hp0, q0) rfl ⟨Nat.zero_le _, Nat.le_refl _, h1, h2, h3, fun j _ => rfl⟩ (by simp only; omega) ?_
  rintro Next ⟨i, nx, hp, q⟩ ⟨hi0, hnx, hla, hlen, hrow, hold⟩ hnext
  simp only at hi0 hnx hla hlen hrow hold hnext ⊢
  have hkk : lk hp kk = some (gk, .arr 3 rows) := by rw [hold kk (Ne.symm hak)]; exact h0
  have hir0 : i0 < rows.length := by
    by_cases h : i0 < rows.length
    · exact h
    · rw [List.getElem?_eq_none (by omega)] at hri; cases hri
  have hri' : rows[i0] = [.s s, .rs a g 0 len 1, .b u] := by
    rw [List.getElem?_eq_getElem hir0] at hri; injection hri
  have b1 : (i0 : Int) < kl := by omega
  have b2 : (0 : Int) ≤ i0 := by omega
  by_cases hi : i < len
  · have c1 : (i : Int) < len := by omega
    have c2 : (0 : Int) ≤ i := by omega
    have c3 : IntKind.i64.wrap ((i : Int) + 1) = i + 1 := wrap_i64 (by omega) (by omega)
    have hir : i < q.length := by omega
    obtain ⟨r, hr⟩ : ∃ r, q[i] = r := ⟨_, rfl⟩
    have hr1 : r.length = 1 := by rw [← hr]; exact hrow _ (List.getElem_mem hir)
    simp [loopOf, loopsIn, Tryd.f13, Nat.add_assoc, c1, c2, c3, b1, b2, hkk, hla, hir, hir0, hri', hr, hr1]
    exact hnext (i + 1, _, _, q.set i _) (by simp only; omega) ⟨hi, by simp only; omega, by simp only; rw [lk_set, if_pos rfl], by simp [hlen], mem_set hrow (by simp [hr1]), fun j hj => by simp only; rw [lk_set, if_neg hj]; exact hold j hj⟩
  · obtain rfl : i = len := by omega
    simp [loopOf, loopsIn, Tryd.f13, b1, b2, hkk, hir0, hri']
    exact hQ hp _ q (by omega) hla hlen hrow hold

theorem SRow.keep {hp hp' : Hp} {lo hi kk m a g : Nat} {len : Nat} {q : List (List AV)} {r : List AV} (h : SRow hp lo hi kk m r) (ha : lk hp' a = some (g, .arr 1 q)) (hq : q.length = len) (hc : ∀ c ∈ q, c.length = 1) (hold : ∀ q', lk hp a = some (g, .arr 1 q') → q'.length = len) (hg : ∀ g' o, lk hp a = some (g', o) → g' = g)
    (hs : ∀ j, j ≠ a → j ≠ kk → lk hp' j = lk hp j) : SRow hp' lo hi kk m r := by
  obtain ⟨s, a1, g1, len1, u, q1, e1, e2, e3, e4, e5, e6, e7, e8⟩ := h
  by_cases haa : a1 = a
  · subst haa
    have hgg := hg _ _ e2
    subst hgg
    have := hold q1 e2
    exact ⟨s, a1, g1, len1, u, q, e1, ha, by omega, hc, e5, e6, e7, e8⟩
  · exact ⟨s, a1, g1, len1, u, q1, e1, by rw [hs a1 haa e7]; exact e2, e3, e4, e5, e6, e7, e8⟩

theorem loop13b (call : CallT) (k : Nat) (kl m : Nat) (hkl : kl < m) (hm : m ≤ 2 ^ 20) (hk : m ≤ k) (n1 kk gk lo hi nx0 : Nat) (hkk0 : lo ≤ kk) (hkk1 : kk < hi) (w0 w1 w3 w4 : AV) (hp0 : Hp) (rows0 : List (List AV)) (h0 : lk hp0 kk = some (gk, .arr 3 rows0)) (hl0 : rows0.length = kl) (hr0 : ∀ r ∈ rows0, SRow hp0 lo hi kk m r) {Q : Ex × St → Prop}
    (hQ : ∀ hp nx, nx0 ≤ nx → (∀ j, j < lo ∨ hi ≤ j → lk hp j = lk hp0 j) → Q (.exit 2, { env := [(1, .lp 1 n1 0), (3, .i .i64 (kl : Nat)), (21, .b false)], loc := [(1, n1, .cells [w0, w1, .rs kk gk 0 kl 3, w3, w4])], hp := hp, nx := nx })) :
    wp (loopK cfg call k 13 (loopOf Tryd.f13 1) { env := [(1, .lp 1 n1 0), (3, .i .i64 (0 : Nat))], loc := [(1, n1, .cells [w0, w1, .rs kk gk 0 kl 3, w3, w4])], hp := hp0, nx := nx0 }) Q := by
  refine loop_wp (ι := Nat × Nat × Hp × List (List AV)) (fun i => { env := [(1, .lp 1 n1 0), (3, .i .i64 (i.1 : Nat))], loc := [(1, n1, .cells [w0, w1, .rs kk gk 0 kl 3, w3, w4])], hp := i.2.2.1, nx := i.2.1 }) (fun i => kl - i.1)
    (fun i => i.1 ≤ kl ∧ nx0 ≤ i.2.1 ∧ lk i.2.2.1 kk = some (gk, .arr 3 i.2.2.2) ∧ i.2.2.2.length = kl ∧ (∀ j r, i.1 ≤ j → i.2.2.2[j]? = some r → SRow i.2.2.1 lo hi kk m r) ∧ ∀ j, j < lo ∨ hi ≤ j → lk i.2.2.1 j = lk hp0 j) (0, nx0, hp0, rows0) rfl ⟨Nat.zero_le _, Nat.le_refl _, h0, hl0, fun j r _ hr => hr0 r (List.mem_of_getElem? hr), fun j _ => rfl⟩ (by simp only; omega) ?_
  rintro Next ⟨i, nx, hp, rows⟩ ⟨hi0, hnx, hkk, hlen, hrow, hold⟩ hnext
  simp only at hi0 hnx hkk hlen hrow hold hnext ⊢
  by_cases hi1 : i < kl
  · have c1 : (i : Int) < kl := by omega
    have c2 : (0 : Int) ≤ i := by omega
    have c3 : IntKind.i64.wrap ((i : Int) + 1) = i + 1 := wrap_i64 (by omega) (by omega)
    have hir : i < rows.length := by omega
    obtain ⟨s, a, g, len, u, q, e1, e2, e3, e4, e5, e6, e7, e8⟩ := hrow i rows[i] (Nat.le_refl _) (List.getElem?_eq_getElem hir)
    have hri : rows[i]? = some [.s s, .rs a g 0 len 1, .b u] := by rw [List.getElem?_eq_getElem hir, e1]
    simp [loopOf, loopsIn, Tryd.f13, Nat.add_assoc, c1, c2, c3, hkk]
    refine loop13c call k len m e8 hm hk n1 kk gk kl i a g _ e7 w0 w1 w3 w4 s u hp rows q hi1 hkk hri e2 e3 e4 ?_
    intro hp' nx' q' s1 s2 s3 s4 s5
    have hkk' : lk hp' kk = some (gk, .arr 3 rows) := by rw [s5 kk (Ne.symm e7)]; exact hkk
    simp [Nat.add_assoc, c1, c2, c3, hkk', hir, e1]
    refine hnext (i + 1, _, _, rows.set i _) (by simp only; omega) ⟨hi1, by simp only; omega, by simp only; rw [lk_set, if_pos rfl], by simp [hlen], ?_, ?_⟩
    · intro j r hj hr
      simp only at hj hr
      rw [List.getElem?_set_ne (by omega)] at hr
      refine (hrow j r (by omega) hr).keep (a := a) (g := g) (len := len) (q := q') (by rw [lk_set, if_neg e7]; exact s2) s3 s4 ?_ ?_ ?_
      · intro q2 hq2
        rw [e2] at hq2
        injection hq2 with hq2
        injection hq2 with _ hq2
        injection hq2 with _ hq2
        rw [← hq2]; exact e3
      · intro g' o ho
        rw [e2] at ho
        injection ho with ho
        injection ho with ho _
        exact ho.symm
      · intro j hj1 hj2
        rw [lk_set, if_neg hj2, s5 j hj1]
    · intro j hj
      simp only
      rw [lk_set, if_neg (by omega), s5 j (by omega)]
      exact hold j hj
  · obtain rfl : i = kl := by omega
    simp [loopOf, loopsIn, Tryd.f13]
    exact hQ hp _ (by omega) hold

theorem run13 (call : CallT) (k : Nat) (t : Tab) (m : Nat) (ok : t.Ok m) (hm : m ≤ 2 ^ 20) (hk : m ≤ k) (hp : Hp) (nx lo hi : Nat) (v : AV) (hv : Holds hp lo hi v t) {Q : AV → Hp → Nat → Prop}
    (hQ : ∀ hp' nx', nx ≤ nx' → (∀ j, j < lo ∨ hi ≤ j → lk hp' j = lk hp j) → Q (.tup []) hp' nx') : Ends cfg call k 13 [v] hp nx Q := by
  have okl := ok.cl
  have okk := ok.kl
  obtain ⟨kc, gc, kk, gk, rows, e1, e2, e3, e4, e5, e6, e7, e8, e9⟩ := hv.h
  subst e1
  have hrl := e4.1
  refine run_wp Tryd.func13 rfl (by simp [Tryd.f13]) ?_
  simp [Nat.add_assoc]
  refine loop13a call k t.cols.length m okl hm hk nx kc gc (nx + 2) _ _ _ _ hp _ e2 (by simp) (by
    intro r hr
    rw [List.mem_map] at hr
    obtain ⟨c, _, rfl⟩ := hr
    rfl) ?_
  intro hp1 nx1 s1 s2
  simp
  refine loop13b call k t.keys.length m okk hm hk nx kk gk lo hi _ e7 e8 _ _ _ _ hp1 rows (by rw [s2 kk (Ne.symm e9)]; exact e3) hrl ?_ ?_
  · intro r hr
    obtain ⟨i, hi1, hi2⟩ := List.getElem_of_mem hr
    have hik : i < t.keys.length := by omega
    obtain ⟨a, g, q1, q2, q3, q4, q5, q6⟩ := e4.2 i r t.keys[i] (by rw [List.getElem?_eq_getElem hi1, hi2]) (List.getElem?_eq_getElem hik)
    exact ⟨_, a, g, _, _, _, q1, by rw [s2 a q5]; exact q2, ints_len _, by
      intro c hc
      simp only [ints, List.mem_map] at hc
      obtain ⟨x, _, rfl⟩ := hc
      rfl, q3, q4, q6, (ok.k _ (List.getElem_mem hik)).c⟩
  · intro hp2 nx2 r1 r2
    simp
    refine hQ _ _ (by omega) fun j hj => ?_
    rw [r2 j hj, s2 j (by omega)]

end Ab
end Go.Proofs.YtgkaidnfmkncmaaDoor

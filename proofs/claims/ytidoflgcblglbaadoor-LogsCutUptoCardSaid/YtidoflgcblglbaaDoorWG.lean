/-
  DERIVED. lockstepref26.Behind.
  Conditions: enough rounds, enough depth; bounded lengths.
-/
import Derived.Test.YtidoflgcblglbaaDoorWE
import Derived.Test.YtidoflgcblglbaaDoorB0
set_option linter.all false
set_option maxHeartbeats 4000000
namespace Go.Proofs.YtidoflgcblglbaaDoor
namespace Ab
open Go.Lib
set_option maxRecDepth 100000
set_option maxHeartbeats 4000000
set_option linter.all false
attribute [local simp] wp_region regionA opsA nCall rCall goCallR pCall pnCall lenA appendA appRow newsA rowsSz rowsOf isIntD makeSliceA elemOf rowsBuilt eqA eq1

theorem key_rec (zp za : Bool) (r : Rec) : keyRow (recCells zp za r) = r.id := by simp [keyRow, recCells]
/-- Rows whose number is greater. -/
def outR (rows : List (List AV)) (id i : Nat) : List (List AV) := (rows.take i).filter fun c => decide (id < keyRow c)
theorem c_rBehind {K n nx : Nat} (hK : big K) (hn : 1 ≤ n) {z : Bool} {rows : List (List AV)} {l : List Rec} (hv : RecsV (.vs z 6 rows) l) (hl : l.length ≤ 2 ^ 20) (id : Nat) :
    Sp K n 16 [.vs z 6 rows, .i .u64 (id : Nat)] [] nx fun v hp' nx' => nx ≤ nx' ∧ (∀ j x, lk hp' j = some x → nx ≤ j ∧ j < nx') ∧ ((outR rows id l.length = [] ∧ v = .vs true 0 []) ∨ ∃ kn g, v = .rs kn g 0 (outR rows id l.length).length 6 ∧ lk hp' kn = some (g, .arr 6 (outR rows id l.length)) ∧ nx ≤ kn ∧ kn < nx') := by
  refine sp_cps fun Q hQ => ?_
  obtain ⟨n, rfl⟩ : ∃ m, n = m + 1 := ⟨n - 1, by omega⟩
  have hv0 := hv
  obtain ⟨z', rows', e, hrl, _, hrow⟩ := hv0
  cases e
  refine sp_of rfl (run_wp Tryd.func16 rfl (by simp [Tryd.f16]) ?_)
  simp
  refine loop_wp (ι := Nat × AV × Hp × Nat) (fun i => { env := [(0, .vs z 6 rows), (1, .i .u64 (id : Nat)), (5, i.2.1), (6, .i .i64 (i.1 : Nat))], loc := [], hp := i.2.2.1, nx := i.2.2.2 }) (fun i => l.length - i.1)
    (fun i => i.1 ≤ l.length ∧ nx ≤ i.2.2.2 ∧ (∀ j x, lk i.2.2.1 j = some x → nx ≤ j ∧ j < i.2.2.2) ∧ ((outR rows id i.1 = [] ∧ i.2.1 = .vs true 0 []) ∨ ∃ kn g, i.2.1 = .rs kn g 0 (outR rows id i.1).length 6 ∧ lk i.2.2.1 kn = some (g, .arr 6 (outR rows id i.1)) ∧ nx ≤ kn ∧ kn < i.2.2.2)) (0, .vs true 0 [], [], _) rfl ⟨Nat.zero_le _, by simp only; omega, fun j x h => (by cases h), .inl ⟨rfl, rfl⟩⟩ (by simp; unfold big at hK; omega) ?_
  rintro Next ⟨i, sv, hp, N⟩ ⟨hi, hN, hkeys, hsv⟩ hnext
  simp only at hi hN hkeys hsv hnext
  by_cases hlt : i < l.length
  · obtain ⟨r, hr⟩ : ∃ r, l[i]? = some r := ⟨_, List.getElem?_eq_getElem hlt⟩
    obtain ⟨zp, za, hrc, _, _⟩ := recs_at hv hr
    have c1 : (i : Int) < l.length := by omega
    have c3 : IntKind.i64.wrap ((i : Int) + 1) = ((i + 1 : Nat) : Int) := by rw [wrap_i64 (by omega) (by omega)]; omega
    have hout : outR rows id (i + 1) = outR rows id i ++ if id < r.id then [recCells zp za r] else [] := by
      unfold outR
      rw [List.take_add_one, hrc, List.filter_append]
      congr 1
      by_cases g : id < r.id
      · simp [key_rec, g]
      · simp [key_rec, g]
    have holen : (outR rows id i).length ≤ i := by
      unfold outR
      exact Nat.le_trans (List.length_filter_le _ _) (by rw [List.length_take]; omega)
    by_cases g : id < r.id
    · have g1 : (id : Int) < r.id := by omega
      rw [if_pos g] at hout
      rcases hsv with ⟨h0, rfl⟩ | ⟨kn, gg, rfl, hlk, h1, h2⟩
      · rw [h0, List.nil_append] at hout
        simp [hrl, c1, hrc, recCells, g1, c3, mostB, lk_set]
        refine hnext (i + 1, .rs (N + 4 + 7 + 6) 0 0 1 6, up (up hp (N + 4 + 7 + 5) (0, AO.arr 6 [recCells zp za r])) (N + 4 + 7 + 6) (0, AO.arr 6 [recCells zp za r]), _) (by simp only; omega) ⟨by simp only; omega, by simp only; omega, fun j x h => ?_, .inr ⟨N + 4 + 7 + 6, 0, ?_, ?_, by first | omega | (simp only; omega), by first | omega | (simp only; omega)⟩⟩
        · simp only [lk_set] at h
          split at h
          · simp only; omega
          · split at h
            · simp only; omega
            · have := hkeys j x h; simp only; omega
        · simp only [hout]; rfl
        · simp only [lk_set, if_true, hout]
      · have hsh : shown (outR rows id i) 0 (outR rows id i).length = outR rows id i := shown_all rfl
        have hb : ((outR rows id i).length + 1) * 89 ≤ 68719476736 := by omega
        have hne : ∀ c, ¬ kn = N + c := fun c => by omega
        simp [hrl, c1, hrc, recCells, g1, c3, mostB, lk_set, hlk, hne, hsh, hb, Nat.add_assoc]
        refine hnext (i + 1, .rs kn (gg + 1) 0 ((outR rows id i).length + 1) 6, up (up hp (N + 16) (0, AO.arr 6 [recCells zp za r])) kn (gg + 1, AO.arr 6 (outR rows id i ++ [recCells zp za r])), _) (by simp only; omega) ⟨by simp only; omega, by simp only; omega, fun j x h => ?_, .inr ⟨kn, gg + 1, ?_, ?_, by first | omega | (simp only; omega), by first | omega | (simp only; omega)⟩⟩
        · simp only [lk_set] at h
          split at h
          · simp only; omega
          · split at h
            · simp only; omega
            · have := hkeys j x h; simp only; omega
        · simp only [hout, List.length_append, List.length_singleton]
        · simp only [lk_set, if_true, hout]
    · have g1 : ¬ (id : Int) < r.id := by omega
      rw [if_neg g, List.append_nil] at hout
      simp [hrl, c1, hrc, recCells, g1, c3]
      exact hnext (i + 1, sv, hp, _) (by simp only; omega) ⟨by simp only; omega, by simp only; omega, fun j x h => by have := hkeys j x h; simp only; omega, by
        simp only
        rw [hout]
        rcases hsv with h | ⟨kn, gg, q1, q2, q3, q4⟩
        · exact .inl h
        · exact .inr ⟨kn, gg, q1, q2, q3, by omega⟩⟩
  · have hil : i = l.length := by omega
    subst hil
    rcases hsv with ⟨h0, rfl⟩ | ⟨kn, gg, rfl, hlk, h1, h2⟩
    · simp [hrl]
      exact hQ _ _ _ ⟨by omega, fun j x h => by have := hkeys j x h; omega, .inl ⟨h0, rfl⟩⟩
    · simp [hrl]
      exact hQ _ _ _ ⟨by omega, fun j x h => by have := hkeys j x h; omega, .inr ⟨kn, gg, rfl, hlk, by omega, by omega⟩⟩

end Ab
end Go.Proofs.YtidoflgcblglbaaDoor

/-
  DERIVED. slices.SortFunc of records by their numbers, as the relation tells it.
  Conditions: distinct numbers.
-/
namespace Go.Proofs.YtidoflgcblglbaaDoor
namespace Ab
open Go.Lib
set_option maxRecDepth 100000
set_option maxHeartbeats 4000000
set_option linter.all false
attribute [local simp] wp_region regionA opsA nCall rCall goCallR pCall pnCall lenA appendA appRow newsA rowsSz rowsOf isIntD makeSliceA elemOf rowsBuilt eqA eq1

theorem sorted_one {a b : List (List AV)} (h : a.Perm b) (ha : (a.map keyRow).Pairwise (· < ·)) (hb : (b.map keyRow).Pairwise (· < ·)) : a = b := by
  refine List.Perm.eq_of_pairwise (le := fun x y => keyRow x < keyRow y) ?_ (by rw [List.pairwise_map] at ha; exact ha) (by rw [List.pairwise_map] at hb; exact hb) h
  intro x y _ _ h1 h2
  exact absurd h1 (by omega)
theorem h_sort {K n k g nx : Nat} {hp : Hp} {rows rows' : List (List AV)} (hk : lk hp k = some (g, .arr 6 rows)) (hr : ∀ r ∈ rows, KeyRow r) (hnd : (rows.map keyRow).Nodup) (hl : rows.length < 2 ^ 40) (hp' : rows'.Perm rows) (hs : (rows'.map keyRow).Pairwise (· < ·)) :
    Sp K (n + 1) 37 [.rs k g 0 rows.length 6, .fn 38 []] hp nx fun r hp2 nx' => r = .tup [] ∧ hp2 = up hp k (g, .arr 6 rows') ∧ nx' = nx := by
  refine sp_hint (h := hintOf RSort) rfl (hintOf_of (o := (.tup [], up hp k (g, .arr 6 rows'), nx)) (.inr ⟨k, g, rows, rows', rfl, hk, hr, hnd, hl, hp', hs, rfl⟩) ?_) ⟨rfl, rfl, rfl⟩
  intro o' ho
  rcases ho with ⟨z, sz, f, e, _⟩ | ⟨k2, g2, rows2, rows3, e, hk2, _, _, _, hp2, hs2, rfl⟩
  · cases e
  · simp only [List.cons.injEq, AV.rs.injEq, and_true, true_and] at e
    obtain ⟨rfl, rfl, _⟩ := e
    rw [hk] at hk2
    cases hk2
    rw [sorted_one (hp2.trans hp'.symm) hs2 hs]
theorem h_sort0 {K n nx : Nat} {hp : Hp} {z : Bool} {sz : Nat} : Sp K (n + 1) 37 [.vs z sz [], .fn 38 []] hp nx fun r hp2 nx' => r = .tup [] ∧ hp2 = hp ∧ nx' = nx := by
  refine sp_hint (h := hintOf RSort) rfl (hintOf_of (o := (.tup [], hp, nx)) (.inl ⟨z, sz, _, rfl, rfl, rfl⟩) ?_) ⟨rfl, rfl, rfl⟩
  intro o' ho
  rcases ho with ⟨z, sz, f, e, _, rfl⟩ | ⟨k2, g2, rows2, rows3, e, _⟩
  · rfl
  · cases e

theorem sort_ex {rows : List (List AV)} (hnd : (rows.map keyRow).Nodup) : ∃ rows' : List (List AV), rows'.Perm rows ∧ (rows'.map keyRow).Pairwise (· < ·) := by
  have hp := List.mergeSort_perm rows (fun a b => decide (keyRow a ≤ keyRow b))
  refine ⟨_, hp, ?_⟩
  have tr : ∀ (x y z : List AV), decide (keyRow x ≤ keyRow y) = true → decide (keyRow y ≤ keyRow z) = true → decide (keyRow x ≤ keyRow z) = true := fun x y z h1 h2 => by
    simp only [decide_eq_true_eq] at *
    omega
  have to : ∀ (x y : List AV), (decide (keyRow x ≤ keyRow y) || decide (keyRow y ≤ keyRow x)) = true := fun x y => by
    simp only [Bool.or_eq_true, decide_eq_true_eq]
    omega
  have h1 := List.pairwise_mergeSort tr to rows
  have h2 : ((rows.mergeSort fun a b => decide (keyRow a ≤ keyRow b)).map keyRow).Nodup := (hp.map keyRow).nodup_iff.2 hnd
  rw [List.pairwise_map]
  unfold List.Nodup at h2
  rw [List.pairwise_map] at h2
  exact (h1.and h2).imp fun h => by
    have a := h.1
    have b := h.2
    simp only [decide_eq_true_eq] at a
    omega

end Ab
end Go.Proofs.YtidoflgcblglbaaDoor

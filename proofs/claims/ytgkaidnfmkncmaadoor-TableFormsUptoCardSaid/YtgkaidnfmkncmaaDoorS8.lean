/-
  DERIVED. lockstepref08.column and table.column: what they come to.
  Conditions: lists shorter than the rounds that are let.
-/
import Derived.Test.YtgkaidnfmkncmaaDoorS7
set_option linter.all false
namespace Go.Proofs.YtgkaidnfmkncmaaDoor
namespace Ab
open Go.Lib
set_option maxRecDepth 100000

/-- The end of a column's check. -/
def colEnd (c : Col) : Int := if c.t < 1 then 7 else if 4 < c.t then 7
  else if c.t = 3 then (if c.m < 1 then 1 else if 4096 < c.m then 1 else 0) else if c.m = 0 then 0 else 1
theorem colChk_eq (ahead : List Col) (c : Col) : colChk ahead c = if nameOk c.n = false then 6 else if ahead.any (fun x => x.n.toList == c.n.toList) then 6 else colEnd c := rfl

theorem run29 (call : CallT) (k : Nat) (z : Bool) (l : List Col) (c : Col) (h28 : pR call 28 [.s c.n] = some (.b (nameOk c.n))) (h40 : pR call 40 [.vs z 4 (l.map Col.row), .fn 41 [.vp c.row]] = some (.b (l.any (fun x => x.n.toList == c.n.toList)))) :
    Ends cfg call k 29 [.agg c.row, .vs z 4 (l.map Col.row)] [] 0 fun r _ _ => r = .i .i64 (colChk l c) := by
  refine run_wp Tryd.func29 rfl (by simp [Tryd.f29]) ?_
  rw [colChk_eq]
  obtain ⟨n, t, m, nn⟩ := c
  simp only [Col.row] at *
  cases hn : nameOk n
  · simp [h28, hn]
  cases ha : l.any (fun x => x.n.toList == n.toList)
  · unfold colEnd
    by_cases h1 : t < 1
    · simp [h28, hn, h40, ha, h1]
    by_cases h2 : 4 < t
    · simp [h28, hn, h40, ha, h1, h2]
    by_cases h3 : t = 3
    · subst h3
      by_cases h4 : m < 1
      · simp [h28, hn, h40, ha, h4]
      by_cases h5 : 4096 < m
      · simp [h28, hn, h40, ha, h4, h5]
      simp [h28, hn, h40, ha, h4, h5]
    have h3' : (t == 3) = false := by simp [h3]
    have h3'' : (t != 3) = true := by simp [h3]
    by_cases h4 : m = 0
    · subst h4; simp [h28, hn, h40, ha, h1, h2, h3', h3'', h3]
    have h4' : (m != 0) = true := by simp [h4]
    simp [h28, hn, h40, ha, h1, h2, h3', h3'', h3, h4, h4']
  · simp [h28, hn, h40, ha]

theorem run21 (call : CallT) (k : Nat) (z : Bool) (l : List Col) (i : Nat) (hi : i < l.length) (hl : l.length < 2 ^ 40) (hk : l.length < k) (h20 : pR call 20 [.s l[i].n] = some (.b (nameOk l[i].n))) :
    Ends cfg call k 21 [.vs z 4 (l.map Col.row), .i .i64 (i : Nat)] [] 0 fun r _ _ => r = .i .i64 (colChk (l.take i) l[i]) := by
  rw [colChk_eq]
  have c0 : (0 : Int) ≤ i := by omega
  obtain ⟨c, hc⟩ : ∃ c, l[i] = c := ⟨_, rfl⟩
  rw [hc] at h20 ⊢
  obtain ⟨n, t, m, nn⟩ := c
  simp only at h20
  show Ends cfg call k 21 _ _ _ fun r _ _ => r = .i .i64 (if nameOk n = false then 6 else if (l.take i).any (fun x => x.n.toList == n.toList) = true then 6 else colEnd ⟨n, t, m, nn⟩)
  obtain ⟨b, hb⟩ : ∃ b, (l.take i).any (fun x => x.n.toList == n.toList) = b := ⟨_, rfl⟩
  rw [hb]
  refine run_wp Tryd.func21 rfl (by simp [Tryd.f21]) ?_
  cases hn : nameOk n
  · simp [c0, hi, hc, Col.row, h20, hn]
  simp [c0, hi, hc, Col.row, h20, hn]
  refine loop_wp (ι := Nat × Nat) (fun j => { env := [(0, .vs z 4 (l.map Col.row)), (1, .i .i64 (i : Nat)), (5, .lp 5 5 0), (6, .i .i64 (j.1 : Nat))], loc := [(5, 5, .cells [.s n, .i .i64 t, .i .i64 m, .b nn])], hp := [], nx := j.2 }) (fun j => i - j.1)
    (fun j => j.1 ≤ i ∧ ((l.take i).drop j.1).any (fun x => x.n.toList == n.toList) = b) (0, 12) (by simp) ⟨Nat.zero_le _, hb⟩ (by simp only; omega) ?_
  rintro Next ⟨j, nx⟩ ⟨hp, ha⟩ hnext
  simp only at hp ha hnext ⊢
  by_cases hj : j < i
  · have hjl : j < l.length := by omega
    have c1 : (j : Int) < i := by omega
    have c2 : (0 : Int) ≤ j := by omega
    have c3 : IntKind.i64.wrap ((j : Int) + 1) = j + 1 := wrap_i64 (by omega) (by omega)
    have hd : (l.take i).drop j = l[j] :: (l.take i).drop (j + 1) := by
      rw [List.drop_eq_getElem_cons (by simp; omega)]; simp
    rw [hd, List.any_cons] at ha
    cases hv : l[j].n.toList == n.toList
    · rw [hv, Bool.false_or] at ha
      simp [c1, c2, c3, hjl, Col.row, hv]
      refine ⟨⟨by kernel_rfl, by kernel_rfl⟩, ?_⟩
      exact hnext (j + 1, _) (by simp only; omega) ⟨by simp only; omega, ha⟩
    · rw [hv, Bool.true_or] at ha
      simp [c1, c2, c3, hjl, Col.row, hv, ← ha]
      exact ⟨by kernel_rfl, by kernel_rfl⟩
  · obtain rfl : j = i := by omega
    obtain rfl : false = b := by
      rw [← ha, List.drop_of_length_le (by simp; omega)]; rfl
    simp only [Bool.false_eq_true, if_false]
    unfold colEnd
    by_cases h1 : t < 1
    · simp [h1]
    by_cases h2 : 4 < t
    · simp [h1, h2]
    by_cases h3 : t = 3
    · subst h3
      by_cases h4 : m < 1
      · simp [h4]
      by_cases h5 : 4096 < m
      · simp [h4, h5]
      simp [h4, h5]
    have h3' : (t == 3) = false := by simp [h3]
    have h3'' : (t != 3) = true := by simp [h3]
    by_cases h4 : m = 0
    · subst h4; simp [h1, h2, h3', h3'', h3]
    have h4' : (m != 0) = true := by simp [h4]
    simp [h1, h2, h3', h3'', h3, h4, h4']

end Ab
end Go.Proofs.YtgkaidnfmkncmaaDoor

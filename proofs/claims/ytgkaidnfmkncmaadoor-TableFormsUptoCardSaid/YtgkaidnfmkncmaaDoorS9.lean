/-
  DERIVED. table.key and lockstepref08.key: what they come to.
  Conditions: lists shorter than the rounds that are let.
-/
import Derived.Test.YtgkaidnfmkncmaaDoorS8
set_option linter.all false
namespace Go.Proofs.YtgkaidnfmkncmaaDoor
namespace Ab
open Go.Lib
set_option maxRecDepth 100000

/-- The end of a key's check. -/
def keyEnd (cols : Int) (cs : List Int) : Int := if cs = [] then 1 else if 4 < cs.length then 1 else if colsIn cols [] cs then 0 else 1
theorem keyChk_eq (cols : Int) (ahead : List Key) (c : Key) : keyChk cols ahead c = if nameOk c.n = false then 6 else if ahead.any (fun x => x.n.toList == c.n.toList) then 6 else keyEnd cols c.cs := rfl

theorem take_next {α : Type} {l : List α} {i : Nat} (h : i < l.length) : l.take i ++ [l[i]] = l.take (i + 1) := by simp

theorem run30 (call : CallT) (k : Nat) (z : Bool) (l : List Key) (c : Key) (cols : Nat) (hz : c.z = true → c.cs = []) (hl : c.cs.length < 2 ^ 40) (hk : c.cs.length < k)
    (h28 : pR call 28 [.s c.n] = some (.b (nameOk c.n))) (h42 : pR call 42 [.vs z 3 (l.map Key.row), .fn 43 [.vp c.row]] = some (.b (l.any (fun x => x.n.toList == c.n.toList))))
    (h33 : ∀ (y : Bool) (q : List Int) (v : Int), q.length ≤ c.cs.length → pR call 33 [.vs y 1 (ints q), .i .i64 v] = some (.b (q.any (v == ·)))) :
    Ends cfg call k 30 [.agg c.row, .vs z 3 (l.map Key.row), .i .i64 (cols : Nat)] [] 0 fun r _ _ => r = .i .i64 (keyChk cols l c) := by
  rw [keyChk_eq]
  obtain ⟨n, y, cs, u⟩ := c
  simp only [Key.row] at *
  show Ends cfg call k 30 _ _ _ fun r _ _ => r = .i .i64 (if nameOk n = false then 6 else if l.any (fun x => x.n.toList == n.toList) = true then 6 else keyEnd cols cs)
  obtain ⟨b, hb⟩ : ∃ b, l.any (fun x => x.n.toList == n.toList) = b := ⟨_, rfl⟩
  rw [hb] at h42 ⊢
  obtain ⟨e, he⟩ : ∃ e, keyEnd cols cs = e := ⟨_, rfl⟩
  rw [he]
  refine run_wp Tryd.func30 rfl (by simp [Tryd.f30]) ?_
  cases hn : nameOk n
  · simp [h28, hn]
  cases b
  · unfold keyEnd at he
    by_cases h1 : cs = []
    · simp only [h1, if_true] at he
      subst he
      have h1'' : (((cs.length : Nat) : Int) == 0) = true := by simp [h1]
      simp [h28, hn, h42, h1'', ints_len]
    have h1' : cs.length ≠ 0 := fun h => h1 (List.length_eq_zero_iff.1 h)
    have h1'' : (((cs.length : Nat) : Int) == 0) = false := by simp; omega
    by_cases h2 : 4 < cs.length
    · have h2' : (4 : Int) < cs.length := by omega
      simp only [h1, h2, if_true, if_false] at he
      subst he
      simp [h28, hn, h42, h1'', h2', ints_len]
    have h2' : ¬ (4 : Int) < cs.length := by omega
    have hy : y = false := by
      cases y with
      | false => rfl
      | true => exact absurd (hz rfl) h1
    subst hy
    simp only [h1, h2, if_false] at he
    simp [h28, hn, h42, h1'', h2', ints_len]
    refine loop_wp (ι := Nat × Nat × List (Nat × AV)) (fun i => { env := [(2, .i .i64 (cols : Nat)), (3, .ptr 0 0 0), (29, .vs false 1 (ints cs)), (30, .i .i64 (cs.length : Nat)), (31, .i .i64 (i.1 : Nat))], loc := [], hp := [(0, 0, .cells [.s n, .vs false 1 (ints cs), .b u])], nx := i.2.1 }) (fun i => cs.length - i.1)
      (fun i => i.1 ≤ cs.length ∧ colsIn cols (cs.take i.1) (cs.drop i.1) = colsIn cols [] cs) (0, _, []) rfl ⟨Nat.zero_le _, by simp⟩ (by simpa using hk) ?_
    rintro Next ⟨i, nx, ee⟩ ⟨hp, ha⟩ hnext
    simp only at hp ha hnext ⊢
    by_cases hi : i < cs.length
    · have c1 : (i : Int) < cs.length := by omega
      have c2 : (0 : Int) ≤ i := by omega
      have c3 : IntKind.i64.wrap ((i : Int) + 1) = i + 1 := wrap_i64 (by omega) (by omega)
      have hg : (ints cs)[i]? = some [.i .i64 cs[i]] := ints_get (List.getElem?_eq_getElem hi)
      rw [List.drop_eq_getElem_cons hi, colsIn, take_next hi] at ha
      have h33' := h33 false (cs.take i) cs[i] (by simp; omega)
      by_cases h3 : cs[i] < 0
      · simp only [h3, decide_true, Bool.not_true, Bool.false_and] at ha
        rw [← ha] at he
        subst he
        simp [c1, c2, hg, h3]
      by_cases h4 : (cols : Int) ≤ cs[i]
      · simp only [h4, decide_true, Bool.not_true, Bool.and_false, Bool.false_and] at ha
        rw [← ha] at he
        subst he
        simp [c1, c2, hg, h3, h4]
      cases h5 : (cs.take i).any (cs[i] == ·)
      · rw [h5] at h33'
        simp only [h3, h4, h5, decide_false, Bool.not_false, Bool.true_and] at ha
        simp [c1, c2, c3, hg, h3, h4, hp, ints_take, h33', ints_len]
        exact hnext (i + 1, _, []) (by simp only; omega) ⟨hi, ha⟩
      · rw [h5] at h33'
        simp only [h3, h4, h5, decide_false, Bool.not_false, Bool.true_and, Bool.not_true, Bool.false_and] at ha
        rw [← ha] at he
        subst he
        simp [c1, c2, hg, h3, h4, hp, ints_take, h33', ints_len]
    · obtain rfl : i = cs.length := by omega
      have : colsIn cols [] cs = true := by
        rw [← ha, List.drop_of_length_le (Nat.le_refl _)]; rfl
      rw [this] at he
      subst he
      simp
  · simp [h28, hn, h42]

theorem run22 (call : CallT) (k : Nat) (t : Tab) (i : Nat) (hi : i < t.keys.length) (hkl : t.keys.length < 2 ^ 40) (hk : t.keys.length < k) (hcl : t.keys[i].cs.length < 2 ^ 40) (hck : t.keys[i].cs.length < k) (h20 : pR call 20 [.s t.keys[i].n] = some (.b (nameOk t.keys[i].n))) :
    Ends cfg call k 22 [.agg t.row, .i .i64 (i : Nat)] [] 0 fun r _ _ => r = .i .i64 (keyChk t.cols.length (t.keys.take i) t.keys[i]) := by
  rw [keyChk_eq]
  have c0 : (0 : Int) ≤ i := by omega
  obtain ⟨tn, zc, zk, cols, l, part, most⟩ := t
  simp only [Tab.row] at *
  have hi : i < l.length := hi
  have hkl : l.length < 2 ^ 40 := hkl
  have hk : l.length < k := hk
  obtain ⟨c, hc⟩ : ∃ c, l[i] = c := ⟨_, rfl⟩
  rw [hc] at h20 hcl hck ⊢
  obtain ⟨n, y, cs, u⟩ := c
  simp only at h20 hcl hck
  show Ends cfg call k 22 _ _ _ fun r _ _ => r = .i .i64 (if nameOk n = false then 6 else if (l.take i).any (fun x => x.n.toList == n.toList) = true then 6 else keyEnd cols.length cs)
  obtain ⟨b, hb⟩ : ∃ b, (l.take i).any (fun x => x.n.toList == n.toList) = b := ⟨_, rfl⟩
  rw [hb]
  obtain ⟨e, he⟩ : ∃ e, keyEnd cols.length cs = e := ⟨_, rfl⟩
  rw [he]
  refine run_wp Tryd.func22 rfl (by simp [Tryd.f22]) ?_
  cases hn : nameOk n
  · simp [c0, hi, hc, Key.row, h20, hn]
  simp [c0, hi, hc, Key.row, h20, hn]
  refine loop_wp (ι := Nat × Nat) (fun j => { env := [(1, .i .i64 (i : Nat)), (2, .lp 2 0 0), (5, .lp 5 7 0), (6, .i .i64 (j.1 : Nat))], loc := [(2, 0, .cells [.s tn, .vs zc 4 (cols.map Col.row), .vs zk 3 (l.map Key.row), .i .i64 part, .i .i64 most]), (5, 7, .cells [.s n, .vs y 1 (ints cs), .b u])], hp := [], nx := j.2 }) (fun j => i - j.1)
    (fun j => j.1 ≤ i ∧ ((l.take i).drop j.1).any (fun x => x.n.toList == n.toList) = b) (0, _) rfl ⟨Nat.zero_le _, hb⟩ (by simp only; omega) ?_
  rintro Next ⟨j, nx⟩ ⟨hp, ha⟩ hnext
  simp only at hp ha hnext ⊢
  by_cases hj : j < i
  · have hjl : j < l.length := by omega
    have c1 : (j : Int) < i := by omega
    have c2 : (0 : Int) ≤ j := by omega
    have c3 : IntKind.i64.wrap ((j : Int) + 1) = j + 1 := wrap_i64 (by omega) (by omega)
    have hd : (l.take i).drop j = l[j] :: (l.take i).drop (j + 1) := by
      rw [List.drop_eq_getElem_cons (by simp; omega)]; simp
    rw [hd, List.any_cons] at ha
    cases hv : l[j].n.toList == n.toList
    · rw [hv, Bool.false_or] at ha
      simp [c1, c2, c3, hjl, Key.row, hv]
      refine ⟨⟨by kernel_rfl, by kernel_rfl⟩, ?_⟩
      exact hnext (j + 1, _) (by simp only; omega) ⟨by simp only; omega, ha⟩
    · rw [hv, Bool.true_or] at ha
      simp [c1, c2, hjl, Key.row, hv, ← ha]
      exact ⟨by kernel_rfl, by kernel_rfl⟩
  · obtain rfl : j = i := by omega
    obtain rfl : false = b := by
      rw [← ha, List.drop_of_length_le (by simp; omega)]; rfl
    simp only [Bool.false_eq_true, if_false]
    unfold keyEnd at he
    by_cases h1 : cs = []
    · have h1'' : ((cs.length : Nat) : Int) < 1 := by simp [h1]
      simp only [h1, if_true] at he
      subst he
      simp [h1'', ints_len]
    have h1' : cs.length ≠ 0 := fun h => h1 (List.length_eq_zero_iff.1 h)
    have h1'' : ¬ ((cs.length : Nat) : Int) < 1 := by omega
    by_cases h2 : 4 < cs.length
    · have h2' : (4 : Int) < cs.length := by omega
      simp only [h1, h2, if_true, if_false] at he
      subst he
      simp [h1'', h2', ints_len]
    have h2' : ¬ (4 : Int) < cs.length := by omega
    simp only [h1, h2, if_false] at he
    simp [h1'', h2', ints_len]
    refine loop_wp (ι := Nat × Nat) (fun j => { env := [(2, .lp 2 0 0), (5, .lp 5 7 0), (7, .i .i64 (j.1 : Nat))], loc := [(2, 0, .cells [.s tn, .vs zc 4 (cols.map Col.row), .vs zk 3 (l.map Key.row), .i .i64 part, .i .i64 most]), (5, 7, .cells [.s n, .vs y 1 (ints cs), .b u])], hp := [], nx := j.2 }) (fun j => cs.length - j.1)
      (fun i => i.1 ≤ cs.length ∧ colsIn cols.length (cs.take i.1) (cs.drop i.1) = colsIn cols.length [] cs) (0, _) rfl ⟨Nat.zero_le _, by simp⟩ (by simp only; omega) ?_
    rintro Next2 ⟨i, nx2⟩ ⟨hp, ha⟩ hnext2
    simp only at hp ha hnext2 ⊢
    by_cases hi : i < cs.length
    · have c1 : (i : Int) < cs.length := by omega
      have c2 : (0 : Int) ≤ i := by omega
      have c3 : IntKind.i64.wrap ((i : Int) + 1) = i + 1 := wrap_i64 (by omega) (by omega)
      have hg : (ints cs)[i]? = some [.i .i64 cs[i]] := ints_get (List.getElem?_eq_getElem hi)
      rw [List.drop_eq_getElem_cons hi, colsIn, take_next hi] at ha
      by_cases h3 : cs[i] < 0
      · simp only [h3, decide_true, Bool.not_true, Bool.false_and] at ha
        rw [← ha] at he
        subst he
        simp [c1, c2, hg, h3, ints_len]
        exact ⟨by kernel_rfl, by kernel_rfl⟩
      by_cases h4 : (cols.length : Int) ≤ cs[i]
      · simp only [h4, decide_true, Bool.not_true, Bool.and_false, Bool.false_and] at ha
        rw [← ha] at he
        subst he
        simp [c1, c2, hg, h3, h4, ints_len]
        exact ⟨by kernel_rfl, by kernel_rfl⟩
      simp only [h3, h4, decide_false, Bool.not_false, Bool.true_and] at ha
      simp [c1, c2, hg, h3, h4, ints_len]
      refine ⟨⟨by kernel_rfl, by kernel_rfl⟩, ?_⟩
      refine loop_wp (ι := Nat × Nat) (fun j => { env := [(2, .lp 2 0 0), (5, .lp 5 7 0), (7, .i .i64 (i : Nat)), (8, .i .i64 (j.1 : Nat))], loc := [(2, 0, .cells [.s tn, .vs zc 4 (cols.map Col.row), .vs zk 3 (l.map Key.row), .i .i64 part, .i .i64 most]), (5, 7, .cells [.s n, .vs y 1 (ints cs), .b u])], hp := [], nx := j.2 }) (fun j => i - j.1)
        (fun j => j.1 ≤ i ∧ ((cs.take i).drop j.1).any (cs[i] == ·) = (cs.take i).any (cs[i] == ·)) (0, _) rfl ⟨Nat.zero_le _, rfl⟩ (by simp only; omega) ?_
      rintro Next3 ⟨j, nx3⟩ ⟨hp3, ha3⟩ hnext3
      simp only at hp3 ha3 hnext3 ⊢
      by_cases hj : j < i
      · have d1 : (j : Int) < i := by omega
        have d2 : (0 : Int) ≤ j := by omega
        have d3 : IntKind.i64.wrap ((j : Int) + 1) = j + 1 := wrap_i64 (by omega) (by omega)
        have hjl : j < cs.length := by omega
        have hg3 : (ints cs)[j]? = some [.i .i64 cs[j]] := ints_get (List.getElem?_eq_getElem hjl)
        have hd : (cs.take i).drop j = cs[j] :: (cs.take i).drop (j + 1) := by
          rw [List.drop_eq_getElem_cons (by simp; omega)]; simp
        rw [hd, List.any_cons] at ha3
        cases hv : cs[i] == cs[j]
        · have hv' : (cs[j] == cs[i]) = false := by
            rw [beq_eq_false_iff_ne] at hv ⊢
            exact fun h => hv h.symm
          rw [hv, Bool.false_or] at ha3
          simp [d1, d2, d3, c2, hg, hg3, hv']
          refine ⟨⟨by kernel_rfl, by kernel_rfl⟩, ?_⟩
          exact hnext3 (j + 1, _) (by simp only; omega) ⟨by simp only; omega, ha3⟩
        · have hv' : (cs[j] == cs[i]) = true := by
            rw [beq_iff_eq] at hv ⊢
            exact hv.symm
          rw [hv, Bool.true_or] at ha3
          rw [← ha3] at ha
          simp only [Bool.not_true, Bool.false_and] at ha
          rw [← ha] at he
          subst he
          simp [d1, d2, c2, hg, hg3, hv']
          exact ⟨by kernel_rfl, by kernel_rfl⟩
      · obtain rfl : j = i := by omega
        have hz : (cs.take j).any (cs[j] == ·) = false := by
          rw [← ha3, List.drop_of_length_le (by simp; omega)]; rfl
        rw [hz] at ha
        simp only [Bool.not_false, Bool.true_and] at ha
        simp [c3]
        exact hnext2 (j + 1, _) (by simp only; omega) ⟨hi, ha⟩
    · obtain rfl : i = cs.length := by omega
      have : colsIn cols.length [] cs = true := by
        rw [← ha, List.drop_of_length_le (Nat.le_refl _)]; rfl
      rw [this] at he
      subst he
      simp [ints_len]

end Ab
end Go.Proofs.YtgkaidnfmkncmaaDoor

/-
  DERIVED. table.Fits, table.fits, lockstepref08.Fits, lockstepref08.fits, lockstepref02.Rows, lockstepref02.Same: what they come to.
  Conditions: lists shorter than the rounds that are let.
-/
import Derived.Test.YtgkaidnfmkncmaaDoorS11
set_option linter.all false
set_option maxHeartbeats 4000000
namespace Go.Proofs.YtgkaidnfmkncmaaDoor
namespace Ab
open Go.Lib
set_option maxRecDepth 100000
set_option maxHeartbeats 4000000

/-- What Fits answers. -/
def fitsAns (t : Tab) (r : List Val) : Int := if tabChk t = 0 then fitChk t r else tabChk t

theorem run8 (call : CallT) (k : Nat) (t : Tab) (z : Bool) (r : List Val) (h19 : pR call 19 [.agg t.row] = some (.i .i64 (tabChk t))) (h23 : pR call 23 [.agg t.row, .vs z 3 (r.map Val.row)] = some (.i .i64 (fitChk t r))) :
    Ends cfg call k 8 [.agg t.row, .vs z 3 (r.map Val.row)] [] 0 fun x _ _ => x = .i .i64 (fitsAns t r) := by
  refine run_wp Tryd.func8 rfl (by simp [Tryd.f8]) ?_
  unfold fitsAns
  by_cases h : tabChk t = 0
  · rw [h] at h19
    simp [h19, h23, h]
  · have h' : (tabChk t != 0) = true := by simp [h]
    simp [h19, h', h]
theorem run9 (call : CallT) (k : Nat) (t : Tab) (z : Bool) (r : List Val) (h19 : pR call 7 [.agg t.row] = some (.i .i64 (tabChk t))) (h23 : pR call 24 [.agg t.row, .vs z 3 (r.map Val.row)] = some (.i .i64 (fitChk t r))) :
    Ends cfg call k 9 [.agg t.row, .vs z 3 (r.map Val.row)] [] 0 fun x _ _ => x = .i .i64 (fitsAns t r) := by
  refine run_wp Tryd.func9 rfl (by simp [Tryd.f9]) ?_
  unfold fitsAns
  by_cases h : tabChk t = 0
  · rw [h] at h19
    simp [h19, h23, h]
  · have h' : (tabChk t != 0) = true := by simp [h]
    simp [h19, h', h]

theorem run23 (call : CallT) (k : Nat) (t : Tab) (z : Bool) (r : List Val) (hl : r.length < 2 ^ 40) (hk : r.length < k) (h35 : ∀ v ∈ r, pR call 35 [.agg v.row] = some (.i .i64 (valChk v))) :
    Ends cfg call k 23 [.agg t.row, .vs z 3 (r.map Val.row)] [] 0 fun x _ _ => x = .i .i64 (fitChk t r) := by
  obtain ⟨e, he⟩ : ∃ e, fitChk t r = e := ⟨_, rfl⟩
  rw [he]
  refine run_wp Tryd.func23 rfl (by simp [Tryd.f23]) ?_
  have hrow : t.row = [.s t.n, .vs t.zc 4 (t.cols.map Col.row), .vs t.zk 3 (t.keys.map Key.row), .i .i64 t.part, .i .i64 t.most] := rfl
  rw [hrow]
  unfold fitChk at he
  by_cases h1 : r.length ≠ t.cols.length
  · have h1' : (((r.length : Nat) : Int) != (t.cols.length : Nat)) = true := by simp; omega
    rw [if_pos h1] at he
    subst he
    simp [h1']
  have h1' : (((r.length : Nat) : Int) != (t.cols.length : Nat)) = false := by simp; omega
  rw [if_neg h1] at he
  simp [h1']
  refine loop_wp (ι := Nat × Nat) (fun i => { env := [(2, .lp 2 0 0), (15, .vs z 3 (r.map Val.row)), (16, .i .i64 (r.length : Nat)), (17, .i .i64 (i.1 : Nat))], loc := [(2, 0, .cells [.s t.n, .vs t.zc 4 (t.cols.map Col.row), .vs t.zk 3 (t.keys.map Key.row), .i .i64 t.part, .i .i64 t.most])], hp := [], nx := i.2 }) (fun i => r.length - i.1)
    (fun i => i.1 ≤ r.length ∧ rowBad (t.cols.drop i.1) (r.drop i.1) = e) (0, _) rfl ⟨Nat.zero_le _, by simpa using he⟩ (by simpa using hk) ?_
  rintro Next ⟨i, nx⟩ ⟨hp, ha⟩ hnext
  simp only at hp ha hnext ⊢
  by_cases hi : i < r.length
  · have c1 : (i : Int) < r.length := by omega
    have c2 : (0 : Int) ≤ i := by omega
    have c3 : IntKind.i64.wrap ((i : Int) + 1) = i + 1 := wrap_i64 (by omega) (by omega)
    have hic : i < t.cols.length := by omega
    have h35' := h35 r[i] (List.getElem_mem hi)
    rw [List.drop_eq_getElem_cons hi, List.drop_eq_getElem_cons hic] at ha
    obtain ⟨v, hv⟩ : ∃ v, r[i] = v := ⟨_, rfl⟩
    obtain ⟨c, hc⟩ : ∃ c, t.cols[i] = c := ⟨_, rfl⟩
    rw [hv] at h35' ha
    rw [hc] at ha
    obtain ⟨vt, vn, vs⟩ := v
    obtain ⟨cn, ct, cm, cnn⟩ := c
    simp only [Val.row] at h35'
    unfold rowBad at ha
    by_cases hb : valChk ⟨vt, vn, vs⟩ = 0
    · rw [hb] at h35'
      simp only [hb, ne_eq, not_true_eq_false, if_false] at ha
      by_cases hz : vt = 0
      · subst hz
        simp only [if_true] at ha
        cases cnn
        · simp only [Bool.false_eq_true, if_false] at ha
          simp [c1, c2, c3, hi, hic, hv, hc, Val.row, Col.row, h35']
          exact hnext (i + 1, _) (by simp only; omega) ⟨hi, ha⟩
        · simp only [if_true] at ha
          subst ha
          simp [c1, c2, hi, hic, hv, hc, Val.row, Col.row, h35']
      have hz' : (vt == 0) = false := by simp [hz]
      simp only [hz, if_false] at ha
      by_cases ht : vt = ct
      · subst ht
        have ht' : (vt != vt) = false := by simp
        simp only [not_true_eq_false, if_false] at ha
        by_cases h3 : vt = 3
        · subst h3
          by_cases hm : cm < vs.size
          · simp only [hm, and_self, if_true] at ha
            subst ha
            simp [c1, c2, hi, hic, hv, hc, Val.row, Col.row, h35', hm]
          · simp only [hm, and_false, if_false] at ha
            simp [c1, c2, c3, hi, hic, hv, hc, Val.row, Col.row, h35', hm]
            exact hnext (i + 1, _) (by simp only; omega) ⟨hi, ha⟩
        · have h3' : (vt == 3) = false := by simp [h3]
          simp only [h3, false_and, if_false] at ha
          simp [c1, c2, c3, hi, hic, hv, hc, Val.row, Col.row, h35', hz', ht', h3']
          exact hnext (i + 1, _) (by simp only; omega) ⟨hi, ha⟩
      · have ht' : (vt != ct) = true := by simp [ht]
        simp only [ht, not_false_eq_true, if_true] at ha
        subst ha
        simp [c1, c2, hi, hic, hv, hc, Val.row, Col.row, h35', hz', ht']
    · have hb' : (valChk ⟨vt, vn, vs⟩ != 0) = true := by simp [hb]
      simp only [ne_eq, hb, not_false_eq_true, if_true] at ha
      subst ha
      simp [c1, c2, hi, hv, Val.row, h35', hb']
  · obtain rfl : i = r.length := by omega
    rw [List.drop_of_length_le (Nat.le_refl _)] at ha
    have : rowBad (t.cols.drop r.length) [] = 0 := by cases t.cols.drop r.length <;> rfl
    rw [this] at ha
    subst ha
    simp

theorem run24 (call : CallT) (k : Nat) (t : Tab) (z : Bool) (r : List Val) (hl : r.length < 2 ^ 40) (hk : r.length < k) (h34 : ∀ v ∈ r, pR call 34 [.agg v.row] = some (.i .i64 (valChk v))) :
    Ends cfg call k 24 [.agg t.row, .vs z 3 (r.map Val.row)] [] 0 fun x _ _ => x = .i .i64 (fitChk t r) := by
  obtain ⟨e, he⟩ : ∃ e, fitChk t r = e := ⟨_, rfl⟩
  rw [he]
  refine run_wp Tryd.func24 rfl (by simp [Tryd.f24]) ?_
  have hrow : t.row = [.s t.n, .vs t.zc 4 (t.cols.map Col.row), .vs t.zk 3 (t.keys.map Key.row), .i .i64 t.part, .i .i64 t.most] := rfl
  rw [hrow]
  unfold fitChk at he
  by_cases h1 : r.length ≠ t.cols.length
  · have h1' : (((r.length : Nat) : Int) != (t.cols.length : Nat)) = true := by simp; omega
    rw [if_pos h1] at he
    subst he
    simp [h1']
  have h1' : (((r.length : Nat) : Int) != (t.cols.length : Nat)) = false := by simp; omega
  rw [if_neg h1] at he
  simp [h1']
  refine loop_wp (ι := Nat × Nat) (fun i => { env := [(1, .vs z 3 (r.map Val.row)), (2, .lp 2 0 0), (5, .i .i64 (i.1 : Nat))], loc := [(2, 0, .cells [.s t.n, .vs t.zc 4 (t.cols.map Col.row), .vs t.zk 3 (t.keys.map Key.row), .i .i64 t.part, .i .i64 t.most])], hp := [], nx := i.2 }) (fun i => r.length - i.1)
    (fun i => i.1 ≤ r.length ∧ rowBad (t.cols.drop i.1) (r.drop i.1) = e) (0, _) rfl ⟨Nat.zero_le _, by simpa using he⟩ (by simpa using hk) ?_
  rintro Next ⟨i, nx⟩ ⟨hp, ha⟩ hnext
  simp only at hp ha hnext ⊢
  by_cases hi : i < r.length
  · have c1 : (i : Int) < r.length := by omega
    have c2 : (0 : Int) ≤ i := by omega
    have c3 : IntKind.i64.wrap ((i : Int) + 1) = i + 1 := wrap_i64 (by omega) (by omega)
    have hic : i < t.cols.length := by omega
    have h34' := h34 r[i] (List.getElem_mem hi)
    rw [List.drop_eq_getElem_cons hi, List.drop_eq_getElem_cons hic] at ha
    obtain ⟨v, hv⟩ : ∃ v, r[i] = v := ⟨_, rfl⟩
    obtain ⟨c, hc⟩ : ∃ c, t.cols[i] = c := ⟨_, rfl⟩
    rw [hv] at h34' ha
    rw [hc] at ha
    obtain ⟨vt, vn, vs⟩ := v
    obtain ⟨cn, ct, cm, cnn⟩ := c
    simp only [Val.row] at h34'
    unfold rowBad at ha
    by_cases hb : valChk ⟨vt, vn, vs⟩ = 0
    · rw [hb] at h34'
      simp only [hb, ne_eq, not_true_eq_false, if_false] at ha
      by_cases hz : vt = 0
      · subst hz
        simp only [if_true] at ha
        cases cnn
        · simp only [Bool.false_eq_true, if_false] at ha
          simp [c1, c2, c3, hi, hic, hv, hc, Val.row, Col.row, h34']
          refine ⟨⟨by kernel_rfl, by kernel_rfl⟩, ⟨by kernel_rfl, by kernel_rfl⟩, ?_⟩
          exact hnext (i + 1, _) (by simp only; omega) ⟨hi, ha⟩
        · simp only [if_true] at ha
          subst ha
          simp [c1, c2, hi, hic, hv, hc, Val.row, Col.row, h34']
      have hz' : (vt == 0) = false := by simp [hz]
      have hz'' : (vt != 0) = true := by simp [hz]
      simp only [hz, if_false] at ha
      by_cases ht : vt = ct
      · subst ht
        have ht' : (vt != vt) = false := by simp
        simp only [not_true_eq_false, if_false] at ha
        by_cases h3 : vt = 3
        · subst h3
          by_cases hm : cm < vs.size
          · simp only [hm, and_self, if_true] at ha
            subst ha
            simp [c1, c2, hi, hic, hv, hc, Val.row, Col.row, h34', hm]
            exact ⟨⟨by kernel_rfl, by kernel_rfl⟩, ⟨by kernel_rfl, by kernel_rfl⟩⟩
          · simp only [hm, and_false, if_false] at ha
            simp [c1, c2, c3, hi, hic, hv, hc, Val.row, Col.row, h34', hm]
            refine ⟨⟨by kernel_rfl, by kernel_rfl⟩, ⟨by kernel_rfl, by kernel_rfl⟩, ?_⟩
            exact hnext (i + 1, _) (by simp only; omega) ⟨hi, ha⟩
        · have h3' : (vt == 3) = false := by simp [h3]
          simp only [h3, false_and, if_false] at ha
          simp [c1, c2, c3, hi, hic, hv, hc, Val.row, Col.row, h34', hz', hz'', ht', h3']
          refine ⟨⟨by kernel_rfl, by kernel_rfl⟩, ⟨by kernel_rfl, by kernel_rfl⟩, ?_⟩
          exact hnext (i + 1, _) (by simp only; omega) ⟨hi, ha⟩
      · have ht' : (vt != ct) = true := by simp [ht]
        simp only [ht, not_false_eq_true, if_true] at ha
        subst ha
        simp [c1, c2, hi, hic, hv, hc, Val.row, Col.row, h34', hz', hz'', ht']
        exact ⟨by kernel_rfl, by kernel_rfl⟩
    · have hb' : (valChk ⟨vt, vn, vs⟩ != 0) = true := by simp [hb]
      simp only [ne_eq, hb, not_false_eq_true, if_true] at ha
      subst ha
      simp [c1, c2, hi, hic, hv, hc, Val.row, Col.row, h34', hb']
  · obtain rfl : i = r.length := by omega
    rw [List.drop_of_length_le (Nat.le_refl _)] at ha
    have : rowBad (t.cols.drop r.length) [] = 0 := by cases t.cols.drop r.length <;> rfl
    rw [this] at ha
    subst ha
    simp

theorem run25 (call : CallT) (k : Nat) (v : Val) : Ends cfg call k 25 [.agg v.row, .agg v.row] [] 0 fun x _ _ => x = .b true := by
  refine run_wp Tryd.func25 rfl (by simp [Tryd.f25]) ?_
  simp [Val.row]

theorem run11 (call : CallT) (k : Nat) (y z : Bool) (r : List Val) (hl : r.length < 2 ^ 40) (hk : r.length < k) (h25 : ∀ v ∈ r, pR call 25 [.agg v.row, .agg v.row] = some (.b true)) :
    Ends cfg call k 11 [.vs y 3 (r.map Val.row), .vs z 3 (r.map Val.row)] [] 0 fun x _ _ => x = .b true := by
  refine run_wp Tryd.func11 rfl (by simp [Tryd.f11]) ?_
  simp
  refine loop_wp (ι := Nat × Nat) (fun i => { env := [(0, .vs y 3 (r.map Val.row)), (1, .vs z 3 (r.map Val.row)), (5, .i .i64 (i.1 : Nat))], loc := [], hp := [], nx := i.2 }) (fun i => r.length - i.1)
    (fun i => i.1 ≤ r.length) (0, _) rfl (Nat.zero_le _) (by simpa using hk) ?_
  rintro Next ⟨i, nx⟩ hp hnext
  simp only at hp hnext ⊢
  by_cases hi : i < r.length
  · have c1 : (i : Int) < r.length := by omega
    have c2 : (0 : Int) ≤ i := by omega
    have c3 : IntKind.i64.wrap ((i : Int) + 1) = i + 1 := wrap_i64 (by omega) (by omega)
    have h25' := h25 r[i] (List.getElem_mem hi)
    simp [c1, c2, c3, hi, h25']
    refine ⟨⟨by kernel_rfl, by kernel_rfl⟩, ?_⟩
    exact hnext (i + 1, _) (by simp only; omega) hi
  · obtain rfl : i = r.length := by omega
    simp

end Ab
end Go.Proofs.YtgkaidnfmkncmaaDoor

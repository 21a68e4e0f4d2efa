/-
  DERIVED. lockstepref08.Check: what it comes to.
  Conditions: lists shorter than the rounds that are let.
-/
import Derived.Test.YtgkaidnfmkncmaaDoorS10
set_option linter.all false
set_option maxHeartbeats 4000000
namespace Go.Proofs.YtgkaidnfmkncmaaDoor
namespace Ab
open Go.Lib
set_option maxRecDepth 100000
set_option maxHeartbeats 4000000

theorem lastChk_nn {t : Tab} {k : Key} (h : k.cs.any (notNN t) = true) : lastChk t k = 84 := by
  unfold lastChk
  have : (k.cs.any fun c => !((t.cols[c.toNat]?.map (·.nn)).getD true)) = true := h
  rw [this]
  split <;> simp

theorem run7 (call : CallT) (k : Nat) (t : Tab) (m : Nat) (ok : t.Ok m) (hm : m ≤ 2 ^ 40) (hk : m ≤ k) (h20 : pR call 20 [.s t.n] = some (.b (nameOk t.n)))
    (h21 : ∀ (i : Nat) (hi : i < t.cols.length), pR call 21 [.vs t.zc 4 (t.cols.map Col.row), .i .i64 (i : Nat)] = some (.i .i64 (colChk (t.cols.take i) t.cols[i])))
    (h22 : ∀ (i : Nat) (hi : i < t.keys.length), pR call 22 [.agg t.row, .i .i64 (i : Nat)] = some (.i .i64 (keyChk t.cols.length (t.keys.take i) t.keys[i]))) :
    Ends cfg call k 7 [.agg t.row] [] 0 fun r _ _ => r = .i .i64 (tabChk t) := by
  obtain ⟨e, he⟩ : ∃ e, tabChk t = e := ⟨_, rfl⟩
  rw [he]
  have okl := ok.cl
  have okk := ok.kl
  refine run_wp Tryd.func7 rfl (by simp [Tryd.f7]) ?_
  have hrow : t.row = [.s t.n, .vs t.zc 4 (t.cols.map Col.row), .vs t.zk 3 (t.keys.map Key.row), .i .i64 t.part, .i .i64 t.most] := rfl
  rw [hrow] at h22 ⊢
  unfold tabChk at he
  cases hn : nameOk t.n
  · simp only [hn, if_true] at he
    subst he
    simp [h20, hn]
  simp only [hn, Bool.true_eq_false, if_false] at he
  by_cases h1 : 16 < t.cols.length
  · have h1' : (16 : Int) < t.cols.length := by omega
    simp only [h1, if_true] at he
    subst he
    simp [h20, hn, h1']
  have h1' : ¬ (16 : Int) < t.cols.length := by omega
  simp only [h1, if_false] at he
  by_cases h2 : t.cols = []
  · have h2' : (((t.cols.length : Nat) : Int) == 0) = true := by simp [h2]
    simp only [h2, if_true] at he
    subst he
    simp [h20, hn, h1', h2']
  have h2'' : t.cols.length ≠ 0 := fun h => h2 (List.length_eq_zero_iff.1 h)
  have h2' : (((t.cols.length : Nat) : Int) == 0) = false := by simp; omega
  simp only [h2, if_false] at he
  simp [h20, hn, h1', h2']
  refine loop_wp (ι := Nat × Nat) (fun i => { env := [(1, .lp 1 0 0), (3, .i .i64 (i.1 : Nat))], loc := [(1, 0, .cells [.s t.n, .vs t.zc 4 (t.cols.map Col.row), .vs t.zk 3 (t.keys.map Key.row), .i .i64 t.part, .i .i64 t.most])], hp := [], nx := i.2 }) (fun i => t.cols.length - i.1)
    (fun i => i.1 ≤ t.cols.length ∧ firstBad colChk (t.cols.take i.1) (t.cols.drop i.1) = firstBad colChk [] t.cols) (0, _) rfl ⟨Nat.zero_le _, by simp⟩ (by simp only; omega) ?_
  rintro Next ⟨i, nx⟩ ⟨hp, ha⟩ hnext
  simp only at hp ha hnext ⊢
  by_cases hi : i < t.cols.length
  · have c1 : (i : Int) < t.cols.length := by omega
    have c3 : IntKind.i64.wrap ((i : Int) + 1) = i + 1 := wrap_i64 (by omega) (by omega)
    have h21' := h21 i hi
    rw [List.drop_eq_getElem_cons hi, firstBad, take_next hi] at ha
    by_cases hb : colChk (t.cols.take i) t.cols[i] = 0
    · rw [hb] at h21'
      simp only [hb, if_true] at ha
      simp [c1, c3, h21']
      exact hnext (i + 1, _) (by simp only; omega) ⟨hi, ha⟩
    · have hb' : (colChk (t.cols.take i) t.cols[i] != 0) = true := by simp [hb]
      simp only [hb, if_false] at ha
      rw [← ha] at he
      simp only [ne_eq, hb, not_false_eq_true, if_true] at he
      subst he
      simp [c1, h21', hb']
  · obtain rfl : i = t.cols.length := by omega
    have hc0 : firstBad colChk [] t.cols = 0 := by
      rw [← ha, List.drop_of_length_le (Nat.le_refl _)]; rfl
    simp only [hc0, ne_eq, not_true_eq_false, if_false] at he
    by_cases h3 : 16 < t.keys.length
    · have h3' : (16 : Int) < t.keys.length := by omega
      simp only [h3, if_true] at he
      subst he
      simp [h3']
    have h3' : ¬ (16 : Int) < t.keys.length := by omega
    simp only [h3, if_false] at he
    cases hks : t.keys with
    | nil =>
      rw [hks] at he
      simp only at he
      subst he
      simp
    | cons k0 tail =>
      rw [hks] at he
      simp only at he
      rw [← hks] at he ⊢
      have hne : t.keys ≠ [] := by rw [hks]; simp
      have h4'' : t.keys.length ≠ 0 := fun h => hne (List.length_eq_zero_iff.1 h)
      have h4' : (((t.keys.length : Nat) : Int) == 0) = false := by simp; omega
      simp [h3', h4']
      refine loop_wp (ι := Nat × Nat) (fun i => { env := [(1, .lp 1 0 0), (5, .i .i64 (i.1 : Nat))], loc := [(1, 0, .cells [.s t.n, .vs t.zc 4 (t.cols.map Col.row), .vs t.zk 3 (t.keys.map Key.row), .i .i64 t.part, .i .i64 t.most])], hp := [], nx := i.2 }) (fun i => t.keys.length - i.1)
        (fun i => i.1 ≤ t.keys.length ∧ firstBad (keyChk t.cols.length) (t.keys.take i.1) (t.keys.drop i.1) = firstBad (keyChk t.cols.length) [] t.keys) (0, _) rfl ⟨Nat.zero_le _, by simp⟩ (by simp only; omega) ?_
      rintro Next2 ⟨i, nx2⟩ ⟨hp, ha⟩ hnext2
      simp only at hp ha hnext2 ⊢
      by_cases hi : i < t.keys.length
      · have c1 : (i : Int) < t.keys.length := by omega
        have c3 : IntKind.i64.wrap ((i : Int) + 1) = i + 1 := wrap_i64 (by omega) (by omega)
        have h22' := h22 i hi
        rw [List.drop_eq_getElem_cons hi, firstBad, take_next hi] at ha
        by_cases hb : keyChk t.cols.length (t.keys.take i) t.keys[i] = 0
        · rw [hb] at h22'
          simp only [hb, if_true] at ha
          simp [c1, c3, h22']
          exact hnext2 (i + 1, _) (by simp only; omega) ⟨hi, ha⟩
        · have hb' : (keyChk t.cols.length (t.keys.take i) t.keys[i] != 0) = true := by simp [hb]
          simp only [hb, if_false] at ha
          rw [← ha] at he
          simp only [ne_eq, hb, not_false_eq_true, if_true] at he
          subst he
          simp [c1, h22', hb']
      · obtain rfl : i = t.keys.length := by omega
        have hk0 : firstBad (keyChk t.cols.length) [] t.keys = 0 := by
          rw [← ha, List.drop_of_length_le (Nat.le_refl _)]; rfl
        simp only [hk0, ne_eq, not_true_eq_false, if_false] at he
        have hkk : t.keys[0]? = some k0 := by rw [hks]; rfl
        have hkh : t.keys.head? = some k0 := by rw [hks]; rfl
        have hmem : k0 ∈ t.keys := by rw [hks]; simp
        have hgood := firstBad_zero hk0 0 (by omega)
        have hk00 : t.keys[0] = k0 := by
          have := List.getElem?_eq_getElem (l := t.keys) (i := 0) (by omega)
          rw [this] at hkk; injection hkk
        rw [hk00] at hgood
        have hrange := colsIn_range _ _ _ (keyChk_zero hgood).1
        have hlen := (ok.k k0 hmem).c
        simp
        refine loop_wp (ι := Nat × Nat × Bool) (fun i => { env := [(1, .lp 1 0 0), (7, .b i.2.2), (8, .i .i64 (i.1 : Nat))], loc := [(1, 0, .cells [.s t.n, .vs t.zc 4 (t.cols.map Col.row), .vs t.zk 3 (t.keys.map Key.row), .i .i64 t.part, .i .i64 t.most])], hp := [], nx := i.2.1 }) (fun i => k0.cs.length - i.1)
          (fun i => i.1 ≤ k0.cs.length ∧ (k0.cs.drop i.1).any (notNN t) = k0.cs.any (notNN t) ∧ i.2.2 = (decide (t.part < 0) || (k0.cs.take i.1).any (t.part == ·))) (0, _, decide (t.part < 0)) rfl ⟨Nat.zero_le _, rfl, by simp⟩ (by simp only; omega) ?_
        rintro Next3 ⟨i, nx3, b⟩ ⟨hp, ha, hbb⟩ hnext3
        simp only at hp ha hbb hnext3 ⊢
        by_cases hi : i < k0.cs.length
        · have c1 : (i : Int) < k0.cs.length := by omega
          have c2 : (0 : Int) ≤ i := by omega
          have c3 : IntKind.i64.wrap ((i : Int) + 1) = i + 1 := wrap_i64 (by omega) (by omega)
          have hg : (ints k0.cs)[i]? = some [.i .i64 k0.cs[i]] := ints_get (List.getElem?_eq_getElem hi)
          have hr := hrange k0.cs[i] (List.getElem_mem hi)
          have hr2 : k0.cs[i].toNat < t.cols.length := by omega
          obtain ⟨d, hd⟩ : ∃ d, t.cols[k0.cs[i].toNat]? = some d := ⟨_, List.getElem?_eq_getElem hr2⟩
          have hdn : notNN t k0.cs[i] = !d.nn := by simp [notNN, hd]
          rw [List.drop_eq_getElem_cons hi, List.any_cons, hdn] at ha
          cases hnn : d.nn
          · rw [hnn, Bool.not_false, Bool.true_or] at ha
            rw [lastChk_nn ha.symm] at he
            subst he
            simp [hkk, hkh, Key.row, ints_len, c1, c2, hg, hr.1, hd, Col.row, hnn]
          · rw [hnn, Bool.not_true, Bool.false_or] at ha
            have hb2 : ∀ b', b' = (b || k0.cs[i] == t.part) → b' = (decide (t.part < 0) || (k0.cs.take (i + 1)).any (t.part == ·)) := by
              rintro _ rfl
              rw [hbb, ← take_next hi, List.any_append]
              have hsw : (k0.cs[i] == t.part) = (t.part == k0.cs[i]) := by rw [Bool.eq_iff_iff, beq_iff_eq, beq_iff_eq]; exact eq_comm
              simp [hsw, Bool.or_assoc]
            cases hbv : b
            · subst hbv
              simp [hkk, hkh, Key.row, ints_len, c1, c2, c3, hg, hr.1, hd, Col.row, hnn]
              exact hnext3 (i + 1, _, _) (by simp only; omega) ⟨hi, ha, hb2 _ (by simp)⟩
            · subst hbv
              simp [hkk, hkh, Key.row, ints_len, c1, c2, c3, hg, hr.1, hd, Col.row, hnn]
              exact hnext3 (i + 1, _, _) (by simp only; omega) ⟨hi, ha, hb2 _ (by simp)⟩
        · obtain rfl : i = k0.cs.length := by omega
          have hnn : (k0.cs.any fun c => !((t.cols[c.toNat]?.map (·.nn)).getD true)) = false := by
            show k0.cs.any (notNN t) = false
            rw [← ha, List.drop_of_length_le (Nat.le_refl _)]; rfl
          rw [List.take_of_length_le (Nat.le_refl _)] at hbb
          unfold lastChk at he
          rw [hnn] at he
          cases hu : k0.u
          · simp only [hu, if_true] at he
            subst he
            simp [hkk, hkh, Key.row, ints_len, hu]
          simp only [hu, Bool.true_eq_false, Bool.false_eq_true, if_false] at he
          cases hbv : b
          · subst hbv
            have hcond : 0 ≤ t.part ∧ (k0.cs.any (t.part == ·)) = false := by
              have := hbb.symm
              rw [Bool.or_eq_false_iff, decide_eq_false_iff_not] at this
              exact ⟨by omega, this.2⟩
            rw [if_pos hcond] at he
            subst he
            simp [hkk, hkh, Key.row, ints_len, hu]
          · subst hbv
            have hcond : ¬ (0 ≤ t.part ∧ (k0.cs.any (t.part == ·)) = false) := by
              rintro ⟨h5, h6⟩
              rw [h6, Bool.or_false] at hbb
              have := of_decide_eq_true hbb.symm
              omega
            rw [if_neg hcond] at he
            by_cases hm1 : t.most < 1
            · simp only [hm1, if_true] at he
              subst he
              simp [hkk, hkh, Key.row, ints_len, hu, hm1]
            by_cases hm2 : 4096 < t.most
            · simp only [hm1, hm2, if_false, if_true] at he
              subst he
              simp [hkk, hkh, Key.row, ints_len, hu, hm1, hm2]
            simp only [hm1, hm2, if_false] at he
            subst he
            simp [hkk, hkh, Key.row, ints_len, hu, hm1, hm2]

end Ab
end Go.Proofs.YtgkaidnfmkncmaaDoor

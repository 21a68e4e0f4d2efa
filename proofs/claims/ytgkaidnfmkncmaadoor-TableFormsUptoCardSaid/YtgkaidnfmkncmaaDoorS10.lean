/-
  DERIVED. table.check: what it comes to.
  Conditions: lists shorter than the rounds that are let.
-/
import Derived.Test.YtgkaidnfmkncmaaDoorS9
set_option linter.all false
set_option maxHeartbeats 4000000
namespace Go.Proofs.YtgkaidnfmkncmaaDoor
namespace Ab
open Go.Lib
set_option maxRecDepth 100000
set_option maxHeartbeats 4000000

/-- Is a column not one that must be there? -/
def notNN (t : Tab) (c : Int) : Bool := !((t.cols[c.toNat]?.map (·.nn)).getD true)

theorem run6 (call : CallT) (k : Nat) (t : Tab) (h19 : pR call 19 [.agg t.row] = some (.i .i64 (tabChk t))) : Ends cfg call k 6 [.agg t.row] [] 0 fun r _ _ => r = .i .i64 (tabChk t) := by
  refine run_wp Tryd.func6 rfl (by simp [Tryd.f6]) ?_
  simp [h19]

theorem run32 (call : CallT) (k nx : Nat) (t : Tab) (c : Int) (h0 : 0 ≤ c) (h1 : c < t.cols.length) : runA cfg call k 32 [.i .i64 c, .vp t.row] [] nx = some (.b (notNN t c), [], nx + 9) := by
  apply Ends.eq
  refine run_wp Tryd.func32 rfl (by simp [Tryd.f32]) ?_
  have h2 : c.toNat < t.cols.length := by omega
  obtain ⟨d, hd⟩ : ∃ d, t.cols[c.toNat]? = some d := ⟨_, List.getElem?_eq_getElem h2⟩
  have hd' : t.cols[c.toNat] = d := by rw [List.getElem?_eq_getElem h2] at hd; injection hd
  simp [Tab.row, Col.row, h0, h2, notNN, hd']

structure Key.Ok (m : Nat) (k : Key) : Prop where
  n : k.n.size < m
  c : k.cs.length < m
  z : k.z = true → k.cs = []
structure Tab.Ok (m : Nat) (t : Tab) : Prop where
  n : t.n.size < m
  cl : t.cols.length < m
  kl : t.keys.length < m
  c : ∀ c ∈ t.cols, c.n.size < m
  k : ∀ k ∈ t.keys, k.Ok m
  zc : t.zc = true → t.cols = []
  zk : t.zk = true → t.keys = []

theorem colsIn_range (n : Int) : ∀ (l a : List Int), colsIn n a l = true → ∀ c ∈ l, 0 ≤ c ∧ c < n
  | [], _, _, c, hc => by cases hc
  | x :: r, a, h, c, hc => by
    simp only [colsIn, Bool.and_eq_true, Bool.not_eq_true', decide_eq_false_iff_not] at h
    rcases List.mem_cons.1 hc with rfl | hc
    · omega
    · exact colsIn_range n r _ h.2 c hc

theorem firstBad_zero {α : Type} {f : List α → α → Int} : ∀ {l a : List α}, firstBad f a l = 0 → ∀ (i : Nat) (h : i < l.length), f (a ++ l.take i) l[i] = 0
  | [], _, _, i, h => by simp at h
  | x :: r, a, h, i, hi => by
    unfold firstBad at h
    split at h
    · rename_i hx
      cases i with
      | zero => simpa using hx
      | succ i =>
        have := firstBad_zero h i (by simpa using hi)
        simpa using this
    · rename_i hx; exact absurd h hx

theorem keyChk_zero {cols : Nat} {a : List Key} {k : Key} (h : keyChk cols a k = 0) : colsIn cols [] k.cs = true ∧ k.cs ≠ [] := by
  unfold keyChk at h
  repeat' split at h
  all_goals first
    | (exfalso; revert h; decide)
    | (rename_i h1 h2 h3 h4 h5; exact ⟨h5, h3⟩)

theorem run19 (call : CallT) (k : Nat) (t : Tab) (m : Nat) (ok : t.Ok m) (hm : m ≤ 2 ^ 40) (hk : m ≤ k) (h28 : pR call 28 [.s t.n] = some (.b (nameOk t.n)))
    (h29 : ∀ (z : Bool) (l : List Col), ∀ c ∈ t.cols, l.length ≤ t.cols.length → pR call 29 [.agg c.row, .vs z 4 (l.map Col.row)] = some (.i .i64 (colChk l c)))
    (h30 : ∀ (z : Bool) (l : List Key), ∀ c ∈ t.keys, l.length ≤ t.keys.length → pR call 30 [.agg c.row, .vs z 3 (l.map Key.row), .i .i64 (t.cols.length : Nat)] = some (.i .i64 (keyChk t.cols.length l c)))
    (h31 : ∀ (y : Bool) (q : List Int), q.length < m → (∀ c ∈ q, 0 ≤ c ∧ c < t.cols.length) → pR call 31 [.vs y 1 (ints q), .fn 32 [.vp t.row]] = some (.b (q.any (notNN t))))
    (h33 : ∀ (y : Bool) (q : List Int) (v : Int), q.length < m → pR call 33 [.vs y 1 (ints q), .i .i64 v] = some (.b (q.any (v == ·)))) :
    Ends cfg call k 19 [.agg t.row] [] 0 fun r _ _ => r = .i .i64 (tabChk t) := by
  obtain ⟨e, he⟩ : ∃ e, tabChk t = e := ⟨_, rfl⟩
  rw [he]
  have okl := ok.cl
  have okk := ok.kl
  refine run_wp Tryd.func19 rfl (by simp [Tryd.f19]) ?_
  have hrow : t.row = [.s t.n, .vs t.zc 4 (t.cols.map Col.row), .vs t.zk 3 (t.keys.map Key.row), .i .i64 t.part, .i .i64 t.most] := rfl
  rw [hrow] at h31 ⊢
  unfold tabChk at he
  cases hn : nameOk t.n
  · simp only [hn, if_true] at he
    subst he
    simp [h28, hn]
  simp only [hn, Bool.true_eq_false, if_false] at he
  by_cases h1 : 16 < t.cols.length
  · have h1' : (16 : Int) < t.cols.length := by omega
    simp only [h1, if_true] at he
    subst he
    simp [h28, hn, h1']
  have h1' : ¬ (16 : Int) < t.cols.length := by omega
  simp only [h1, if_false] at he
  by_cases h2 : t.cols = []
  · have h2' : (((t.cols.length : Nat) : Int) == 0) = true := by simp [h2]
    simp only [h2, if_true] at he
    subst he
    simp [h28, hn, h1', h2']
  have h2'' : t.cols.length ≠ 0 := fun h => h2 (List.length_eq_zero_iff.1 h)
  have h2' : (((t.cols.length : Nat) : Int) == 0) = false := by simp; omega
  have hzc : t.zc = false := by
    cases hz : t.zc with
    | false => rfl
    | true => exact absurd (ok.zc hz) h2
  simp only [h2, if_false] at he
  rw [hzc] at h31 ⊢
  simp [h28, hn, h1', h2']
  refine loop_wp (ι := Nat × Nat) (fun i => { env := [(1, .ptr 0 0 0), (23, .vs false 4 (t.cols.map Col.row)), (24, .i .i64 (t.cols.length : Nat)), (25, .i .i64 (i.1 : Nat))], loc := [], hp := [(0, 0, .cells [.s t.n, .vs false 4 (t.cols.map Col.row), .vs t.zk 3 (t.keys.map Key.row), .i .i64 t.part, .i .i64 t.most])], nx := i.2 }) (fun i => t.cols.length - i.1)
    (fun i => i.1 ≤ t.cols.length ∧ firstBad colChk (t.cols.take i.1) (t.cols.drop i.1) = firstBad colChk [] t.cols) (0, _) rfl ⟨Nat.zero_le _, by simp⟩ (by simp only; omega) ?_
  rintro Next ⟨i, nx⟩ ⟨hp, ha⟩ hnext
  simp only at hp ha hnext ⊢
  by_cases hi : i < t.cols.length
  · have c1 : (i : Int) < t.cols.length := by omega
    have c2 : (0 : Int) ≤ i := by omega
    have c3 : IntKind.i64.wrap ((i : Int) + 1) = i + 1 := wrap_i64 (by omega) (by omega)
    have hg : (t.cols.map Col.row)[i]? = some t.cols[i].row := get_map hi
    have h29' := h29 false (t.cols.take i) t.cols[i] (List.getElem_mem hi) (by simp; omega)
    have hle : i ≤ t.cols.length := by omega
    rw [List.drop_eq_getElem_cons hi, firstBad, take_next hi] at ha
    rw [List.map_take] at h29'
    by_cases hb : colChk (t.cols.take i) t.cols[i] = 0
    · rw [hb] at h29'
      simp only [hb, if_true] at ha
      simp [c1, c2, c3, hg, hi, hle, h29']
      refine ⟨⟨by kernel_rfl, by kernel_rfl⟩, ?_⟩
      exact hnext (i + 1, _) (by simp only; omega) ⟨hi, ha⟩
    · have hb' : (colChk (t.cols.take i) t.cols[i] != 0) = true := by simp [hb]
      simp only [hb, if_false] at ha
      rw [← ha] at he
      simp only [ne_eq, hb, not_false_eq_true, if_true] at he
      subst he
      simp [c1, c2, hg, hi, hle, h29', hb']
      exact ⟨by kernel_rfl, by kernel_rfl⟩
  · obtain rfl : i = t.cols.length := by omega
    have hc0 : firstBad colChk [] t.cols = 0 := by
      rw [← ha, List.drop_of_length_le (Nat.le_refl _)]; rfl
    simp only [hc0, ne_eq, not_true_eq_false, if_false] at he
    by_cases h3 : 16 < t.keys.length
    · have h3' : (16 : Int) < t.keys.length := by omega
      simp only [h3, if_true] at he
      subst he
      simp [h3']
    have h3' : ¬ (16 : Int) < t.keys.length := by omega
    simp only [h3, if_false] at he
    cases hks : t.keys with
    | nil =>
      rw [hks] at he
      simp only at he
      subst he
      simp
    | cons k0 tail =>
      rw [hks] at he
      simp only at he
      rw [← hks] at he ⊢
      have hne : t.keys ≠ [] := by rw [hks]; simp
      have h4'' : t.keys.length ≠ 0 := fun h => hne (List.length_eq_zero_iff.1 h)
      have h4' : (((t.keys.length : Nat) : Int) == 0) = false := by simp; omega
      have hzk : t.zk = false := by
        cases hz : t.zk with
        | false => rfl
        | true => exact absurd (ok.zk hz) hne
      rw [hzk] at h31 ⊢
      simp [h3', h4']
      refine loop_wp (ι := Nat × Nat) (fun i => { env := [(1, .ptr 0 0 0), (49, .vs false 3 (t.keys.map Key.row)), (50, .i .i64 (t.keys.length : Nat)), (51, .i .i64 (i.1 : Nat))], loc := [], hp := [(0, 0, .cells [.s t.n, .vs false 4 (t.cols.map Col.row), .vs false 3 (t.keys.map Key.row), .i .i64 t.part, .i .i64 t.most])], nx := i.2 }) (fun i => t.keys.length - i.1)
        (fun i => i.1 ≤ t.keys.length ∧ firstBad (keyChk t.cols.length) (t.keys.take i.1) (t.keys.drop i.1) = firstBad (keyChk t.cols.length) [] t.keys) (0, _) rfl ⟨Nat.zero_le _, by simp⟩ (by simp only; omega) ?_
      rintro Next2 ⟨i, nx2⟩ ⟨hp, ha⟩ hnext2
      simp only at hp ha hnext2 ⊢
      by_cases hi : i < t.keys.length
      · have c1 : (i : Int) < t.keys.length := by omega
        have c2 : (0 : Int) ≤ i := by omega
        have c3 : IntKind.i64.wrap ((i : Int) + 1) = i + 1 := wrap_i64 (by omega) (by omega)
        have hg : (t.keys.map Key.row)[i]? = some t.keys[i].row := get_map hi
        have h30' := h30 false (t.keys.take i) t.keys[i] (List.getElem_mem hi) (by simp; omega)
        have hle : i ≤ t.keys.length := by omega
        rw [List.drop_eq_getElem_cons hi, firstBad, take_next hi] at ha
        rw [List.map_take] at h30'
        by_cases hb : keyChk t.cols.length (t.keys.take i) t.keys[i] = 0
        · rw [hb] at h30'
          simp only [hb, if_true] at ha
          simp [c1, c2, c3, hg, hi, hle, h30']
          refine ⟨⟨by kernel_rfl, by kernel_rfl⟩, ?_⟩
          exact hnext2 (i + 1, _) (by simp only; omega) ⟨hi, ha⟩
        · have hb' : (keyChk t.cols.length (t.keys.take i) t.keys[i] != 0) = true := by simp [hb]
          simp only [hb, if_false] at ha
          rw [← ha] at he
          simp only [ne_eq, hb, not_false_eq_true, if_true] at he
          subst he
          simp [c1, c2, hg, hi, hle, h30', hb']
          exact ⟨by kernel_rfl, by kernel_rfl⟩
      · obtain rfl : i = t.keys.length := by omega
        have hk0 : firstBad (keyChk t.cols.length) [] t.keys = 0 := by
          rw [← ha, List.drop_of_length_le (Nat.le_refl _)]; rfl
        simp only [hk0, ne_eq, not_true_eq_false, if_false] at he
        have hkk : t.keys[0]? = some k0 := by rw [hks]; rfl
        have hkh : t.keys.head? = some k0 := by rw [hks]; rfl
        have hmem : k0 ∈ t.keys := by rw [hks]; simp
        have hgood := firstBad_zero hk0 0 (by omega)
        have hk00 : t.keys[0] = k0 := by
          have := List.getElem?_eq_getElem (l := t.keys) (i := 0) (by omega)
          rw [this] at hkk; injection hkk
        rw [hk00] at hgood
        have hrange := colsIn_range _ _ _ (keyChk_zero hgood).1
        have hlen := (ok.k k0 hmem).c
        have h31' := h31 k0.z k0.cs hlen hrange
        have h33' := h33 k0.z k0.cs t.part hlen
        unfold lastChk at he
        cases hu : k0.u
        · simp only [hu, if_true] at he
          subst he
          simp [hkk, hkh, Key.row, hu]
        simp only [hu, Bool.true_eq_false, if_false] at he
        have hnn : (k0.cs.any fun c => !((t.cols[c.toNat]?.map (·.nn)).getD true)) = k0.cs.any (notNN t) := rfl
        rw [hnn] at he
        cases hq : k0.cs.any (notNN t)
        · rw [hq] at h31'
          simp only [hq, Bool.false_eq_true, if_false] at he
          by_cases hpt : 0 ≤ t.part
          · cases hcc : k0.cs.any (t.part == ·)
            · rw [hcc] at h33'
              simp only [hpt, hcc, and_self, if_true] at he
              subst he
              simp [hkk, hkh, Key.row, hu, h31', hpt, h33']
            · rw [hcc] at h33'
              simp only [hpt, hcc, Bool.true_eq_false, and_false, if_false] at he
              by_cases hm1 : t.most < 1
              · simp only [hm1, if_true] at he
                subst he
                simp [hkk, hkh, Key.row, hu, h31', hpt, h33', hm1]
              by_cases hm2 : 4096 < t.most
              · simp only [hm1, hm2, if_false, if_true] at he
                subst he
                simp [hkk, hkh, Key.row, hu, h31', hpt, h33', hm1, hm2]
              simp only [hm1, hm2, if_false] at he
              subst he
              simp [hkk, hkh, Key.row, hu, h31', hpt, h33', hm1, hm2]
          · simp only [hpt, false_and, if_false] at he
            by_cases hm1 : t.most < 1
            · simp only [hm1, if_true] at he
              subst he
              simp [hkk, hkh, Key.row, hu, h31', hpt, hm1]
            by_cases hm2 : 4096 < t.most
            · simp only [hm1, hm2, if_false, if_true] at he
              subst he
              simp [hkk, hkh, Key.row, hu, h31', hpt, hm1, hm2]
            simp only [hm1, hm2, if_false] at he
            subst he
            simp [hkk, hkh, Key.row, hu, h31', hpt, hm1, hm2]
        · rw [hq] at h31'
          simp only [hq, if_true] at he
          subst he
          simp [hkk, hkh, Key.row, hu, h31']

end Ab
end Go.Proofs.YtgkaidnfmkncmaaDoor

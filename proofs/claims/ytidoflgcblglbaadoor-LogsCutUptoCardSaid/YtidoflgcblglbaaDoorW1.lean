/-
  DERIVED. VALUES: value.Check, lockstepref01.Check, lockstepref01.valid: what they come to.
  Conditions: loops shorter than the rounds that are let.
-/
import Derived.Test.YtidoflgcblglbaaDoorB0
import Derived.Test.YtidoflgcblglbaaDoorN1
import Derived.Test.YtidoflgcblglbaaDoorTA
set_option linter.all false
set_option maxHeartbeats 4000000
namespace Go.Proofs.YtidoflgcblglbaaDoor
namespace Ab
open Go.Lib
set_option maxRecDepth 100000
set_option maxHeartbeats 4000000
set_option linter.all false
attribute [local simp] wp_region regionA opsA nCall rCall goCallR pCall pnCall lenA appendA appRow newsA rowsSz rowsOf isIntD makeSliceA elemOf rowsBuilt eqA eq1

def Val.row (v : Val) : List AV := [.i .i64 v.t, .i .i64 v.n, .s v.s]
@[simp] theorem Val.row_len (v : Val) : v.row.length = 3 := rfl
@[simp] theorem Val.row_take (v : Val) : v.row.take 3 = v.row := rfl
@[simp] theorem Val.row_rf (v : Val) : v.row.all rf1 = true := rfl
@[simp] theorem Val.row_okc (v : Val) : v.row.all AV.okc = true := rfl
/-- What is wrong with a value. -/
def valChk (v : Val) : Int :=
  if v.t < 0 then 1 else if 4 < v.t then 1
  else if v.t = 4 then (if v.n = 0 then 0 else if v.n = 1 then 0 else 1)
  else if v.t = 3 then (if 4096 < v.s.size then 2 else if validD v.s.data.toList then 0 else 3)
  else 0
theorem drop_ne {s : ByteArray} {pos : Nat} (h : pos < s.size) : s.data.toList.drop pos ≠ [] := by
  intro h0
  have := congrArg List.length h0
  simp at this
  have : s.data.size = s.size := rfl
  omega
theorem extract3 {s : ByteArray} {pos : Nat} : (s.extract pos (pos + 3)).data.toList = (s.data.toList.drop pos).take 3 := by
  have e : (s.extract pos (pos + 3)).data = s.data.extract pos (pos + 3) := by simp [ByteArray.data_extract]
  rw [e, Array.toList_extract]
  simp [List.extract]
theorem baTo (s : ByteArray) : s.toList = s.data.toList := ByteArray.toList_eq s
theorem dec_lens {s : ByteArray} {pos : Nat} (n : Nat) (h : n ≤ (s.data.toList.drop pos).length) : pos + n ≤ s.size ∨ n = 0 := by
  have : s.data.size = s.size := rfl
  simp at h
  omega
theorem run_rvalid (call : CallT) (k : Nat) (s : ByteArray) (hk : s.size < k) (hs : s.size < 2 ^ 40) : Ends cfg call k 80 [.s s] [] 0 fun r _ _ => r = .b (validD s.data.toList) := by
  refine run_wp Tryd.func80 rfl (by simp [Tryd.f80]) ?_
  simp 
  refine loop_wp (ι := Nat × Nat × List (Nat × AV)) (fun i => { env := [(0, .s s), (6, .ptr 2 0 0)] ++ i.2.2, loc := [], hp := [(2, (0, .sit s i.1))], nx := i.2.1 }) (fun i => s.size - i.1)
    (fun i => i.1 ≤ s.size ∧ validD (s.data.toList.drop i.1) = validD s.data.toList ∧ (i.2.2 = [] ∨ i.2.2 = [(27, .b false)])) (0, _, []) rfl ⟨Nat.zero_le _, rfl, .inl rfl⟩ (by simpa using hk) ?_
  rintro Next ⟨pos, nx, e⟩ ⟨hp, hn, he⟩ hnext
  simp only at hp hn he hnext ⊢
  by_cases h : pos < s.size
  · obtain ⟨r, wd, hd⟩ : ∃ r wd, Utf8.decode s pos = (r, wd) := ⟨_, _, rfl⟩
    have hne := drop_ne h
    have hdd := decodeL_drop s pos
    have hst := dec_step _ hne
    rw [hdd, hd] at hst
    simp only at hst
    have hw : 1 ≤ wd ∧ pos + wd ≤ s.size := by
      rcases hst with ⟨_, rfl, _⟩ | ⟨_, _, _, h5, h6⟩
      · omega
      · have := dec_lens _ h6
        omega
    by_cases r1 : r = 65533
    · subst r1
      have w1 : IntKind.i64.wrap ((s.size : Int) - pos) = s.size - pos := wrap_i64 (by omega) (by omega)
      have w2 : IntKind.i64.wrap ((pos : Int) + 3) = pos + 3 := wrap_i64 (by omega) (by omega)
      by_cases h3 : (s.size : Int) - pos < 3
      · have := valid_bad hne (by rw [hdd, hd]) (by
          rw [hdd, hd]
          rcases hst with ⟨_, h5, _⟩ | ⟨_, h5, _⟩
          · exact h5
          · have := (h5 rfl).2
            have : s.data.size = s.size := rfl
            simp at *
            omega)
        rcases he with rfl | rfl <;> simp [h, hd, w1, h3, ← hn, this]
      · have c1 : (0 : Int) ≤ pos := by omega
        have c2 : (0 : Int) ≤ (pos : Int) + 3 := by omega
        have c3 : ((pos : Int) + 3).toNat = pos + 3 := by omega
        have c4 : pos + 3 ≤ s.size := by omega
        by_cases h4 : (s.data.toList.drop pos).take 3 = [239, 191, 189]
        · have h5 : ((s.extract pos (pos + 3)).toList == [239, 191, 189]) = true := by rw [baTo, extract3, h4]; rfl
          have h6 := bytes3 _ h4
          rw [hdd, hd] at h6
          have := valid_step hne (by rw [hdd, hd, h6]; simp)
          rw [hdd, hd] at this
          rw [List.drop_drop] at this
          rcases he with rfl | rfl <;> simp [h, hd, w1, w2, h3, c1, c2, c3, c4, h5] <;>
            exact hnext (pos + wd, _, [(27, .b false)]) (by simp only; omega) ⟨hw.2, by rw [← hn, this], .inr rfl⟩
        · have h5 : ((s.extract pos (pos + 3)).toList == [239, 191, 189]) = false := by
            rw [baTo, extract3, beq_eq_false_iff_ne]; exact h4
          have := valid_bad hne (by rw [hdd, hd]) (by
            rw [hdd, hd]
            rcases hst with ⟨_, h6, _⟩ | ⟨_, h6, _⟩
            · exact h6
            · exact absurd (h6 rfl).1 h4)
          rcases he with rfl | rfl <;> simp [h, hd, w1, w2, h3, c1, c2, c3, c4, h5, ← hn, this]
    · have h1 : ((r : Int) == 65533) = false := by simp; omega
      have := valid_step hne (by rw [hdd, hd]; simp [r1])
      rw [hdd, hd] at this
      rw [List.drop_drop] at this
      rcases he with rfl | rfl <;> simp [h, hd, h1] <;>
        exact hnext (pos + wd, _, [(27, .b false)]) (by simp only; omega) ⟨hw.2, by rw [← hn, this], .inr rfl⟩
  · obtain rfl : pos = s.size := by omega
    have e2 : s.data.toList.drop s.size = [] := List.drop_of_length_le (by simp)
    rw [e2, valid_nil] at hn
    rcases he with rfl | rfl <;> simp [← hn]
theorem goCall_VS (call : CallT) (st : St) (nx : Nat) (dst : Option Nat) (s : ByteArray) (hs : s.size ≤ 9223372036854775807) : goCall cfg call st nx dst 102 [.s s] = some (⟨dst, .b (validD s.data.toList), [], none, some []⟩, nx) := by
  have : cfg.intr 102 = intr26 102 := rfl
  simp [goCall, goCallP, this, intr26, hs, cfg]
theorem run_rvCheck (call : CallT) (k : Nat) (v : Val) (h46 : pR call 80 [.s v.s] = some (.b (validD v.s.data.toList))) : Ends cfg call k 58 [.agg v.row] [] 0 fun r _ _ => r = .i .i64 (valChk v) := by
  refine run_wp Tryd.func58 rfl (by simp [Tryd.f58]) ?_
  obtain ⟨t, n, s⟩ := v
  simp only at h46
  by_cases h1 : t < 0
  · simp [Val.row, h1, valChk]
  by_cases h2 : 4 < t
  · simp [Val.row, h1, h2, valChk]
  by_cases h3 : t = 4
  · subst h3
    by_cases h4 : n = 0
    · subst h4; simp [Val.row, valChk]
    by_cases h5 : n = 1
    · subst h5; simp [Val.row, valChk]
    have h4' : (n == 0) = false := by simp [h4]
    have h5' : (n == 1) = false := by simp [h5]
    have h4' : (n != 0) = true := by simp [h4]
    have h5' : (n != 1) = true := by simp [h5]
    simp [Val.row, h4', h5', h4, h5, valChk]
  have h3' : (t == 4) = false := by simp [h3]
  by_cases h6 : t = 3
  · subst h6
    by_cases h7 : 4096 < (s.size : Int)
    · have : 4096 < s.size := by omega
      simp [Val.row, h7, this, valChk]
    · have : ¬ 4096 < s.size := by omega
      cases hv : validD s.data.toList
      · simp [Val.row, h7, this, valChk, h46, hv]
      · simp [Val.row, h7, this, valChk, h46, hv]
  · have h6' : (t == 3) = false := by simp [h6]
    simp [Val.row, h1, h2, h3', h6', h3, h6, valChk]
theorem run_vCheck (call : CallT) (k : Nat) (v : Val) (hs : v.s.size < 2 ^ 40) : Ends cfg call k 78 [.agg v.row] [] 0 fun r _ _ => r = .i .i64 (valChk v) := by
  refine run_wp Tryd.func78 rfl (by simp [Tryd.f78]) ?_
  obtain ⟨t, n, s⟩ := v
  simp only at hs
  have hs : s.size ≤ 9223372036854775807 := by omega
  by_cases h3 : t = 4
  · subst h3
    by_cases h4 : n = 0
    · subst h4; simp [Val.row, valChk]
    by_cases h5 : n = 1
    · subst h5; simp [Val.row, valChk]
    have h4' : (n == 0) = false := by simp [h4]
    have h5' : (n == 1) = false := by simp [h5]
    simp [Val.row, h4', h5', h4, h5, valChk]
  by_cases h6 : t = 3
  · subst h6
    by_cases h7 : 4096 < (s.size : Int)
    · have : 4096 < s.size := by omega
      simp [Val.row, h7, this, valChk]
    · have : ¬ 4096 < s.size := by omega
      cases hv : validD s.data.toList
      · simp [Val.row, h7, this, valChk, goCall_VS, hs, hv]
      · simp [Val.row, h7, this, valChk, goCall_VS, hs, hv]
  have h3' : (t == 4) = false := by simp [h3]
  have h6' : (t == 3) = false := by simp [h6]
  by_cases h0 : t = 0
  · subst h0; simp [Val.row, valChk]
  by_cases h1 : t = 1
  · subst h1; simp [Val.row, valChk]
  by_cases h2 : t = 2
  · subst h2; simp [Val.row, valChk]
  have h0' : (t == 0) = false := by simp [h0]
  have h1' : (t == 1) = false := by simp [h1]
  have h2' : (t == 2) = false := by simp [h2]
  simp [Val.row, valChk, h3', h6', h0', h1', h2', h3, h6]
  omega

theorem p_rvalid {K n : Nat} (hK : big K) (hn : 1 ≤ n) (s : ByteArray) (hs : s.size < 2 ^ 24) : pR (callA cfg K n) 80 [.s s] = some (.b (validD s.data.toList)) := by
  obtain ⟨n, rfl⟩ : ∃ m, n = m + 1 := ⟨n - 1, by omega⟩
  exact pr_of rfl (run_rvalid _ _ s (by unfold big at hK; omega) (by omega)) rfl
theorem p_rvCheck {K n : Nat} (hK : big K) (hn : 2 ≤ n) (v : Val) (hs : v.s.size < 2 ^ 24) : pR (callA cfg K n) 58 [.agg v.row] = some (.i .i64 (valChk v)) := by
  obtain ⟨n, rfl⟩ : ∃ m, n = m + 1 := ⟨n - 1, by omega⟩
  exact pr_of rfl (run_rvCheck _ _ v (p_rvalid hK (by omega) _ hs)) rfl
theorem p_vCheck {K n : Nat} (hn : 1 ≤ n) (v : Val) (hs : v.s.size < 2 ^ 24) : pR (callA cfg K n) 78 [.agg v.row] = some (.i .i64 (valChk v)) := by
  obtain ⟨n, rfl⟩ : ∃ m, n = m + 1 := ⟨n - 1, by omega⟩
  exact pr_of rfl (run_vCheck _ _ v (by omega)) rfl

end Ab
end Go.Proofs.YtidoflgcblglbaaDoor

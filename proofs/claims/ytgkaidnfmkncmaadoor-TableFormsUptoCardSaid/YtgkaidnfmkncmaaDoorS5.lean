/-
  DERIVED. Names and values: table.named, lockstepref01.valid: what they come to.
  Conditions: loops shorter than the rounds that are let.
-/
import Derived.Test.YtgkaidnfmkncmaaDoorDt
import Derived.Laws.Strings
set_option linter.all false
namespace Go.Proofs.YtgkaidnfmkncmaaDoor
namespace Ab
open Go.Lib
set_option maxRecDepth 100000



theorem wrap_i64 {x : Int} (h1 : -9223372036854775808 ≤ x) (h2 : x ≤ 9223372036854775807) : IntKind.i64.wrap x = x := by
  unfold IntKind.wrap
  have hb : IntKind.i64.bits = 64 := rfl
  rw [hb]
  by_cases hx : 0 ≤ x
  · have hm : x % 2 ^ 64 = x := Int.emod_eq_of_lt hx (by omega)
    rw [hm, if_neg]
    simp only [Bool.and_eq_true, decide_eq_true_eq, not_and]
    intro _
    omega
  · have hm : x % 2 ^ 64 = x + 2 ^ 64 := by
      rw [← Int.add_emod_right]
      exact Int.emod_eq_of_lt (by omega) (by omega)
    rw [hm, if_pos]
    · omega
    · simp only [Bool.and_eq_true, decide_eq_true_eq]
      exact ⟨rfl, by omega⟩

theorem drop_ne {s : ByteArray} {pos : Nat} (h : pos < s.size) : s.data.toList.drop pos ≠ [] := by
  intro h0
  have := congrArg List.length h0
  simp at this
  have : s.data.size = s.size := rfl
  omega

theorem extract3 {s : ByteArray} {pos : Nat} : (s.extract pos (pos + 3)).data.toList = (s.data.toList.drop pos).take 3 := by
  have e : (s.extract pos (pos + 3)).data = s.data.extract pos (pos + 3) := by simp [ByteArray.data_extract]
  rw [e, Array.toList_extract]
  simp [List.extract]

theorem baTo (s : ByteArray) : s.toList = s.data.toList := ByteArray.toList_eq s

/-- What a step leaves. -/
theorem dec_lens {s : ByteArray} {pos : Nat} (n : Nat) (h : n ≤ (s.data.toList.drop pos).length) : pos + n ≤ s.size ∨ n = 0 := by
  have : s.data.size = s.size := rfl
  simp at h
  omega

theorem run28 (call : CallT) (k : Nat) (s : ByteArray) (hk : s.size < k) (hs : s.size < 2 ^ 40) : Ends cfg call k 28 [.s s] [] 0 fun r _ _ => r = .b (decide (1 ≤ s.size) && decide (s.size ≤ 32) && named s.data.toList) := by
  refine run_wp Tryd.func28 rfl (by simp [Tryd.f28]) ?_
  by_cases h1 : (s.size : Int) < 1
  · simp [h1]
    omega
  by_cases h2 : (32 : Int) < s.size
  · simp [h1, h2]
    omega
  simp [h1, h2]
  have e1 : (decide (1 ≤ s.size) && decide (s.size ≤ 32) && named s.data.toList) = named s.data.toList := by
    rw [decide_eq_true (by omega), decide_eq_true (by omega)]; rfl
  rw [e1]
  refine loop_wp (ι := Nat × Nat × List (Nat × AV)) (fun i => { env := [(0, .s s), (14, .ptr 10 0 0)] ++ i.2.2, loc := [], hp := [(10, (0, .sit s i.1))], nx := i.2.1 }) (fun i => s.size - i.1)
    (fun i => i.1 ≤ s.size ∧ named (s.data.toList.drop i.1) = named s.data.toList ∧ (i.2.2 = [] ∨ i.2.2 = [(39, .b false)])) (0, 11, []) rfl ⟨Nat.zero_le _, rfl, .inl rfl⟩ (by simpa using hk) ?_
  rintro Next ⟨pos, nx, e⟩ ⟨hp, hn, he⟩ hnext
  simp only at hp hn he hnext ⊢
  by_cases h : pos < s.size
  · obtain ⟨r, wd, hd⟩ : ∃ r wd, Utf8.decode s pos = (r, wd) := ⟨_, _, rfl⟩
    have hne := drop_ne h
    have hdd := decodeL_drop s pos
    have hst := dec_step _ hne
    rw [hdd, hd] at hst
    simp only at hst
    have hw : 1 ≤ wd ∧ pos + wd ≤ s.size := by
      rcases hst with ⟨_, rfl, _⟩ | ⟨_, _, _, h5, h6⟩
      · omega
      · have := dec_lens _ h6
        omega
    by_cases r0 : r = 0
    · subst r0
      have := named_zero hne (by rw [hdd, hd])
      rcases he with rfl | rfl <;> simp [h, hd, ← hn, this]
    have h0 : ((r : Int) == 0) = false := by simp [r0]
    by_cases r1 : r = 65533
    · subst r1
      have w1 : IntKind.i64.wrap ((s.size : Int) - pos) = s.size - pos := wrap_i64 (by omega) (by omega)
      have w2 : IntKind.i64.wrap ((pos : Int) + 3) = pos + 3 := wrap_i64 (by omega) (by omega)
      by_cases h3 : (s.size : Int) - pos < 3
      · have := named_bad hne (by rw [hdd, hd]) (by
          rw [hdd, hd]
          rcases hst with ⟨_, h5, _⟩ | ⟨_, h5, _⟩
          · exact h5
          · have := (h5 rfl).2
            have : s.data.size = s.size := rfl
            simp at *
            omega)
        rcases he with rfl | rfl <;> simp [h, hd, w1, h3, ← hn, this]
      · have c1 : (0 : Int) ≤ pos := by omega
        have c2 : (0 : Int) ≤ (pos : Int) + 3 := by omega
        have c3 : ((pos : Int) + 3).toNat = pos + 3 := by omega
        have c4 : pos + 3 ≤ s.size := by omega
        by_cases h4 : (s.data.toList.drop pos).take 3 = [239, 191, 189]
        · have h5 : ((s.extract pos (pos + 3)).toList == [239, 191, 189]) = true := by rw [baTo, extract3, h4]; rfl
          have h6 := bytes3 _ h4
          rw [hdd, hd] at h6
          have := named_step hne (by rw [hdd, hd]; simp) (by rw [hdd, hd, h6]; simp)
          rw [hdd, hd] at this
          rw [List.drop_drop] at this
          rcases he with rfl | rfl <;> simp [h, hd, w1, w2, h3, c1, c2, c3, c4, h5] <;>
            exact hnext (pos + wd, _, [(39, .b false)]) (by simp only; omega) ⟨hw.2, by rw [← hn, this], .inr rfl⟩
        · have h5 : ((s.extract pos (pos + 3)).toList == [239, 191, 189]) = false := by
            rw [baTo, extract3, beq_eq_false_iff_ne]; exact h4
          have := named_bad hne (by rw [hdd, hd]) (by
            rw [hdd, hd]
            rcases hst with ⟨_, h6, _⟩ | ⟨_, h6, _⟩
            · exact h6
            · exact absurd (h6 rfl).1 h4)
          rcases he with rfl | rfl <;> simp [h, hd, w1, w2, h3, c1, c2, c3, c4, h5, ← hn, this]
    · have h1 : ((r : Int) == 65533) = false := by simp; omega
      have := named_step hne (by rw [hdd, hd]; exact r0) (by rw [hdd, hd]; simp [r1])
      rw [hdd, hd] at this
      rw [List.drop_drop] at this
      rcases he with rfl | rfl <;> simp [h, hd, h0, h1] <;>
        exact hnext (pos + wd, _, [(39, .b false)]) (by simp only; omega) ⟨hw.2, by rw [← hn, this], .inr rfl⟩
  · obtain rfl : pos = s.size := by omega
    have e2 : s.data.toList.drop s.size = [] := List.drop_of_length_le (by simp)
    rw [e2, named_nil] at hn
    rcases he with rfl | rfl <;> simp [← hn]

theorem run46 (call : CallT) (k : Nat) (s : ByteArray) (hk : s.size < k) (hs : s.size < 2 ^ 40) : Ends cfg call k 46 [.s s] [] 0 fun r _ _ => r = .b (validD s.data.toList) := by
  refine run_wp Tryd.func46 rfl (by simp [Tryd.f46]) ?_
  simp 
  refine loop_wp (ι := Nat × Nat × List (Nat × AV)) (fun i => { env := [(0, .s s), (6, .ptr 2 0 0)] ++ i.2.2, loc := [], hp := [(2, (0, .sit s i.1))], nx := i.2.1 }) (fun i => s.size - i.1)
    (fun i => i.1 ≤ s.size ∧ validD (s.data.toList.drop i.1) = validD s.data.toList ∧ (i.2.2 = [] ∨ i.2.2 = [(27, .b false)])) (0, _, []) rfl ⟨Nat.zero_le _, rfl, .inl rfl⟩ (by simpa using hk) ?_
  rintro Next ⟨pos, nx, e⟩ ⟨hp, hn, he⟩ hnext
  simp only at hp hn he hnext ⊢
  by_cases h : pos < s.size
  · obtain ⟨r, wd, hd⟩ : ∃ r wd, Utf8.decode s pos = (r, wd) := ⟨_, _, rfl⟩
    have hne := drop_ne h
    have hdd := decodeL_drop s pos
    have hst := dec_step _ hne
    rw [hdd, hd] at hst
    simp only at hst
    have hw : 1 ≤ wd ∧ pos + wd ≤ s.size := by
      rcases hst with ⟨_, rfl, _⟩ | ⟨_, _, _, h5, h6⟩
      · omega
      · have := dec_lens _ h6
        omega
    by_cases r1 : r = 65533
    · subst r1
      have w1 : IntKind.i64.wrap ((s.size : Int) - pos) = s.size - pos := wrap_i64 (by omega) (by omega)
      have w2 : IntKind.i64.wrap ((pos : Int) + 3) = pos + 3 := wrap_i64 (by omega) (by omega)
      by_cases h3 : (s.size : Int) - pos < 3
      · have := valid_bad hne (by rw [hdd, hd]) (by
          rw [hdd, hd]
          rcases hst with ⟨_, h5, _⟩ | ⟨_, h5, _⟩
          · exact h5
          · have := (h5 rfl).2
            have : s.data.size = s.size := rfl
            simp at *
            omega)
        rcases he with rfl | rfl <;> simp [h, hd, w1, h3, ← hn, this]
      · have c1 : (0 : Int) ≤ pos := by omega
        have c2 : (0 : Int) ≤ (pos : Int) + 3 := by omega
        have c3 : ((pos : Int) + 3).toNat = pos + 3 := by omega
        have c4 : pos + 3 ≤ s.size := by omega
        by_cases h4 : (s.data.toList.drop pos).take 3 = [239, 191, 189]
        · have h5 : ((s.extract pos (pos + 3)).toList == [239, 191, 189]) = true := by rw [baTo, extract3, h4]; rfl
          have h6 := bytes3 _ h4
          rw [hdd, hd] at h6
          have := valid_step hne (by rw [hdd, hd, h6]; simp)
          rw [hdd, hd] at this
          rw [List.drop_drop] at this
          rcases he with rfl | rfl <;> simp [h, hd, w1, w2, h3, c1, c2, c3, c4, h5] <;>
            exact hnext (pos + wd, _, [(27, .b false)]) (by simp only; omega) ⟨hw.2, by rw [← hn, this], .inr rfl⟩
        · have h5 : ((s.extract pos (pos + 3)).toList == [239, 191, 189]) = false := by
            rw [baTo, extract3, beq_eq_false_iff_ne]; exact h4
          have := valid_bad hne (by rw [hdd, hd]) (by
            rw [hdd, hd]
            rcases hst with ⟨_, h6, _⟩ | ⟨_, h6, _⟩
            · exact h6
            · exact absurd (h6 rfl).1 h4)
          rcases he with rfl | rfl <;> simp [h, hd, w1, w2, h3, c1, c2, c3, c4, h5, ← hn, this]
    · have h1 : ((r : Int) == 65533) = false := by simp; omega
      have := valid_step hne (by rw [hdd, hd]; simp [r1])
      rw [hdd, hd] at this
      rw [List.drop_drop] at this
      rcases he with rfl | rfl <;> simp [h, hd, h1] <;>
        exact hnext (pos + wd, _, [(27, .b false)]) (by simp only; omega) ⟨hw.2, by rw [← hn, this], .inr rfl⟩
  · obtain rfl : pos = s.size := by omega
    have e2 : s.data.toList.drop s.size = [] := List.drop_of_length_le (by simp)
    rw [e2, valid_nil] at hn
    rcases he with rfl | rfl <;> simp [← hn]

end Ab
end Go.Proofs.YtgkaidnfmkncmaaDoor

/-
  DERIVED. lockstepref01.Check, value.Check, lockstepref08.Name: what they come to.
  Conditions: loops shorter than the rounds that are let.
-/
import Derived.Test.YtgkaidnfmkncmaaDoorS5
set_option linter.all false
namespace Go.Proofs.YtgkaidnfmkncmaaDoor
namespace Ab
open Go.Lib
set_option maxRecDepth 100000


theorem i47 : cfg.intr 47 = some (fun args => match args with | [.s s] => if s.size ≤ 9223372036854775807 then some (.b (validD s.data.toList)) else none | _ => none) := rfl
theorem goCall_47 (call : CallT) (st : St) (nx : Nat) (dst : Option Nat) (s : ByteArray) (hs : s.size ≤ 9223372036854775807) : goCall cfg call st nx dst 47 [.s s] = some (⟨dst, .b (validD s.data.toList), [], none, some []⟩, nx) := by
  simp [goCall, i47, hs]

theorem run34 (call : CallT) (k : Nat) (v : Val) (h46 : pR call 46 [.s v.s] = some (.b (validD v.s.data.toList))) : Ends cfg call k 34 [.agg v.row] [] 0 fun r _ _ => r = .i .i64 (valChk v) := by
  refine run_wp Tryd.func34 rfl (by simp [Tryd.f34]) ?_
  obtain ⟨t, n, s⟩ := v
  simp only at h46
  by_cases h1 : t < 0
  · simp [Val.row, h1, valChk]
  by_cases h2 : 4 < t
  · simp [Val.row, h1, h2, valChk]
  by_cases h3 : t = 4
  · subst h3
    by_cases h4 : n = 0
    · subst h4; simp [Val.row, valChk]
    by_cases h5 : n = 1
    · subst h5; simp [Val.row, valChk]
    have h4' : (n == 0) = false := by simp [h4]
    have h5' : (n == 1) = false := by simp [h5]
    have h4' : (n != 0) = true := by simp [h4]
    have h5' : (n != 1) = true := by simp [h5]
    simp [Val.row, h4', h5', h4, h5, valChk]
  have h3' : (t == 4) = false := by simp [h3]
  by_cases h6 : t = 3
  · subst h6
    by_cases h7 : 4096 < (s.size : Int)
    · have : 4096 < s.size := by omega
      simp [Val.row, h7, this, valChk]
    · have : ¬ 4096 < s.size := by omega
      cases hv : validD s.data.toList
      · simp [Val.row, h7, this, valChk, h46, hv]
      · simp [Val.row, h7, this, valChk, h46, hv]
  · have h6' : (t == 3) = false := by simp [h6]
    simp [Val.row, h1, h2, h3', h6', h3, h6, valChk]

theorem run35 (call : CallT) (k : Nat) (v : Val) (hs : v.s.size < 2 ^ 40) : Ends cfg call k 35 [.agg v.row] [] 0 fun r _ _ => r = .i .i64 (valChk v) := by
  refine run_wp Tryd.func35 rfl (by simp [Tryd.f35]) ?_
  obtain ⟨t, n, s⟩ := v
  simp only at hs
  have hs : s.size ≤ 9223372036854775807 := by omega
  by_cases h3 : t = 4
  · subst h3
    by_cases h4 : n = 0
    · subst h4; simp [Val.row, valChk]
    by_cases h5 : n = 1
    · subst h5; simp [Val.row, valChk]
    have h4' : (n == 0) = false := by simp [h4]
    have h5' : (n == 1) = false := by simp [h5]
    simp [Val.row, h4', h5', h4, h5, valChk]
  by_cases h6 : t = 3
  · subst h6
    by_cases h7 : 4096 < (s.size : Int)
    · have : 4096 < s.size := by omega
      simp [Val.row, h7, this, valChk]
    · have : ¬ 4096 < s.size := by omega
      cases hv : validD s.data.toList
      · simp [Val.row, h7, this, valChk, goCall_47, hs, hv]
      · simp [Val.row, h7, this, valChk, goCall_47, hs, hv]
  have h3' : (t == 4) = false := by simp [h3]
  have h6' : (t == 3) = false := by simp [h6]
  by_cases h0 : t = 0
  · subst h0; simp [Val.row, valChk]
  by_cases h1 : t = 1
  · subst h1; simp [Val.row, valChk]
  by_cases h2 : t = 2
  · subst h2; simp [Val.row, valChk]
  have h0' : (t == 0) = false := by simp [h0]
  have h1' : (t == 1) = false := by simp [h1]
  have h2' : (t == 2) = false := by simp [h2]
  simp [Val.row, valChk, h3', h6', h0', h1', h2', h3, h6]
  omega

theorem at_get {s : ByteArray} {i : Nat} (h : i < s.size) : ∃ x, s.data.toList[i]? = some x ∧ s.data.toList.drop i = x :: s.data.toList.drop (i + 1) := by
  have h' : i < s.data.toList.length := by simpa using h
  exact ⟨s.data.toList[i], List.getElem?_eq_getElem h', List.drop_eq_getElem_cons h'⟩

theorem run20 (call : CallT) (k : Nat) (s : ByteArray) (hk : s.size < k) (hs : s.size < 2 ^ 40) (h34 : pR call 34 [.agg (Val.row ⟨3, 0, s⟩)] = some (.i .i64 (valChk ⟨3, 0, s⟩))) : Ends cfg call k 20 [.s s] [] 0 fun r _ _ => r = .b (nameOk s) := by
  refine run_wp Tryd.func20 rfl (by simp [Tryd.f20]) ?_
  have h := h34
  simp only [Val.row] at h
  by_cases h1 : (s.size : Int) < 1
  · have : ¬ 1 ≤ s.size := by omega
    simp [h1, nameOk, this]
  by_cases h2 : (32 : Int) < s.size
  · have : ¬ s.size ≤ 32 := by omega
    simp [h1, h2, nameOk, this]
  have e1 : nameOk s = named s.data.toList := by
    unfold nameOk
    rw [decide_eq_true (by omega), decide_eq_true (by omega)]; rfl
  have e2 : ¬ 4096 < s.size := by omega
  rw [e1]
  cases hv : validD s.data.toList
  · simp [h1, h2, h, valChk, e2, hv, named]
  have e3 : named s.data.toList = nz s.data.toList := by simp [named, hv]
  rw [e3]
  simp [h1, h2, h, valChk, e2, hv]
  refine loop_wp (ι := Nat × Nat) (fun i => { env := [(0, .s s), (3, .i .i64 (i.1 : Nat))], loc := [], hp := [], nx := i.2 }) (fun i => s.size - i.1)
    (fun i => i.1 ≤ s.size ∧ nz (s.data.toList.drop i.1) = nz s.data.toList) (0, _) rfl ⟨Nat.zero_le _, rfl⟩ (by simpa using hk) ?_
  rintro Next ⟨i, nx⟩ ⟨hp, hn⟩ hnext
  simp only at hp hn hnext ⊢
  by_cases hi : i < s.size
  · obtain ⟨x, hx, hd⟩ := at_get hi
    have c1 : (i : Int) < s.size := by omega
    have c2 : (0 : Int) ≤ i := by omega
    have c3 : IntKind.i64.wrap ((i : Int) + 1) = i + 1 := wrap_i64 (by omega) (by omega)
    have hx' : s.data[i]? = some x := by simpa using hx
    by_cases hz : x = 0
    · have hz' : ((x.toNat : Int) == 0) = true := by simp [hz]
      have : nz s.data.toList = false := by rw [← hn, hd, hz]; rfl
      simp [c1, c2, hx', hz', this]
    · have hz' : ((x.toNat : Int) == 0) = false := by
        rw [beq_eq_false_iff_ne]
        intro h0
        exact hz (UInt8.toNat_inj.1 (by simp at h0 ⊢; omega))
      have hb : (x != 0) = true := by simp [hz]
      have : nz (s.data.toList.drop (i + 1)) = nz s.data.toList := by rw [← hn, hd]; simp [nz, hb]
      simp [c1, c2, c3, hx', hz']
      exact hnext (i + 1, _) (by simp only; omega) ⟨hi, this⟩
  · obtain rfl : i = s.size := by omega
    have e2 : s.data.toList.drop s.size = [] := List.drop_of_length_le (by simp)
    rw [e2] at hn
    have hn' : nz s.data.toList = true := hn.symm
    simp [hn']

end Ab
end Go.Proofs.YtgkaidnfmkncmaaDoor

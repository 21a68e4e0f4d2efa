/-
  DERIVED. lockstepref26.parts, lockstepref26.Can.
  Conditions: enough rounds, enough depth; bounded lengths.
-/
import Derived.Test.YtidoflgcblglbaaDoorW2
set_option linter.all false
set_option maxHeartbeats 4000000
namespace Go.Proofs.YtidoflgcblglbaaDoor
namespace Ab
open Go.Lib
set_option maxRecDepth 100000
set_option maxHeartbeats 4000000
set_option linter.all false
attribute [local simp] wp_region regionA opsA nCall rCall goCallR pCall pnCall lenA appendA appRow newsA rowsSz rowsOf isIntD makeSliceA elemOf rowsBuilt eqA eq1

open Classical in
noncomputable def partsB (l : List Int) : Bool := decide (PartsOk l)
theorem partsB_no {l : List Int} (h : ¬ PartsOk l) : partsB l = false := by simp [partsB, h]
theorem p_rParts {K n : Nat} (hK : big K) (hn : 1 ≤ n) (z : Bool) (l : List Int) (hl : l.length ≤ 2 ^ 20) : pR (callA cfg K n) 57 [.vs z 1 (ints l)] = some (.b (partsB l)) := by
  obtain ⟨n, rfl⟩ : ∃ m, n = m + 1 := ⟨n - 1, by omega⟩
  refine pr_of rfl ?_ rfl
  refine run_wp Tryd.func57 rfl (by simp [Tryd.f57]) ?_
  simp
  refine loop_wp (ι := Nat × Nat) (fun i => { env := [(0, .vs z 1 (ints l)), (3, .i .i64 (i.1 : Nat))], loc := [], hp := [], nx := i.2 }) (fun i => l.length - i.1)
    (fun i => i.1 ≤ l.length ∧ (∀ p ∈ l.take i.1, 0 ≤ p ∧ p < 64) ∧ ∀ (j : Nat) (a b : Int), j + 1 < i.1 → l[j]? = some a → l[j + 1]? = some b → a < b) (0, _) rfl ⟨Nat.zero_le _, by simp, fun j a b h => by simp at h⟩ (by simp; unfold big at hK; omega) ?_
  rintro Next ⟨i, nx⟩ ⟨hi, he, hu⟩ hnext
  simp only at hi he hu hnext
  by_cases hlt : i < l.length
  · obtain ⟨a, ha⟩ : ∃ a, l[i]? = some a := ⟨_, List.getElem?_eq_getElem hlt⟩
    have ham := List.mem_of_getElem? ha
    have c1 : (i : Int) < l.length := by omega
    have hr := ints_get ha
    have hr2 : ∀ h, (ints l)[i]'h = [.i .i64 a] := fun h => by rw [List.getElem?_eq_getElem h] at hr; exact Option.some.inj hr
    have c3 : IntKind.i64.wrap ((i : Int) + 1) = ((i + 1 : Nat) : Int) := by rw [wrap_i64 (by omega) (by omega)]; omega
    by_cases g1 : a < 0
    · have := partsB_no (l := l) fun h => by have := h.2.2.1 a ham; omega
      simp [c1, hr2, hlt, g1, this]
      exact ⟨by kernel_rfl, by kernel_rfl⟩
    by_cases g2 : (64 : Int) ≤ a
    · have := partsB_no (l := l) fun h => by have := h.2.2.1 a ham; omega
      simp [c1, hr2, hlt, g1, g2, this]
      exact ⟨by kernel_rfl, by kernel_rfl⟩
    have hnx : (∀ b : Int, ∀ j : Nat, j + 1 = i → l[j]? = some b → b < a) → ∀ N' : Nat, Next { env := [(0, .vs z 1 (ints l)), (3, .i .i64 ((i + 1 : Nat) : Int))], loc := [], hp := [], nx := N' } := fun hb N' => hnext (i + 1, N') (by simp only; omega) ⟨by simp only; omega, fun p hp => by
        simp only at hp
        rw [List.take_add_one, ha] at hp
        rcases List.mem_append.1 hp with hp | hp
        · exact he p hp
        · simp at hp; rw [hp]; omega, fun j x y hj hx hy => by
        simp only at hj
        by_cases e : j + 1 < i
        · exact hu j x y e hx hy
        · have e2 : j + 1 = i := by omega
          rw [e2, ha] at hy; cases hy
          exact hb x j e2 hx⟩
    by_cases g3 : i = 0
    · have q3 : ¬ 0 < i := by omega
      simp [c1, hr2, hlt, g1, g2, c3, q3]
      refine ⟨⟨by kernel_rfl, by kernel_rfl⟩, ?_⟩
      exact hnx (fun b j e => by omega) _
    · obtain ⟨j, rfl⟩ : ∃ j, i = j + 1 := ⟨i - 1, by omega⟩
      obtain ⟨b, hb⟩ : ∃ b, l[j]? = some b := ⟨_, List.getElem?_eq_getElem (by omega)⟩
      have q1 := ints_get hb
      have q2 : ∀ h, (ints l)[j]'h = [.i .i64 b] := fun h => by rw [List.getElem?_eq_getElem h] at q1; exact Option.some.inj q1
      have q4 : IntKind.i64.wrap (((j + 1 : Nat) : Int) - 1) = ((j : Nat) : Int) := by rw [wrap_i64 (by omega) (by omega)]; omega
      have q5 : j < l.length := by omega
      obtain ⟨i', hi'⟩ : ∃ i' : Nat, i' = j + 1 := ⟨_, rfl⟩
      rw [← hi'] at c1 hr2 hlt c3 hnx q4 ⊢
      have q3' : 0 < i' := by omega
      by_cases g4 : a ≤ b
      · have := partsB_no (l := l) fun h => by have := h.2.2.2 j b a hb (by rw [← hi'] at ha; rw [← hi']; exact ha); omega
        simp [c1, hr2, hlt, g1, g2, c3, q2, q3', q4, q5, g4, this]
        exact ⟨by kernel_rfl, by kernel_rfl⟩
      · simp [c1, hr2, hlt, g1, g2, c3, q2, q3', q4, q5, g4]
        refine ⟨⟨by kernel_rfl, by kernel_rfl⟩, ?_⟩
        exact hnx (fun x j' e hx => by
            have : j' = j := by omega
            subst this
            rw [hb] at hx; cases hx; omega) _
  · have hil : i = l.length := by omega
    subst hil
    by_cases h1 : 0 < l.length
    · by_cases h2 : (l.length : Int) ≤ 64
      · have hP : partsB l = true := by
          have : PartsOk l := ⟨by omega, by omega, fun p hp => he p (by rw [List.take_length]; exact hp), fun j a b h1 h2 => hu j a b (List.getElem?_eq_some_iff.1 h2).1 h1 h2⟩
          simp [partsB, this]
        simp [h1, h2, hP]
      · have := partsB_no (l := l) fun h => by have := h.2.1; omega
        simp [h1, h2, this]
    · have := partsB_no (l := l) fun h => by have := h.1; omega
      simp [h1, this]

end Ab
end Go.Proofs.YtidoflgcblglbaaDoor

/-
  DERIVED. Lists of ints: slices.Index, Contains, Equal, lockstepref26.in.
  Conditions: enough rounds, enough depth; bounded lengths.
-/
namespace Go.Proofs.YtidoflgcblglbaaDoor
namespace Ab
open Go.Lib
set_option maxRecDepth 100000
set_option maxHeartbeats 4000000
set_option linter.all false
attribute [local simp] wp_region regionA opsA nCall rCall goCallR pCall pnCall lenA appendA appRow newsA rowsSz rowsOf isIntD makeSliceA elemOf rowsBuilt eqA eq1

theorem int_row {l : List Int} {i : Nat} {x : Int} (h : l[i]? = some x) : ∀ g, (ints l)[i]'g = [.i .i64 x] := fun g => by
  have := ints_get h
  rw [List.getElem?_eq_getElem g] at this
  exact Option.some.inj this
theorem take_not {α : Type} [DecidableEq α] {l : List α} {i : Nat} {x a : α} (h : l[i]? = some a) (hx : x ∉ l.take i) (hne : a ≠ x) : x ∉ l.take (i + 1) := by
  rw [List.take_add_one, h]
  intro hm
  rcases List.mem_append.1 hm with hm | hm
  · exact hx hm
  · simp at hm; exact hne hm.symm
theorem first_of {x : Int} : ∀ {l : List Int}, x ∈ l → ∃ i : Nat, l[i]? = some x ∧ x ∉ l.take i
  | [], h => by simp at h
  | a :: l, h => by
    by_cases e : x = a
    · exact ⟨0, by simp [e], by simp⟩
    · obtain ⟨i, h1, h2⟩ := first_of (x := x) (l := l) ((List.mem_cons.1 h).resolve_left e)
      exact ⟨i + 1, by simpa using h1, by simp [List.take_succ_cons, h2, e]⟩
theorem p_rin {K n : Nat} (hK : big K) (hn : 1 ≤ n) (z : Bool) (l : List Int) (x : Int) (hl : l.length ≤ 2 ^ 20) : pR (callA cfg K n) 59 [.vs z 1 (ints l), .i .i64 x] = some (.b (decide (x ∈ l))) := by
  obtain ⟨n, rfl⟩ : ∃ m, n = m + 1 := ⟨n - 1, by omega⟩
  refine pr_of rfl ?_ rfl
  refine run_wp Tryd.func59 rfl (by simp [Tryd.f59]) ?_
  simp
  refine loop_wp (ι := Nat × Nat) (fun i => { env := [(0, .vs z 1 (ints l)), (1, .i .i64 x), (5, .i .i64 (i.1 : Nat))], loc := [], hp := [], nx := i.2 }) (fun i => l.length - i.1)
    (fun i => i.1 ≤ l.length ∧ x ∉ l.take i.1) (0, _) rfl ⟨Nat.zero_le _, by simp⟩ (by simp; unfold big at hK; omega) ?_
  rintro Next ⟨i, nx⟩ ⟨hi, he⟩ hnext
  simp only at hi he hnext
  by_cases hlt : i < l.length
  · obtain ⟨a, ha⟩ : ∃ a, l[i]? = some a := ⟨_, List.getElem?_eq_getElem hlt⟩
    have c1 : (i : Int) < l.length := by omega
    have hr2 := int_row ha
    have c3 : IntKind.i64.wrap ((i : Int) + 1) = ((i + 1 : Nat) : Int) := by rw [wrap_i64 (by omega) (by omega)]; omega
    by_cases g : a = x
    · have g1 : (a == x) = true := by simp [g]
      have g2 : x ∈ l := g ▸ List.mem_of_getElem? ha
      simp [c1, hr2, hlt, g1, g2]
    · have g1 : (a == x) = false := by simp [g]
      simp [c1, hr2, hlt, g1, c3]
      exact hnext (i + 1, _) (by simp only; omega) ⟨by simp only; omega, take_not ha he g⟩
  · have hil : i = l.length := by omega
    subst hil
    rw [List.take_length] at he
    simp [he]
theorem p_ixI {K n : Nat} (hK : big K) (hn : 1 ≤ n) (z : Bool) (l : List Int) (x : Int) (hl : l.length ≤ 2 ^ 20) : ∃ y : Int, pR (callA cfg K n) 79 [.vs z 1 (ints l), .i .i64 x] = some (.i .i64 y) ∧ (0 ≤ y ↔ x ∈ l) := by
  obtain ⟨n, rfl⟩ : ∃ m, n = m + 1 := ⟨n - 1, by omega⟩
  have : ∀ y : Int, ((∃ i : Nat, y = i ∧ l[i]? = some x ∧ x ∉ l.take i) ∨ (y = -1 ∧ x ∉ l)) → pR (callA cfg K (n + 1)) 79 [.vs z 1 (ints l), .i .i64 x] = some (.i .i64 y) := by
    intro y hy
    refine pr_of rfl ?_ rfl
    refine run_wp Tryd.func79 rfl (by simp [Tryd.f79]) ?_
    simp
    refine loop_wp (ι := Nat × Nat) (fun i => { env := [(0, .vs z 1 (ints l)), (1, .i .i64 x), (7, .i .i64 (l.length : Nat)), (8, .i .i64 (i.1 : Nat))], loc := [], hp := [], nx := i.2 }) (fun i => l.length - i.1)
      (fun i => i.1 ≤ l.length ∧ x ∉ l.take i.1) (0, _) rfl ⟨Nat.zero_le _, by simp⟩ (by simp; unfold big at hK; omega) ?_
    rintro Next ⟨i, nx⟩ ⟨hi, he⟩ hnext
    simp only at hi he hnext
    by_cases hlt : i < l.length
    · obtain ⟨a, ha⟩ : ∃ a, l[i]? = some a := ⟨_, List.getElem?_eq_getElem hlt⟩
      have c1 : (i : Int) < l.length := by omega
      have hr2 := int_row ha
      have c3 : IntKind.i64.wrap ((i : Int) + 1) = ((i + 1 : Nat) : Int) := by rw [wrap_i64 (by omega) (by omega)]; omega
      by_cases g : x = a
      · have g1 : (x == a) = true := by simp [g]
        have hyi : y = i := by
          rcases hy with ⟨j, h1, h2, h3⟩ | ⟨h1, h2⟩
          · rcases Nat.lt_trichotomy i j with h | h | h
            · exact absurd (g ▸ List.mem_iff_getElem?.2 ⟨i, by rw [List.getElem?_take_of_lt h]; exact ha⟩) h3
            · rw [h1, h]
            · exact absurd (List.mem_iff_getElem?.2 ⟨j, by rw [List.getElem?_take_of_lt h]; exact h2⟩) he
          · exact absurd (g ▸ List.mem_of_getElem? ha) h2
        simp [c1, hr2, hlt, g1, hyi]
      · have g1 : (x == a) = false := by simp [g]
        simp [c1, hr2, hlt, g1, c3]
        exact hnext (i + 1, _) (by simp only; omega) ⟨by simp only; omega, take_not ha he (fun e => g e.symm)⟩
    · have hil : i = l.length := by omega
      subst hil
      rw [List.take_length] at he
      have hyi : y = -1 := by
        rcases hy with ⟨j, h1, h2, h3⟩ | ⟨h1, h2⟩
        · exact absurd (List.mem_of_getElem? h2) he
        · exact h1
      simp [hyi]
  by_cases hx : x ∈ l
  · obtain ⟨i, h1, h2⟩ := first_of hx
    exact ⟨(i : Nat), this _ (.inl ⟨i, rfl, h1, h2⟩), by simp [hx]⟩
  · exact ⟨-1, this _ (.inr ⟨rfl, hx⟩), by simp [hx]⟩
theorem p_contI {K n : Nat} (hK : big K) (hn : 2 ≤ n) (z : Bool) (l : List Int) (x : Int) (hl : l.length ≤ 2 ^ 20) : pR (callA cfg K n) 56 [.vs z 1 (ints l), .i .i64 x] = some (.b (decide (x ∈ l))) := by
  obtain ⟨n, rfl⟩ : ∃ m, n = m + 1 := ⟨n - 1, by omega⟩
  refine pr_of rfl ?_ rfl
  refine run_wp Tryd.func56 rfl (by simp [Tryd.f56]) ?_
  obtain ⟨y, h, hy⟩ := p_ixI (K := K) (n := n) hK (by omega) z l x hl
  by_cases g : x ∈ l
  · simp [h, g, hy.2 g]
  · have : ¬ 0 ≤ y := fun e => g (hy.1 e)
    simp [h, g, this]
theorem p_eqI {K n : Nat} (hK : big K) (hn : 1 ≤ n) (z z' : Bool) (l m : List Int) (hl : l.length ≤ 2 ^ 20) : pR (callA cfg K n) 68 [.vs z 1 (ints l), .vs z' 1 (ints m)] = some (.b (decide (l = m))) := by
  obtain ⟨n, rfl⟩ : ∃ m, n = m + 1 := ⟨n - 1, by omega⟩
  refine pr_of rfl ?_ rfl
  refine run_wp Tryd.func68 rfl (by simp [Tryd.f68]) ?_
  by_cases h0 : l.length = m.length
  · have h0' : ((l.length : Int) != m.length) = false := by simp [h0]
    simp [h0']
    refine loop_wp (ι := Nat × Nat) (fun i => { env := [(0, .vs z 1 (ints l)), (1, .vs z' 1 (ints m)), (12, .i .i64 (l.length : Nat)), (13, .i .i64 (i.1 : Nat))], loc := [], hp := [], nx := i.2 }) (fun i => l.length - i.1)
      (fun i => i.1 ≤ l.length ∧ l.take i.1 = m.take i.1) (0, _) rfl ⟨Nat.zero_le _, by simp⟩ (by simp; unfold big at hK; omega) ?_
    rintro Next ⟨i, nx⟩ ⟨hi, he⟩ hnext
    simp only at hi he hnext
    by_cases hlt : i < l.length
    · obtain ⟨a, ha⟩ : ∃ a, l[i]? = some a := ⟨_, List.getElem?_eq_getElem hlt⟩
      obtain ⟨b, hb⟩ : ∃ b, m[i]? = some b := ⟨_, List.getElem?_eq_getElem (by omega)⟩
      have c1 : (i : Int) < l.length := by omega
      have hlt2 : i < m.length := by omega
      have hr2 := int_row ha
      have hr3 := int_row hb
      have c3 : IntKind.i64.wrap ((i : Int) + 1) = ((i + 1 : Nat) : Int) := by rw [wrap_i64 (by omega) (by omega)]; omega
      by_cases g : a = b
      · have g1 : (a != b) = false := by simp [g]
        simp [c1, hr2, hr3, hlt, hlt2, g1, c3]
        refine ⟨⟨by kernel_rfl, by kernel_rfl⟩, ?_⟩
        exact hnext (i + 1, _) (by simp only; omega) ⟨by simp only; omega, by simp only; rw [List.take_add_one, List.take_add_one, he, ha, hb, g]⟩
      · have g1 : (a != b) = true := by simp [g]
        have g2 : l ≠ m := fun e => by rw [e, hb] at ha; exact g (Option.some.inj ha).symm
        simp [c1, hr2, hr3, hlt, hlt2, g1, g2]
        exact ⟨by kernel_rfl, by kernel_rfl⟩
    · have hil : i = l.length := by omega
      subst hil
      rw [List.take_length, h0, List.take_length] at he
      simp [he]
  · have h0' : ((l.length : Int) != m.length) = true := by simp; omega
    have g2 : l ≠ m := fun e => h0 (by rw [e])
    simp [h0', g2]

end Ab
end Go.Proofs.YtidoflgcblglbaaDoor

/-
  DERIVED. lockstepref26.Can; recovery.one, same; lockstepref02.Plain, lockstepref26.Same.
  Conditions: enough rounds, enough depth; bounded lengths.
-/
namespace Go.Proofs.YtidoflgcblglbaaDoor
namespace Ab
open Go.Lib
set_option maxRecDepth 100000
set_option maxHeartbeats 4000000
set_option linter.all false
attribute [local simp] wp_region regionA opsA nCall rCall goCallR pCall pnCall lenA appendA appRow newsA rowsSz rowsOf isIntD makeSliceA elemOf rowsBuilt eqA eq1

theorem val_row {l : List Val} {i : Nat} {x : Val} (h : l[i]? = some x) : ∀ g, (valRows l)[i]'g = x.row := fun g => by
  have := valRows_get h
  rw [List.getElem?_eq_getElem g] at this
  exact Option.some.inj this
theorem p_rCan {K n : Nat} (hK : big K) (hn : 3 ≤ n) (zp za : Bool) (r : Rec) (hB : RecB r) : pR (callA cfg K n) 32 [.agg (recCells zp za r)] = some (.b (canB r)) := by
  obtain ⟨n, rfl⟩ : ∃ m, n = m + 1 := ⟨n - 1, by omega⟩
  refine pr_of rfl ?_ rfl
  refine run_wp Tryd.func32 rfl (by simp [Tryd.f32]) ?_
  have hpp := p_rParts (K := K) (n := n) hK (by omega) zp r.parts hB.parts
  have hvc := fun (v : Val) (hv : v ∈ r.args) => p_rvCheck (K := K) (n := n) hK (by omega) v (hB.text v hv)
  by_cases h0 : r.id = 0
  · have := canB_no (r := r) fun h => h.1 h0
    simp [recCells, h0, this]
  have h0' : ((r.id : Int) == 0) = false := by simp [h0]
  by_cases h1 : ¬ PartsOk r.parts
  · have := canB_no (r := r) fun h => h1 h.2.1
    simp [recCells, h0', hpp, partsB_no h1, this]
  have h1 : PartsOk r.parts := Classical.not_not.1 h1
  have h1' : partsB r.parts = true := by simp [partsB, h1]
  by_cases h3 : (r.proc.size : Int) < 1
  · have := canB_no (r := r) fun h => by have := h.2.2.1; omega
    simp [recCells, h0', hpp, h1', h3, this]
  by_cases h4 : (32 : Int) < r.proc.size
  · have := canB_no (r := r) fun h => by have := h.2.2.2.1; omega
    simp [recCells, h0', hpp, h1', h3, h4, this]
  by_cases h5 : (16 : Int) < r.args.length
  · have := canB_no (r := r) fun h => by have := h.2.2.2.2.1; omega
    simp [recCells, h0', hpp, h1', h3, h4, h5, this]
  have hal := hB.args
  simp [recCells, h0', hpp, h1', h3, h4, h5]
  refine loop_wp (ι := Nat × Nat) (fun i => { env := [(1, .lp 1 0 0), (3, .i .i64 (i.1 : Nat))], loc := [(1, (0, .cells (recCells zp za r)))], hp := [], nx := i.2 }) (fun i => r.args.length - i.1)
    (fun i => i.1 ≤ r.args.length ∧ ∀ v ∈ r.args.take i.1, valChk v = 0) (0, _) rfl ⟨Nat.zero_le _, by simp⟩ (by simp; unfold big at hK; omega) ?_
  rintro Next ⟨i, nx⟩ ⟨hi, he⟩ hnext
  simp only at hi he hnext
  by_cases hlt : i < r.args.length
  · obtain ⟨v, hv⟩ : ∃ v, r.args[i]? = some v := ⟨_, List.getElem?_eq_getElem hlt⟩
    have hvm := List.mem_of_getElem? hv
    have c1 : (i : Int) < r.args.length := by omega
    have hr2 := val_row hv
    have c3 : IntKind.i64.wrap ((i : Int) + 1) = ((i + 1 : Nat) : Int) := by rw [wrap_i64 (by omega) (by omega)]; omega
    by_cases g : valChk v = 0
    · have g' : (valChk v != 0) = false := by simp [g]
      simp [recCells, c1, hr2, hlt, hvc v hvm, g', c3]
      exact hnext (i + 1, _) (by simp only; omega) ⟨by simp only; omega, fun w hw => by
        simp only at hw
        rw [List.take_add_one, hv] at hw
        rcases List.mem_append.1 hw with hw | hw
        · exact he w hw
        · simp at hw; rw [hw]; exact g⟩
    · have g' : (valChk v != 0) = true := by simp [g]
      have := canB_no (r := r) fun h => g (h.2.2.2.2.2 v hvm)
      simp [recCells, c1, hr2, hlt, hvc v hvm, g', this]
  · have hil : i = r.args.length := by omega
    subst hil
    rw [List.take_length] at he
    have := canB_yes (r := r) ⟨h0, h1, by omega, by omega, by omega, he⟩
    simp [recCells, this]

theorem ba_eq {s t : ByteArray} : s.toList = t.toList ↔ s = t := by
  constructor
  · intro h
    rw [baTo, baTo] at h
    cases s; cases t
    simp at h
    rw [h]
  · intro h; rw [h]
def oneB (a b : Val) : Bool := if a.t = b.t then (if a.t = 0 then true else if a.t = 3 then (a.s.toList == b.s.toList) else (a.n == b.n)) else false
theorem one_plain {a b : Val} (h : valChk a = 0) : oneB a b = true ↔ a.plain = b.plain := by
  obtain ⟨t, n, s⟩ := a
  obtain ⟨t', n', s'⟩ := b
  have ht : 0 ≤ t ∧ t ≤ 4 := by
    unfold valChk at h
    simp only at h
    constructor
    · exact Int.not_lt.1 fun h1 => by rw [if_pos h1] at h; cases h
    · exact Int.not_lt.1 fun h1 => by
        rw [if_neg (by omega), if_pos h1] at h; cases h
  unfold oneB Val.plain
  simp only
  by_cases e : t = t'
  · subst e
    rw [if_pos rfl]
    by_cases h0 : t = 0
    · subst h0; simp
    · by_cases h3 : t = 3
      · subst h3; simp [ba_eq]
      · have h4 : t = 1 ∨ t = 2 ∨ t = 4 := by omega
        rw [if_neg h0, if_neg h3, if_pos h4, if_pos h4]
        simp
  · rw [if_neg e]
    simp only [Bool.false_eq_true, false_iff]
    intro h5
    apply e
    have := congrArg Val.t h5
    split at this <;> split at this <;> (try split at this) <;> (try split at this) <;> exact this
theorem p_one {K n : Nat} (hn : 1 ≤ n) (a b : Val) : pR (callA cfg K n) 70 [.agg a.row, .agg b.row] = some (.b (oneB a b)) := by
  obtain ⟨n, rfl⟩ : ∃ m, n = m + 1 := ⟨n - 1, by omega⟩
  refine pr_of rfl ?_ rfl
  refine run_wp Tryd.func70 rfl (by simp [Tryd.f70]) ?_
  obtain ⟨t, m, s⟩ := a
  obtain ⟨t', m', s'⟩ := b
  by_cases e : t = t'
  · subst e
    by_cases h0 : t = 0
    · subst h0
      simp [Val.row, oneB]
    · have h0' : (t == 0) = false := by simp [h0]
      by_cases h3 : t = 3
      · subst h3
        simp [Val.row, oneB]
      · have h3' : (t == 3) = false := by simp [h3]
        simp [Val.row, oneB, h0', h3', h0, h3]
  · have e' : (t != t') = true := by simp [e]
    simp [Val.row, oneB, e', e]

end Ab
end Go.Proofs.YtidoflgcblglbaaDoor

/-
  DERIVED. RECORDS: recovery.can, lockstepref26.Can: whether a record can be.
  Conditions: enough rounds, enough depth; bounded lengths.
-/
import Derived.Test.YtidoflgcblglbaaDoorW1
set_option linter.all false
set_option maxHeartbeats 4000000
namespace Go.Proofs.YtidoflgcblglbaaDoor
namespace Ab
open Go.Lib
set_option maxRecDepth 100000
set_option maxHeartbeats 4000000
set_option linter.all false
attribute [local simp] wp_region regionA opsA nCall rCall goCallR pCall pnCall lenA appendA appRow newsA rowsSz rowsOf isIntD makeSliceA elemOf rowsBuilt eqA eq1

def ints (l : List Int) : List (List AV) := l.map fun x => [.i .i64 x]
@[simp] theorem ints_len (l : List Int) : (ints l).length = l.length := by simp [ints]
theorem ints_get {l : List Int} {i : Nat} {x : Int} (h : l[i]? = some x) : (ints l)[i]? = some [.i .i64 x] := by simp [ints, h]
def valRows (l : List Val) : List (List AV) := l.map Val.row
@[simp] theorem valRows_len (l : List Val) : (valRows l).length = l.length := by simp [valRows]
theorem valRows_get {l : List Val} {i : Nat} {x : Val} (h : l[i]? = some x) : (valRows l)[i]? = some x.row := by simp [valRows, h]
/-- A record's cells, its lists told outright. -/
def recCells (zp za : Bool) (r : Rec) : List AV := [.i .u64 (r.id : Nat), .i .u64 (r.client : Nat), .i .u64 (r.seq : Nat), .vs zp 1 (ints r.parts), .s r.proc, .vs za 3 (valRows r.args)]
structure RecB (r : Rec) : Prop where
  id : r.id < 18446744073709551616
  parts : r.parts.length ≤ 2 ^ 20
  proc : r.proc.size ≤ 2 ^ 22
  args : r.args.length ≤ 2 ^ 20
  text : ∀ v ∈ r.args, v.s.size < 2 ^ 24
def CanR (r : Rec) : Prop := r.id ≠ 0 ∧ PartsOk r.parts ∧ 1 ≤ r.proc.size ∧ r.proc.size ≤ 32 ∧ r.args.length ≤ 16 ∧ ∀ v ∈ r.args, valChk v = 0
open Classical in
noncomputable def canB (r : Rec) : Bool := decide (CanR r)
theorem canB_no {r : Rec} (h : ¬ CanR r) : canB r = false := by simp [canB, h]
theorem canB_yes {r : Rec} (h : CanR r) : canB r = true := by simp [canB, h]

theorem p_canC {K n : Nat} (hn : 2 ≤ n) (v : Val) (hs : v.s.size < 2 ^ 24) : pR (callA cfg K n) 77 [.agg v.row] = some (.b (valChk v != 0)) := by
  obtain ⟨n, rfl⟩ : ∃ m, n = m + 1 := ⟨n - 1, by omega⟩
  refine pr_of rfl ?_ rfl
  refine run_wp Tryd.func77 rfl (by simp [Tryd.f77]) ?_
  have h := p_vCheck (K := K) (n := n) (by omega) v hs
  simp [h]
theorem p_ixV {K n : Nat} (hK : big K) (hn : 3 ≤ n) (z : Bool) (l : List Val) (hl : l.length ≤ 2 ^ 20) (hs : ∀ v ∈ l, v.s.size < 2 ^ 24) : pR (callA cfg K n) 101 [.vs z 3 (valRows l), .fn 77 []] = some (.i .i64 (match l.findIdx? (fun v => valChk v != 0) with | some i => (i : Nat) | none => -1)) := by
  obtain ⟨n, rfl⟩ : ∃ m, n = m + 1 := ⟨n - 1, by omega⟩
  refine pr_of rfl ?_ rfl
  refine run_wp Tryd.func101 rfl (by simp [Tryd.f101]) ?_
  have hc := fun (v : Val) (hv : v ∈ l) => p_canC (K := K) (n := n) (by omega) v (hs v hv)
  simp
  refine loop_wp (ι := Nat × Nat) (fun i => { env := [(0, .vs z 3 (valRows l)), (1, .fn 77 []), (7, .i .i64 (l.length : Nat)), (8, .i .i64 (i.1 : Nat))], loc := [], hp := [], nx := i.2 }) (fun i => l.length - i.1)
    (fun i => i.1 ≤ l.length ∧ ∀ v ∈ l.take i.1, valChk v = 0) (0, _) rfl ⟨Nat.zero_le _, by simp⟩ (by simp; unfold big at hK; omega) ?_
  rintro Next ⟨i, nx⟩ ⟨hi, he⟩ hnext
  simp only at hi he hnext
  by_cases hlt : i < l.length
  · obtain ⟨v, hv⟩ : ∃ v, l[i]? = some v := ⟨_, List.getElem?_eq_getElem hlt⟩
    have hvm := List.mem_of_getElem? hv
    have c1 : (i : Int) < l.length := by omega
    have hr := valRows_get hv
    have hr2 : ∀ h, (valRows l)[i]'h = v.row := fun h => by rw [List.getElem?_eq_getElem h] at hr; exact Option.some.inj hr
    have c3 : IntKind.i64.wrap ((i : Int) + 1) = ((i + 1 : Nat) : Int) := by rw [wrap_i64 (by omega) (by omega)]; omega
    by_cases h0 : valChk v = 0
    · have h0' : (valChk v != 0) = false := by simp [h0]
      simp [c1, hr2, hlt, hc v hvm, h0', c3]
      exact hnext (i + 1, _) (by simp only; omega) ⟨by simp only; omega, fun w hw => by
        simp only at hw
        rw [List.take_add_one, hv] at hw
        rcases List.mem_append.1 hw with hw | hw
        · exact he w hw
        · simp at hw; rw [hw]; exact h0⟩
    · have h0' : (valChk v != 0) = true := by simp [h0]
      have hf : l.findIdx? (fun v => valChk v != 0) = some i := by
        rw [List.findIdx?_eq_some_iff_getElem]
        refine ⟨hlt, by rw [List.getElem?_eq_getElem hlt] at hv; rw [Option.some.inj hv]; exact h0', fun j hj => ?_⟩
        have := he l[j] (List.mem_iff_getElem?.2 ⟨j, by rw [List.getElem?_take_of_lt hj]; exact List.getElem?_eq_getElem _⟩)
        simp [this]
      simp [c1, hr2, hlt, hc v hvm, h0', hf]
  · have hil : i = l.length := by omega
    subst hil
    have hf : l.findIdx? (fun v => valChk v != 0) = none := by
      rw [List.findIdx?_eq_none_iff]
      intro v hv
      have := he v (by rw [List.take_length]; exact hv)
      simp [this]
    simp [hf]

theorem p_cfV {K n : Nat} (hK : big K) (hn : 4 ≤ n) (z : Bool) (l : List Val) (hl : l.length ≤ 2 ^ 20) (hs : ∀ v ∈ l, v.s.size < 2 ^ 24) : pR (callA cfg K n) 76 [.vs z 3 (valRows l), .fn 77 []] = some (.b (l.any fun v => valChk v != 0)) := by
  obtain ⟨n, rfl⟩ : ∃ m, n = m + 1 := ⟨n - 1, by omega⟩
  refine pr_of rfl ?_ rfl
  refine run_wp Tryd.func76 rfl (by simp [Tryd.f76]) ?_
  have h := p_ixV (K := K) (n := n) hK (by omega) z l hl hs
  cases hf : l.findIdx? (fun v => valChk v != 0) with
  | none =>
    rw [hf] at h
    have ha : (l.any fun v => valChk v != 0) = false := by
      rw [List.findIdx?_eq_none_iff] at hf
      rw [List.any_eq_false]
      intro v hv
      simpa using hf v hv
    simp [h, ha]
  | some i =>
    rw [hf] at h
    have ha : (l.any fun v => valChk v != 0) = true := by
      obtain ⟨h1, h2, _⟩ := List.findIdx?_eq_some_iff_getElem.1 hf
      rw [List.any_eq_true]
      exact ⟨_, List.getElem_mem h1, h2⟩
    have h3 : ¬ (i : Int) < 0 := by omega
    simp [h, ha]
theorem p_can {K n : Nat} (hK : big K) (hn : 5 ≤ n) (zp za : Bool) (r : Rec) (hB : RecB r) : pR (callA cfg K n) 55 [.agg (recCells zp za r)] = some (.b (canB r)) := by
  obtain ⟨n, rfl⟩ : ∃ m, n = m + 1 := ⟨n - 1, by omega⟩
  refine pr_of rfl ?_ rfl
  refine run_wp Tryd.func55 rfl (by simp [Tryd.f55]) ?_
  have hcf := p_cfV (K := K) (n := n) hK (by omega) za r.args hB.args hB.text
  by_cases h0 : r.id = 0
  · have := canB_no (r := r) fun h => h.1 h0
    simp [recCells, h0, this]
  have h0' : ((r.id : Int) == 0) = false := by simp [h0]
  by_cases h1 : (r.parts.length : Int) < 1
  · have := canB_no (r := r) fun h => by have := h.2.1.1; omega
    simp [recCells, h0', h1, this]
  by_cases h2 : (64 : Int) < r.parts.length
  · have := canB_no (r := r) fun h => by have := h.2.1.2.1; omega
    simp [recCells, h0', h1, h2, this]
  by_cases h3 : (r.proc.size : Int) < 1
  · have := canB_no (r := r) fun h => by have := h.2.2.1; omega
    simp [recCells, h0', h1, h2, h3, this]
  by_cases h4 : (32 : Int) < r.proc.size
  · have := canB_no (r := r) fun h => by have := h.2.2.2.1; omega
    simp [recCells, h0', h1, h2, h3, h4, this]
  by_cases h5 : (16 : Int) < r.args.length
  · have := canB_no (r := r) fun h => by have := h.2.2.2.2.1; omega
    simp [recCells, h0', h1, h2, h3, h4, h5, this]
  have hpl := hB.parts
  simp [recCells, h0', h1, h2, h3, h4, h5]
  refine loop_wp (ι := Nat × Nat) (fun i => { env := [(1, .lp 1 0 0), (39, .vs zp 1 (ints r.parts)), (40, .i .i64 (r.parts.length : Nat)), (41, .i .i64 (i.1 : Nat))], loc := [(1, (0, .cells (recCells zp za r)))], hp := [], nx := i.2 }) (fun i => r.parts.length - i.1)
    (fun i => i.1 ≤ r.parts.length ∧ (∀ p ∈ r.parts.take i.1, 0 ≤ p ∧ p < 64) ∧ ∀ (j : Nat) (a b : Int), j + 1 < i.1 → r.parts[j]? = some a → r.parts[j + 1]? = some b → a < b) (0, _) rfl ⟨Nat.zero_le _, by simp, fun j a b h => by simp at h⟩ (by simp; unfold big at hK; omega) ?_
  rintro Next ⟨i, nx⟩ ⟨hi, he, hu⟩ hnext
  simp only at hi he hu hnext
  by_cases hlt : i < r.parts.length
  · obtain ⟨a, ha⟩ : ∃ a, r.parts[i]? = some a := ⟨_, List.getElem?_eq_getElem hlt⟩
    have ham := List.mem_of_getElem? ha
    have c1 : (i : Int) < r.parts.length := by omega
    have hr := ints_get ha
    have hr2 : ∀ h, (ints r.parts)[i]'h = [.i .i64 a] := fun h => by rw [List.getElem?_eq_getElem h] at hr; exact Option.some.inj hr
    have c3 : IntKind.i64.wrap ((i : Int) + 1) = ((i + 1 : Nat) : Int) := by rw [wrap_i64 (by omega) (by omega)]; omega
    by_cases g1 : a < 0
    · have := canB_no (r := r) fun h => by have := h.2.1.2.2.1 a ham; omega
      simp [recCells, c1, hr2, hlt, g1, this]
    by_cases g2 : a < 64
    · have hnx : (∀ b : Int, ∀ j : Nat, j + 1 = i → r.parts[j]? = some b → b < a) → ∀ N' : Nat, Next { env := [(1, .lp 1 0 0), (39, .vs zp 1 (ints r.parts)), (40, .i .i64 (r.parts.length : Nat)), (41, .i .i64 ((i + 1 : Nat) : Int))], loc := [(1, (0, .cells (recCells zp za r)))], hp := [], nx := N' } := fun hb N' => hnext (i + 1, N') (by simp only; omega) ⟨by simp only; omega, fun p hp => by
        simp only at hp
        rw [List.take_add_one, ha] at hp
        rcases List.mem_append.1 hp with hp | hp
        · exact he p hp
        · simp at hp; rw [hp]; omega, fun j x y hj hx hy => by
        simp only at hj
        by_cases e : j + 1 < i
        · exact hu j x y e hx hy
        · have e2 : j + 1 = i := by omega
          rw [e2, ha] at hy; cases hy
          exact hb x j e2 hx⟩
      have g2' : ¬ (64 : Int) ≤ a := by omega
      by_cases g3 : i = 0
      · have q3 : ¬ 0 < i := by omega
        simp [recCells, c1, hr2, hlt, g1, g2', c3, q3]
        exact hnx (fun b j e => by omega) _
      · obtain ⟨j, rfl⟩ : ∃ j, i = j + 1 := ⟨i - 1, by omega⟩
        obtain ⟨b, hb⟩ : ∃ b, r.parts[j]? = some b := ⟨_, List.getElem?_eq_getElem (by omega)⟩
        have q1 := ints_get hb
        have q2 : ∀ h, (ints r.parts)[j]'h = [.i .i64 b] := fun h => by rw [List.getElem?_eq_getElem h] at q1; exact Option.some.inj q1
        have q3 : (0 : Int) < ((j + 1 : Nat) : Int) := by omega
        have q4 : IntKind.i64.wrap (((j + 1 : Nat) : Int) - 1) = ((j : Nat) : Int) := by rw [wrap_i64 (by omega) (by omega)]; omega
        have q5 : j < r.parts.length := by omega
        obtain ⟨i', hi'⟩ : ∃ i' : Nat, i' = j + 1 := ⟨_, rfl⟩
        rw [← hi'] at c1 hr2 hlt c3 hnx q3 q4 ⊢
        have q3' : 0 < i' := by omega
        by_cases g4 : a ≤ b
        · have := canB_no (r := r) fun h => by have := h.2.1.2.2.2 j b a hb (by rw [← hi'] at ha; rw [← hi']; exact ha); omega
          simp [recCells, c1, hr2, hlt, g1, g2', c3, q2, q3', q4, q5, g4, this]
        · simp [recCells, c1, hr2, hlt, g1, g2', c3, q2, q3', q4, q5, g4]
          exact hnx (fun x j' e hx => by
            have : j' = j := by omega
            subst this
            rw [hb] at hx; cases hx; omega) _
    · have := canB_no (r := r) fun h => by have := h.2.1.2.2.1 a ham; omega
      have g2' : (64 : Int) ≤ a := by omega
      simp [recCells, c1, hr2, hlt, g1, g2', g2, this]
  · have hil : i = r.parts.length := by omega
    subst hil
    have hP : PartsOk r.parts := ⟨by omega, by omega, fun p hp => he p (by rw [List.take_length]; exact hp), fun j a b h1 h2 => hu j a b (List.getElem?_eq_some_iff.1 h2).1 h1 h2⟩
    simp [recCells, hcf]
    by_cases ha : ∀ v ∈ r.args, valChk v = 0
    · have := canB_yes (r := r) ⟨by omega, hP, by omega, by omega, by omega, ha⟩
      rw [this]
      simpa using ha
    · have := canB_no (r := r) fun h => ha h.2.2.2.2.2
      rw [this]
      simpa using ha

end Ab
end Go.Proofs.YtidoflgcblglbaaDoor

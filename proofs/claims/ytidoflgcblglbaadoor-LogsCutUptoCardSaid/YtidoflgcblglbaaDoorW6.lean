/-
  DERIVED. slices.EqualFunc, recovery.same, lockstepref02.Plain, lockstepref26.Same.
  Conditions: enough rounds, enough depth; bounded lengths.
-/
import Derived.Test.YtidoflgcblglbaaDoorWB
set_option linter.all false
set_option maxHeartbeats 4000000
namespace Go.Proofs.YtidoflgcblglbaaDoor
namespace Ab
open Go.Lib
set_option maxRecDepth 100000
set_option maxHeartbeats 4000000
set_option linter.all false
attribute [local simp] wp_region regionA opsA nCall rCall goCallR pCall pnCall lenA appendA appRow newsA rowsSz rowsOf isIntD makeSliceA elemOf rowsBuilt eqA eq1

def eqVB : List Val → List Val → Bool
  | [], [] => true
  | a :: l, b :: m => oneB a b && eqVB l m
  | _, _ => false
theorem eqVB_iff : ∀ {l m : List Val}, eqVB l m = true ↔ l.length = m.length ∧ ∀ (i : Nat) (a b : Val), l[i]? = some a → m[i]? = some b → oneB a b = true
  | [], [] => by simp [eqVB]
  | [], b :: m => by simp [eqVB]
  | a :: l, [] => by simp [eqVB]
  | a :: l, b :: m => by
    rw [eqVB, Bool.and_eq_true, eqVB_iff (l := l) (m := m)]
    constructor
    · rintro ⟨h1, h2, h3⟩
      refine ⟨by simp [h2], fun i x y hx hy => ?_⟩
      cases i with
      | zero => cases hx; cases hy; exact h1
      | succ i => exact h3 i x y (by simpa using hx) (by simpa using hy)
    · rintro ⟨h1, h2⟩
      exact ⟨h2 0 a b rfl rfl, by simpa using h1, fun i x y hx hy => h2 (i + 1) x y (by simpa using hx) (by simpa using hy)⟩
theorem p_eqV {K n : Nat} (hK : big K) (hn : 2 ≤ n) (z z' : Bool) (l m : List Val) (hl : l.length ≤ 2 ^ 20) : pR (callA cfg K n) 69 [.vs z 3 (valRows l), .vs z' 3 (valRows m), .fn 70 []] = some (.b (eqVB l m)) := by
  obtain ⟨n, rfl⟩ : ∃ m, n = m + 1 := ⟨n - 1, by omega⟩
  refine pr_of rfl ?_ rfl
  refine run_wp Tryd.func69 rfl (by simp [Tryd.f69]) ?_
  have ho := fun a b : Val => p_one (K := K) (n := n) (by omega) a b
  by_cases h0 : l.length = m.length
  · have h0' : ((l.length : Int) != m.length) = false := by simp [h0]
    simp [h0']
    refine loop_wp (ι := Nat × Nat) (fun i => { env := [(1, .vs z' 3 (valRows m)), (2, .fn 70 []), (15, .vs z 3 (valRows l)), (16, .i .i64 (l.length : Nat)), (17, .i .i64 (i.1 : Nat))], loc := [], hp := [], nx := i.2 }) (fun i => l.length - i.1)
      (fun i => i.1 ≤ l.length ∧ ∀ (j : Nat) (a b : Val), j < i.1 → l[j]? = some a → m[j]? = some b → oneB a b = true) (0, _) rfl ⟨Nat.zero_le _, fun j a b h => by simp at h⟩ (by simp; unfold big at hK; omega) ?_
    rintro Next ⟨i, nx⟩ ⟨hi, he⟩ hnext
    simp only at hi he hnext
    by_cases hlt : i < l.length
    · obtain ⟨a, ha⟩ : ∃ a, l[i]? = some a := ⟨_, List.getElem?_eq_getElem hlt⟩
      obtain ⟨b, hb⟩ : ∃ b, m[i]? = some b := ⟨_, List.getElem?_eq_getElem (by omega)⟩
      have c1 : (i : Int) < l.length := by omega
      have hlt2 : i < m.length := by omega
      have hr2 := val_row ha
      have hr3 := val_row hb
      have c3 : IntKind.i64.wrap ((i : Int) + 1) = ((i + 1 : Nat) : Int) := by rw [wrap_i64 (by omega) (by omega)]; omega
      cases g : oneB a b with
      | true =>
        simp [c1, hr2, hr3, hlt, hlt2, ho, g, c3]
        exact hnext (i + 1, _) (by simp only; omega) ⟨by simp only; omega, fun j x y hj hx hy => by
          simp only at hj
          by_cases e : j = i
          · subst e; rw [ha] at hx; rw [hb] at hy; cases hx; cases hy; exact g
          · exact he j x y (by omega) hx hy⟩
      | false =>
        have g2 : eqVB l m = false := by
          rw [Bool.eq_false_iff]
          intro h
          have := (eqVB_iff.1 h).2 i a b ha hb
          rw [g] at this; cases this
        simp [c1, hr2, hr3, hlt, hlt2, ho, g, g2]
    · have hil : i = l.length := by omega
      subst hil
      have g2 : eqVB l m = true := eqVB_iff.2 ⟨h0, fun j a b hx hy => he j a b (List.getElem?_eq_some_iff.1 hx).1 hx hy⟩
      simp [g2]
  · have h0' : ((l.length : Int) != m.length) = true := by simp; omega
    have g2 : eqVB l m = false := by
      rw [Bool.eq_false_iff]
      intro h
      exact h0 (eqVB_iff.1 h).1
    simp [h0', g2]
open Classical in
noncomputable def sameB (a b : Rec) : Bool := decide (sameRec a b)
theorem sameB_no {a b : Rec} (h : ¬ sameRec a b) : sameB a b = false := by simp [sameB, h]
theorem sameB_yes {a b : Rec} (h : sameRec a b) : sameB a b = true := by simp [sameB, h]
theorem eqVB_plain {l m : List Val} (h : ∀ v ∈ l, valChk v = 0) : eqVB l m = true ↔ l.map Val.plain = m.map Val.plain := by
  rw [eqVB_iff]
  constructor
  · rintro ⟨h1, h2⟩
    apply List.ext_getElem?
    intro i
    rw [List.getElem?_map, List.getElem?_map]
    by_cases hi : i < l.length
    · have ha : l[i]? = some l[i] := List.getElem?_eq_getElem hi
      have hb : m[i]? = some m[i] := List.getElem?_eq_getElem (by omega)
      rw [ha, hb, Option.map_some, Option.map_some, (one_plain (h _ (List.getElem_mem hi))).1 (h2 i _ _ ha hb)]
    · rw [List.getElem?_eq_none (by omega), List.getElem?_eq_none (by omega)]
  · intro h1
    refine ⟨by simpa using congrArg List.length h1, fun i a b ha hb => ?_⟩
    have := congrArg (fun l => l[i]?) h1
    simp only [List.getElem?_map, ha, hb, Option.map_some, Option.some.injEq] at this
    exact (one_plain (h a (List.mem_of_getElem? ha))).2 this
theorem p_same {K n : Nat} (hK : big K) (hn : 3 ≤ n) (zp za zp' za' : Bool) (a b : Rec) (ha : RecB a) (hv : ∀ v ∈ a.args, valChk v = 0) : pR (callA cfg K n) 46 [.agg (recCells zp za a), .agg (recCells zp' za' b)] = some (.b (sameB a b)) := by
  obtain ⟨n, rfl⟩ : ∃ m, n = m + 1 := ⟨n - 1, by omega⟩
  refine pr_of rfl ?_ rfl
  refine run_wp Tryd.func46 rfl (by simp [Tryd.f46]) ?_
  have he := p_eqI (K := K) (n := n) hK (by omega) zp zp' a.parts b.parts ha.parts
  have hw := p_eqV (K := K) (n := n) hK (by omega) za za' a.args b.args ha.args
  by_cases h1 : a.id = b.id
  · have h1' : ((a.id : Int) == b.id) = true := by simp [h1]
    by_cases h2 : a.client = b.client
    · have h2' : ((a.client : Int) == b.client) = true := by simp [h2]
      by_cases h3 : a.seq = b.seq
      · have h3' : ((a.seq : Int) == b.seq) = true := by simp [h3]
        by_cases h4 : a.proc = b.proc
        · have h4' : (a.proc.toList == b.proc.toList) = true := by simp [h4]
          by_cases h5 : a.parts = b.parts
          · have he' : pR (callA cfg K n) 68 [.vs zp 1 (ints a.parts), .vs zp' 1 (ints b.parts)] = some (.b true) := by rw [he]; simp [h5]
            by_cases h6 : a.args.map Val.plain = b.args.map Val.plain
            · have := sameB_yes ⟨h1, h2, h3, h4, h5, h6⟩
              have h6' := (eqVB_plain hv).2 h6
              simp [recCells, h1', h2', h3', h4', he', hw, h6', this]
            · have := sameB_no fun e : sameRec a b => h6 e.2.2.2.2.2
              have h6' : eqVB a.args b.args = false := by
                rw [Bool.eq_false_iff]
                exact fun e => h6 ((eqVB_plain hv).1 e)
              simp [recCells, h1', h2', h3', h4', he', hw, h6', this]
          · have := sameB_no fun e : sameRec a b => h5 e.2.2.2.2.1
            simp [recCells, h1', h2', h3', h4', he, hw, h5, this]
        · have := sameB_no fun e : sameRec a b => h4 e.2.2.2.1
          have h4' : (a.proc.toList == b.proc.toList) = false := by rw [beq_eq_false_iff_ne]; exact fun e => h4 (ba_eq.1 e)
          simp [recCells, h1', h2', h3', h4', this]
      · have := sameB_no fun e : sameRec a b => h3 e.2.2.1
        have h3' : ((a.seq : Int) == b.seq) = false := by simp; omega
        simp [recCells, h1', h2', h3', this]
    · have := sameB_no fun e : sameRec a b => h2 e.2.1
      have h2' : ((a.client : Int) == b.client) = false := by simp; omega
      simp [recCells, h1', h2', this]
  · have := sameB_no fun e : sameRec a b => h1 e.1
    have h1' : ((a.id : Int) == b.id) = false := by simp; omega
    simp [recCells, h1', this]
theorem emptyBA : ({ data := { toList := [] } } : ByteArray) = ByteArray.empty := rfl
theorem p_Plain {K n : Nat} (hn : 1 ≤ n) (v : Val) : pR (callA cfg K n) 47 [.agg v.row] = some (.agg v.plain.row) := by
  obtain ⟨n, rfl⟩ : ∃ m, n = m + 1 := ⟨n - 1, by omega⟩
  refine pr_of rfl ?_ rfl
  refine run_wp Tryd.func47 rfl (by simp [Tryd.f47]) ?_
  obtain ⟨t, m, s⟩ := v
  by_cases h1 : t = 1
  · subst h1; simp [Val.row, Val.plain, emptyBA]
  have h1' : (t == 1) = false := by simp [h1]
  by_cases h2 : t = 2
  · subst h2; simp [Val.row, Val.plain, emptyBA]
  have h2' : (t == 2) = false := by simp [h2]
  by_cases h4 : t = 4
  · subst h4; simp [Val.row, Val.plain, emptyBA]
  have h4' : (t == 4) = false := by simp [h4]
  by_cases h3 : t = 3
  · subst h3; simp [Val.row, Val.plain, emptyBA]
  have h3' : (t == 3) = false := by simp [h3]
  simp [Val.row, Val.plain, h1, h2, h3, h4, h1', h2', h3', h4', emptyBA]

end Ab
end Go.Proofs.YtidoflgcblglbaaDoor

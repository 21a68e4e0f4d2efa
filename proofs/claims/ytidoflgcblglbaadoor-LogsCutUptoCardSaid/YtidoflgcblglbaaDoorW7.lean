/-
  DERIVED. lockstepref26.Same.
  Conditions: enough rounds, enough depth; bounded lengths.
-/
import Derived.Test.YtidoflgcblglbaaDoorW6
set_option linter.all false
set_option maxHeartbeats 4000000
namespace Go.Proofs.YtidoflgcblglbaaDoor
namespace Ab
open Go.Lib
set_option maxRecDepth 100000
set_option maxHeartbeats 4000000
set_option linter.all false
attribute [local simp] wp_region regionA opsA nCall rCall goCallR pCall pnCall lenA appendA appRow newsA rowsSz rowsOf isIntD makeSliceA elemOf rowsBuilt eq1

theorem eqV50 (t n t' n' : Int) (s s' : ByteArray) : eqA Tryd.prog 50 (.agg [.i .i64 t, .i .i64 n, .s s]) (.agg [.i .i64 t', .i .i64 n', .s s']) = some (decide (t = t' ∧ n = n' ∧ s = s')) := by
  by_cases h1 : t = t'
  · subst h1
    by_cases h2 : n = n'
    · subst h2
      by_cases h3 : s = s'
      · subst h3
        have h3' : (s == s) = true := by rw [beq_toListBytes]; simp
        simp [eqA, eqFs, isAgg, h3']
      · have h3' : (s == s') = false := by rw [beq_toListBytes, beq_eq_false_iff_ne]; exact fun e => h3 (ba_eq.1 e)
        simp [eqA, eqFs, isAgg, h3, h3']
    · have h2' : (n == n') = false := by rw [beq_eq_false_iff_ne]; exact h2
      simp [eqA, eqFs, isAgg, h2, h2']
  · have h1' : (t == t') = false := by rw [beq_eq_false_iff_ne]; exact h1
    simp [eqA, eqFs, isAgg, h1, h1']
theorem plainRow_eq {a b : Val} : (a.plain = b.plain) ↔ (a.plain.t = b.plain.t ∧ a.plain.n = b.plain.n ∧ a.plain.s = b.plain.s) := by
  constructor
  · intro h; rw [h]; exact ⟨rfl, rfl, rfl⟩
  · intro h
    cases ha : a.plain; cases hb : b.plain
    rw [ha, hb] at h
    simp at h
    rw [h.1, h.2.1, h.2.2]
theorem p_rSame {K n : Nat} (hK : big K) (hn : 2 ≤ n) (zp za zp' za' : Bool) (a b : Rec) (ha : RecB a) : pR (callA cfg K n) 23 [.agg (recCells zp za a), .agg (recCells zp' za' b)] = some (.b (sameB a b)) := by
  obtain ⟨n, rfl⟩ : ∃ m, n = m + 1 := ⟨n - 1, by omega⟩
  refine pr_of rfl ?_ rfl
  refine run_wp Tryd.func23 rfl (by simp [Tryd.f23]) ?_
  have hpl := fun v : Val => p_Plain (K := K) (n := n) (by omega) v
  have hap := ha.parts
  have haa := ha.args
  by_cases h1 : a.id = b.id
  · have h1' : ((a.id : Int) != b.id) = false := by simp [h1]
    by_cases h2 : a.client = b.client
    · have h2' : ((a.client : Int) != b.client) = false := by simp [h2]
      by_cases h3 : a.seq = b.seq
      · have h3' : ((a.seq : Int) != b.seq) = false := by simp [h3]
        by_cases h4 : a.proc = b.proc
        · have h4' : (a.proc.toList == b.proc.toList) = true := by simp [h4]
          by_cases h5 : a.parts.length = b.parts.length
          · have h5' : ((a.parts.length : Int) != b.parts.length) = false := by simp [h5]
            by_cases h6 : a.args.length = b.args.length
            · have h6' : ((a.args.length : Int) != b.args.length) = false := by simp [h6]
              simp [recCells, h1', h2', h3', h4', h5', h6']
              refine loop_wp (ι := Nat × Nat) (fun i => { env := [(2, .lp 2 0 0), (3, .lp 3 1 0), (5, .i .i64 (i.1 : Nat))], loc := [(2, (0, .cells (recCells zp za a))), (3, (1, .cells (recCells zp' za' b)))], hp := [], nx := i.2 }) (fun i => a.parts.length - i.1)
                (fun i => i.1 ≤ a.parts.length ∧ a.parts.take i.1 = b.parts.take i.1) (0, _) rfl ⟨Nat.zero_le _, by simp⟩ (by simp; unfold big at hK; omega) ?_
              rintro Next ⟨i, nx⟩ ⟨hi, he⟩ hnext
              simp only at hi he hnext
              by_cases hlt : i < a.parts.length
              · obtain ⟨x, hx⟩ : ∃ x, a.parts[i]? = some x := ⟨_, List.getElem?_eq_getElem hlt⟩
                obtain ⟨y, hy⟩ : ∃ y, b.parts[i]? = some y := ⟨_, List.getElem?_eq_getElem (by omega)⟩
                have c1 : (i : Int) < a.parts.length := by omega
                have hlt2 : i < b.parts.length := by omega
                have hr2 := int_row hx
                have hr3 := int_row hy
                have c3 : IntKind.i64.wrap ((i : Int) + 1) = ((i + 1 : Nat) : Int) := by rw [wrap_i64 (by omega) (by omega)]; omega
                by_cases g : x = y
                · have g1 : (x != y) = false := by simp [g]
                  simp [recCells, c1, hr2, hr3, hlt, hlt2, g1, c3]
                  refine ⟨⟨by kernel_rfl, by kernel_rfl⟩, ?_⟩
                  exact hnext (i + 1, _) (by simp only; omega) ⟨by simp only; omega, by simp only; rw [List.take_add_one, List.take_add_one, he, hx, hy, g]⟩
                · have g1 : (x != y) = true := by simp [g]
                  have := sameB_no fun e : sameRec a b => g (by rw [e.2.2.2.2.1, hy] at hx; exact (Option.some.inj hx).symm)
                  simp [recCells, c1, hr2, hr3, hlt, hlt2, g1, this]
                  exact ⟨by kernel_rfl, by kernel_rfl⟩
              · have hil : i = a.parts.length := by omega
                subst hil
                clear hnext
                have hpq : a.parts = b.parts := by rw [List.take_length, h5, List.take_length] at he; exact he
                simp [recCells]
                refine loop_wp (ι := Nat × Nat) (fun i => { env := [(2, .lp 2 0 0), (3, .lp 3 1 0), (6, .i .i64 (i.1 : Nat))], loc := [(2, (0, .cells (recCells zp za a))), (3, (1, .cells (recCells zp' za' b)))], hp := [], nx := i.2 }) (fun i => a.args.length - i.1)
                  (fun i => i.1 ≤ a.args.length ∧ (a.args.take i.1).map Val.plain = (b.args.take i.1).map Val.plain) (0, _) rfl ⟨Nat.zero_le _, by simp⟩ (by simp; unfold big at hK; omega) ?_
                rintro Next ⟨i, nx⟩ ⟨hi, he⟩ hnext
                simp only at hi he hnext
                by_cases hlt : i < a.args.length
                · obtain ⟨x, hx⟩ : ∃ x, a.args[i]? = some x := ⟨_, List.getElem?_eq_getElem hlt⟩
                  obtain ⟨y, hy⟩ : ∃ y, b.args[i]? = some y := ⟨_, List.getElem?_eq_getElem (by omega)⟩
                  have c1 : (i : Int) < a.args.length := by omega
                  have hlt2 : i < b.args.length := by omega
                  have hr2 := val_row hx
                  have hr3 := val_row hy
                  have c3 : IntKind.i64.wrap ((i : Int) + 1) = ((i + 1 : Nat) : Int) := by rw [wrap_i64 (by omega) (by omega)]; omega
                  have hplr : ∀ v : Val, v.plain.row = [.i .i64 v.plain.t, .i .i64 v.plain.n, .s v.plain.s] := fun v => rfl
                  by_cases g : x.plain = y.plain
                  · have g' := plainRow_eq.1 g
                    simp [recCells, c1, hr2, hr3, hlt, hlt2, hpl, hplr, eqV50, g, c3]
                    refine ⟨⟨by kernel_rfl, by kernel_rfl⟩, ?_⟩
                    exact hnext (i + 1, _) (by simp only; omega) ⟨by simp only; omega, by simp only; rw [List.take_add_one, List.take_add_one, List.map_append, List.map_append, he, hx, hy]; simp [g]⟩
                  · have g' : ¬ (x.plain.t = y.plain.t ∧ x.plain.n = y.plain.n ∧ x.plain.s = y.plain.s) := fun e => g (plainRow_eq.2 e)
                    have := sameB_no fun e : sameRec a b => g (by
                      have h9 := congrArg (fun l => l[i]?) e.2.2.2.2.2
                      simpa [List.getElem?_map, hx, hy] using h9)
                    simp [recCells, c1, hr2, hr3, hlt, hlt2, hpl, hplr, eqV50, g', this]
                    exact ⟨by kernel_rfl, by kernel_rfl⟩
                · have hil : i = a.args.length := by omega
                  subst hil
                  rw [List.take_length, h6, List.take_length] at he
                  have := sameB_yes ⟨h1, h2, h3, h4, hpq, he⟩
                  simp [recCells, this]
            · have := sameB_no fun e : sameRec a b => h6 (by simpa using congrArg List.length e.2.2.2.2.2)
              have h6' : ((a.args.length : Int) != b.args.length) = true := by simp; omega
              simp [recCells, h1', h2', h3', h4', h5', h6', this]
          · have := sameB_no fun e : sameRec a b => h5 (by rw [e.2.2.2.2.1])
            have h5' : ((a.parts.length : Int) != b.parts.length) = true := by simp; omega
            simp [recCells, h1', h2', h3', h4', h5', this]
        · have := sameB_no fun e : sameRec a b => h4 e.2.2.2.1
          have h4' : (a.proc.toList == b.proc.toList) = false := by rw [beq_eq_false_iff_ne]; exact fun e => h4 (ba_eq.1 e)
          simp [recCells, h1', h2', h3', h4', this]
      · have := sameB_no fun e : sameRec a b => h3 e.2.2.1
        have h3' : ((a.seq : Int) != b.seq) = true := by simp; omega
        simp [recCells, h1', h2', h3', this]
    · have := sameB_no fun e : sameRec a b => h2 e.2.1
      have h2' : ((a.client : Int) != b.client) = true := by simp; omega
      simp [recCells, h1', h2', this]
  · have := sameB_no fun e : sameRec a b => h1 e.1
    have h1' : ((a.id : Int) != b.id) = true := by simp; omega
    simp [recCells, h1', this]

end Ab
end Go.Proofs.YtidoflgcblglbaaDoor

/-
  DiskOnce: for every quota, calls, kept bytes and numbers of names of bulk at most 1048576 the law's function returns true, and its arguments read behind the call as before.
  Conditions: those of the given statement: the second form's bound.
-/
import Derived.Test.YtecjchghapgdeaaA2
import Derived.Test.YtecjchghapgdeaaRows
import Derived.ProofKit
import Derived.OpenShut
import Derived.Deep.DeepHandedRow
import Derived.Deep.DeepWitnessRowRef
import Derived.Lib.LaidIn
set_option linter.all false
set_option maxHeartbeats 4000000
namespace Go.Proofs.Ytecjchghapgdeaa
open Go.ChangeShapes Go.WideShapes Go.ChangeAt Go.RowKit Go.Lib Ytecjchghapgdeaa
namespace Law

theorem own : ownKnob Try.prog.godebug = none := by kernel_rfl

mutual
theorem bulk_eq {H : Type} : ∀ d : DataW H, Rows.uptoBulk d = Ab.bulkD d
  | .lit l => by cases l <;> rfl
  | .nil => rfl
  | .ptr d => by simp only [Rows.uptoBulk, Ab.bulkD, bulk_eq d]
  | .slice elems spare => by simp only [Rows.uptoBulk, Ab.bulkD, bulks_eq elems, bulks_eq spare]
  | .agg parts => by simp only [Rows.uptoBulk, Ab.bulkD, bulks_eq parts]
  | .iface _ d => by simp only [Rows.uptoBulk, Ab.bulkD, bulk_eq d]
  | .map entries => by simp only [Rows.uptoBulk, Ab.bulkD, bulkes_eq entries]
  | .held _ => rfl
theorem bulks_eq {H : Type} : ∀ l : List (DataW H), Rows.uptoBulkAll l = Ab.bulkDs l
  | [] => rfl
  | d :: r => by simp only [Rows.uptoBulkAll, Ab.bulkDs, bulk_eq d, bulks_eq r]
theorem bulkes_eq {H : Type} : ∀ l : List (Lit × DataW H), Rows.uptoBulkEntries l = Ab.bulkDes l
  | [] => rfl
  | x :: r => by simp only [Rows.uptoBulkEntries, Ab.bulkDes, bulke_eq x, bulkes_eq r]
theorem bulke_eq {H : Type} : ∀ x : Lit × DataW H, Rows.uptoBulkEntry x = Ab.bulkDe x
  | (l, d) => by cases l <;> simp only [Rows.uptoBulkEntry, Ab.bulkDe, bulk_eq d]
end

/-- A world for the witness: the settled one. -/
noncomputable def laidWorld (os : Os) : World := World.holding Try.prog os ⟨#[], #[], []⟩
set_option maxRecDepth 100000 in
theorem laid_met (os : Os) (args : Array Value) : laidMet Try.prog Rows.diskOnceUptoRow.laid ((laidWorld os).forCall (fun _ _ => 0) ⟨#[], args, []⟩).memory :=
  laidMet_of_run3 8 (by kernel_rfl) (by kernel_rfl) (by kernel_rfl)

def noArgs : Array Value := #[.int .i64 0, .slice none 0 0, .slice none 0 0, .slice none 0 0, .int .i64 0, .int .i64 0]
theorem reads (os : Os) {H : Type} (enc : TypeId × Value → H) : (DataW.whole enc Try.prog ((laidWorld os).forCall (fun _ _ => 0) ⟨#[], noArgs, []⟩).memory Try.f5.params.toList Rows.diskOnceSpec.vars false noArgs.toList 8).map (fun x => (x.1, x.2.1)) = some ([.lit (.int .i64 0), .nil, .nil, .nil, .lit (.int .i64 0), .lit (.int .i64 0)], []) := by kernel_rfl

theorem tys : ∀ t ∈ Try.f5.params.toList, Ab.tyOk Try.prog 8 t = true := by
  have h : (Try.f5.params.toList.all fun t => Ab.tyOk Try.prog 8 t) = true := by kernel_rfl
  exact List.all_eq_true.1 h
theorem readable : ∀ t ∈ Try.f5.params.toList, Try.prog.readableRec t = true ∧ t < Try.prog.types.size := by
  have h : (Try.f5.params.toList.all fun t => Try.prog.readableRec t && decide (t < Try.prog.types.size)) = true := by kernel_rfl
  intro t ht
  have := List.all_eq_true.1 h t ht
  simpa using this

set_option maxRecDepth 100000 in
theorem lifted (os : Os) (started : os.Started) (H : Type) (enc : TypeId × Value → H) (F : Stop.Interp) :
    ReturnsInHanded {} Try.checked os 5 .any ((Rows.OpenSpec.upto Rows.diskOnceSpec).preRow enc Try.prog Try.f5 Rows.diskOnceUptoRow.domain false Rows.diskOnceUptoRow.laid) (((Rows.OpenSpec.upto Rows.diskOnceSpec).at F).post enc Try.prog Try.f5 false true false false) := by
  obtain ⟨⟨x1, x2, x3⟩, hx, hx1⟩ := Option.map_eq_some_iff.1 (reads os enc)
  simp only [Prod.mk.injEq] at hx1
  obtain ⟨rfl, rfl⟩ := hx1
  refine returnsInHanded_of_row (C := Try.checked) (s := Rows.OpenSpec.upto Rows.diskOnceSpec) own started (by kernel_rfl) Try.func5
    (witness_row_atRef (enc := enc) (C := Try.checked) false (laidWorld os) noArgs rfl (by kernel_rfl) (by kernel_rfl) (by kernel_rfl)
      (OpenSpec.preRow_of_cond 8 hx (by kernel_rfl) (fun k hk => by cases hk; kernel_rfl) (by kernel_rfl) (laid_met os _))) ?_
  intro W base args ds gs before hval hW _ hcond _ hL _ _
  have hW0 := hW
  obtain ⟨p, q, hA0, hV, _, _, _⟩ := hW0
  have hA : DataW.TrodAll enc Try.prog W 0 (fun _ => true) true Try.f5.params.toList args.toList ds p := hA0
  rw [Try.params5] at hA
  obtain ⟨v0, vs0, d0, ds0, p0, q0, hargs, rfl, rfl, h0, r0⟩ := trodAll_cons hA
  obtain ⟨v1, vs1, d1, ds1, p1, q1, rfl, rfl, rfl, h1, r1⟩ := trodAll_cons r0
  obtain ⟨v2, vs2, d2, ds2, p2, q2, rfl, rfl, rfl, h2, r2⟩ := trodAll_cons r1
  obtain ⟨v3, vs3, d3, ds3, p3, q3, rfl, rfl, rfl, h3, r3⟩ := trodAll_cons r2
  obtain ⟨v4, vs4, d4, ds4, p4, q4, rfl, rfl, rfl, h4, r4⟩ := trodAll_cons r3
  obtain ⟨v5, vs5, d5, ds5, p5, q5, rfl, rfl, rfl, h5, r5⟩ := trodAll_cons r4
  obtain ⟨rfl, rfl, rfl⟩ := trodAll_nil r5
  obtain ⟨rfl, rfl⟩ := trodVars_none hV
  have hb : Ab.bulkDs [d0, d1, d2, d3, d4, d5] ≤ 2 ^ 20 := by
    have := of_decide_eq_true (hcond _ rfl)
    simp only [List.append_nil] at this
    rw [bulks_eq] at this
    omega
  exact Ab.contract (C := Ab.cfg) (n := 8) (B := 2 ^ 20) (s := Rows.diskOnceSpec) Ab.fitC Ab.plainOnce tys (by kernel_rfl : laidOutB Try.prog = true) rfl rfl Try.underlying4 readable hval hW rfl hb trivial

/-- DiskOnce, at arguments of bulk at most 1048576. -/
theorem once : Rows.DiskOnceUptoSaid :=
  OpenClaim.holds_of_cond 5 Try.f5 rfl rfl rfl rfl rfl rfl rfl ⟨rfl, rfl, rfl, rfl, rfl⟩ rfl rfl rfl rfl rfl (by kernel_rfl) Try.func5 (by kernel_rfl)
    (of_decide_eq_true (by kernel_rfl)) (by unfold Func.isWrapper; first | (rw [if_pos (by decide +kernel)]; kernel_rfl) | (rw [if_neg (by decide +kernel)]; exact ⟨rfl, rfl⟩))
    (fun os started H enc _ F => by rw [OpenClaim.pre_eq_preRow]; exact lifted os started H enc F)

end Law
end Go.Proofs.Ytecjchghapgdeaa
#print axioms Go.Proofs.Ytecjchghapgdeaa.Law.once

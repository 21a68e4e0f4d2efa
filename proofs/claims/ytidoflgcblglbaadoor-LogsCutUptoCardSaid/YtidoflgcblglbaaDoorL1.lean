/-
  LogsCut: for every logs and every number of bulk at most 1048576 the law's function returns true, and its arguments read behind the call as before.
  Conditions: those of the given statement: the second form's bound, the two tables of unicode/utf8 as the program's text lays them.
-/
import Derived.Test.YtidoflgcblglbaaDoorAA
import Derived.Test.YtidoflgcblglbaaDoorCards
import Derived.Test.YtidoflgcblglbaaDoorTie
import Derived.ProofKit
import Derived.OpenShut
import Derived.Deep.DeepHandedRow
import Derived.Deep.DeepWitnessRowRef
import Derived.Lib.LaidIn
set_option linter.all false
set_option maxHeartbeats 4000000
namespace Go.Proofs.YtidoflgcblglbaaDoor
open Go.ChangeShapes Go.WideShapes Go.ChangeAt Go.RowKit Go.Lib YtidoflgcblglbaaDoor
namespace Law

theorem own : ownKnob Tryd.prog.godebug = none := by kernel_rfl

mutual
theorem bulk_eq {H : Type} : ∀ d : DataW H, Rows.uptoBulk d = Ab.bulkD d
  | .lit l => by cases l <;> rfl
  | .nil => rfl
  | .ptr d => by simp only [Rows.uptoBulk, Ab.bulkD, bulk_eq d]
  | .slice elems spare => by simp only [Rows.uptoBulk, Ab.bulkD, bulks_eq elems, bulks_eq spare]
  | .agg parts => by simp only [Rows.uptoBulk, Ab.bulkD, bulks_eq parts]
  | .iface _ d => by simp only [Rows.uptoBulk, Ab.bulkD, bulk_eq d]
  | .map entries => by simp only [Rows.uptoBulk, Ab.bulkD, bulkes_eq entries]
  | .held _ => rfl
theorem bulks_eq {H : Type} : ∀ l : List (DataW H), Rows.uptoBulkAll l = Ab.bulkDs l
  | [] => rfl
  | d :: r => by simp only [Rows.uptoBulkAll, Ab.bulkDs, bulk_eq d, bulks_eq r]
theorem bulkes_eq {H : Type} : ∀ l : List (Lit × DataW H), Rows.uptoBulkEntries l = Ab.bulkDes l
  | [] => rfl
  | x :: r => by simp only [Rows.uptoBulkEntries, Ab.bulkDes, bulke_eq x, bulkes_eq r]
theorem bulke_eq {H : Type} : ∀ x : Lit × DataW H, Rows.uptoBulkEntry x = Ab.bulkDe x
  | (l, d) => by cases l <;> simp only [Rows.uptoBulkEntry, Ab.bulkDe, bulk_eq d]
end

/-- A world for the witness: the settled one, the two tables holding what their initialisers lay. -/
noncomputable def laidWorld (os : Os) : World :=
  let w0 := World.holding Tryd.prog os ⟨#[], #[], []⟩
  let put (h : Array Obj) (g : Nat) (cs : Array Value) : Array Obj := h.modify g fun
    | .cells _ t frozen => .cells cs t frozen
    | o => o
  let h1 := put w0.heap 0 (Lib.firstTab.map fun z => Value.int .u8 z).toArray
  let h2 := put h1 1 ((List.range 16).flatMap fun i => [Value.int .u8 (Lib.accLo i), Value.int .u8 (Lib.accHi i)]).toArray
  { w0 with heap := h2 }
set_option maxRecDepth 100000 in
theorem laid_met (os : Os) (args : Array Value) : laidMet Tryd.prog Rows.logsCutUptoRow.laid ((laidWorld os).forCall (fun _ _ => 0) ⟨#[], args, []⟩).memory :=
  (LaidIn.of_run (l := [("unicode/utf8.acceptRanges", Lib.acceptData), ("unicode/utf8.first", Lib.firstData)]) [1, 0] 8 (by kernel_rfl) (by kernel_rfl) (by kernel_rfl) (by kernel_rfl)).met

def noArgs : Array Value := #[.slice none 0 0, .int .u64 0]
theorem reads (os : Os) {H : Type} (enc : TypeId × Value → H) : (DataW.whole enc Tryd.prog ((laidWorld os).forCall (fun _ _ => 0) ⟨#[], noArgs, []⟩).memory Tryd.f3.params.toList Rows.logsCutSpec.vars false noArgs.toList 8).map (fun x => (x.1, x.2.1)) = some ([.nil, .lit (.int .u64 0)], []) := by kernel_rfl

theorem tabs {W : World} (hL : laidMetH Tryd.prog Rows.logsCutUptoRow.laid W) : Lib.Utf8Tabs 0 1 W := by
  have e1 : (Rows.laid_unicode_utf8_acceptRanges : DataW Unit) = Lib.acceptData := by kernel_rfl
  have e2 : Rows.laid_unicode_utf8_first = Lib.firstData := by kernel_rfl
  have h4 := Lib.laidMet.reads hL (.head _)
  have h3 := Lib.laidMet.reads hL (.tail _ (.head _))
  rw [e1] at h4
  rw [e2] at h3
  exact utf8Tabs_of_readsT (U8Types.of196 Tryd.laysValid) ⟨by kernel_rfl, by kernel_rfl, by kernel_rfl, by kernel_rfl, by kernel_rfl, by kernel_rfl, by kernel_rfl⟩ h3 h4

theorem known {W : World} (hL : laidMetH Tryd.prog Rows.logsCutUptoRow.laid W) : Ab.WX.X (Ab.AllB W) W := by
  have hT := tabs hL
  have lt : ∀ {a : Addr} {v : Value}, W.cell? a = some v → a.block < W.heap.size := fun {a v} hc => by
    rcases Nat.lt_or_ge a.block W.heap.size with h | h
    · exact h
    · simp [World.cell?, Array.getElem?_eq_none h] at hc
  exact ⟨lt (hT.1 0 (by decide)), lt (hT.2 0 (by decide)).1, hT⟩

theorem tys : ∀ t ∈ Tryd.f3.params.toList, Ab.tyOk Tryd.prog 8 t = true := by
  have h : (Tryd.f3.params.toList.all fun t => Ab.tyOk Tryd.prog 8 t) = true := by kernel_rfl
  exact List.all_eq_true.1 h
theorem readable : ∀ t ∈ Tryd.f3.params.toList, Tryd.prog.readableRec t = true ∧ t < Tryd.prog.types.size := by
  have h : (Tryd.f3.params.toList.all fun t => Tryd.prog.readableRec t && decide (t < Tryd.prog.types.size)) = true := by kernel_rfl
  intro t ht
  have := List.all_eq_true.1 h t ht
  simpa using this

set_option maxRecDepth 100000 in
theorem lifted (os : Os) (started : os.Started) (H : Type) (enc : TypeId × Value → H) (F : Stop.Interp) :
    ReturnsInHanded {} Tryd.checked os 3 .any ((Rows.OpenSpec.upto Rows.logsCutSpec).preRow enc Tryd.prog Tryd.f3 Rows.logsCutUptoRow.domain false Rows.logsCutUptoRow.laid) (((Rows.OpenSpec.upto Rows.logsCutSpec).at F).post enc Tryd.prog Tryd.f3 false true false false) := by
  obtain ⟨⟨x1, x2, x3⟩, hx, hx1⟩ := Option.map_eq_some_iff.1 (reads os enc)
  simp only [Prod.mk.injEq] at hx1
  obtain ⟨rfl, rfl⟩ := hx1
  refine returnsInHanded_of_row (C := Tryd.checked) (s := Rows.OpenSpec.upto Rows.logsCutSpec) own started (by kernel_rfl) Tryd.func3
    (witness_row_atRef (enc := enc) (C := Tryd.checked) false (laidWorld os) noArgs rfl (by kernel_rfl) (by kernel_rfl) (by kernel_rfl)
      (OpenSpec.preRow_of_cond 8 hx (by kernel_rfl) (fun k hk => by cases hk; kernel_rfl) (by kernel_rfl) (laid_met os _))) ?_
  intro W base args ds gs before hval hW _ hcond _ hL _ _
  have hW0 := hW
  obtain ⟨p, q, hA0, hV, _, _, _⟩ := hW0
  have hA : DataW.TrodAll enc Tryd.prog W 0 (fun _ => true) true Tryd.f3.params.toList args.toList ds p := hA0
  rw [Tryd.params3] at hA
  obtain ⟨v0, vs0, d0, ds0, p0, q0, hargs, rfl, rfl, h0, r0⟩ := trodAll_cons hA
  obtain ⟨v1, vs1, d1, ds1, p1, q1, rfl, rfl, rfl, h1, r1⟩ := trodAll_cons r0
  obtain ⟨rfl, rfl, rfl⟩ := trodAll_nil r1
  obtain ⟨rfl, rfl⟩ := trodVars_none hV
  have hb : Ab.bulkDs [d0, d1] ≤ 2 ^ 20 := by
    have := of_decide_eq_true (hcond _ rfl)
    simp only [List.append_nil] at this
    rw [bulks_eq] at this
    omega
  exact Ab.contract (C := Ab.cfg) (n := 8) (B := 2 ^ 20) (s := Rows.logsCutSpec) Ab.fitC Ab.plainCut tys (by kernel_rfl : laidOutB Tryd.prog = true) rfl rfl Tryd.underlying4 readable hval hW rfl hb (known hL)

theorem saidUpto : Rows.LogsCutUptoSaid :=
  OpenClaim.holds_of_cond 3 Tryd.f3 rfl rfl rfl rfl rfl rfl rfl ⟨rfl, rfl, rfl, rfl, rfl⟩ rfl rfl rfl rfl rfl (by kernel_rfl) Tryd.func3 (by kernel_rfl)
    (of_decide_eq_true (by kernel_rfl)) (by unfold Func.isWrapper; first | (rw [if_pos (by decide +kernel)]; kernel_rfl) | (rw [if_neg (by decide +kernel)]; exact ⟨rfl, rfl⟩))
    (fun os started H enc _ F => by rw [OpenClaim.pre_eq_preRow]; exact lifted os started H enc F)

/-- No parameter wants a stand-in; the program's own looks are off: what the card asks. -/
theorem plain (f : FuncId) (fn : Func) (hf : Tryd.pinned.checked.prog.funcNamed "lockstep/locksteplaw26.LogsCut" = some f) (hfn : Tryd.pinned.checked.prog.funcs[f]? = some fn) :
    false = Tryd.pinned.checked.prog.looks [] ∧ ∀ (j : Nat) t, fn.params[j]? = some t → Tryd.pinned.checked.prog.wantsStandIn t = false := by
  obtain rfl : f = 3 := Option.some.inj ((show Tryd.prog.funcNamed "lockstep/locksteplaw26.LogsCut" = some 3 by kernel_rfl).symm.trans hf) |>.symm
  obtain rfl : fn = Tryd.f3 := (Option.some.inj (Tryd.func3.symm.trans hfn)).symm
  refine ⟨by kernel_rfl, fun j t ht => ?_⟩
  have h : (Tryd.f3.params.toList.all fun t => !Tryd.prog.wantsStandIn t) = true := by kernel_rfl
  have h2 := List.all_eq_true.1 h t (Array.mem_toList_iff.2 (Array.mem_of_getElem? ht))
  have h3 : Tryd.prog.wantsStandIn t = false := by simpa using h2
  exact h3

/-- The second form's card. -/
theorem card : Rows.LogsCutUptoCardSaid :=
  Claim7.holds_tied_plain_at .later [] _ _ _ _ saidUpto (fun _ h => by cases h) (by kernel_rfl) (fun _ h => by cases h) logsCutUpto_row_tie rfl ⟨rfl, rfl⟩ (by kernel_rfl) rfl plain (by kernel_rfl)

end Law
end Go.Proofs.YtidoflgcblglbaaDoor
#print axioms Go.Proofs.YtidoflgcblglbaaDoor.Law.card

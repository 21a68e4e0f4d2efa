/-
  DERIVED. GIVEN WITH THE SEED: THE CARDS: each row of YtgkaidnfmkncmaaDoorRows.lean that lists a variable, with what it lists TIED to the program's text (the seventh form; the later family's looks); each row that meets fmt, with fmt's text TOLD by the authors' own Lean function (tested against real Go, not proved from fmt's source: count such statements apart). THE CARD IS WHAT COUNTS. Prove the row's statement (the work); the ties are given (YtgkaidnfmkncmaaDoorTie.lean); close each card by the builder's one call (the guide's Derived/Test/ToyasCard.lean, 'card_holds'). Laid BY PROGRAM, IN A SANDBOX (cutbox-door.mjs). By AI agents, Wed Nov 11 2026. No macro, syntax, notation, axiom, sorry.
-/
import Derived.Test.YtgkaidnfmkncmaaDoorRows
import GoSem.ClaimSeven
namespace Go.Proofs.YtgkaidnfmkncmaaDoor
namespace Rows

/-- THE TIED CARD OF 'locksteplaw08.TableForms'. -/
def tableFormsCard : Claim7 := { stood := { row := tableFormsRow, standIns := [], harness := (true, "1b081813215a3d6dc92623ce04ffccc80aab807660f119659bd1127107b6ecc0"), looks := false }, kinds := [], alts := [], laidByText := true, laidKinds := [.data, .pinned], laidTests := true, laidLooks := .later }
def TableFormsCardSaid : Prop := Claim7.holds Tryd.pinned (.plain (OpenSpec.ofChange tableFormsSpec)) tableFormsCard

/-- THE SECOND FORM's CARD OF 'locksteplaw08.TableForms'. -/
def tableFormsUptoCard : Claim7 := { stood := { row := tableFormsUptoRow, standIns := [], harness := (true, "1b081813215a3d6dc92623ce04ffccc80aab807660f119659bd1127107b6ecc0"), looks := false }, kinds := [], alts := [], laidByText := true, laidKinds := [.data, .pinned], laidTests := true, laidLooks := .later }
def TableFormsUptoCardSaid : Prop := Claim7.holds Tryd.pinned (.plain (OpenSpec.upto tableFormsSpec)) tableFormsUptoCard
end Rows
end Go.Proofs.YtgkaidnfmkncmaaDoor

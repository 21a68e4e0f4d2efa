/-
  DERIVED. GIVEN WITH THE SEED: THE CARDS: each row of YtmbbnoipoifhhaaGreatDoorRows.lean that lists a variable, with what it lists TIED to the program's text (the seventh form; the later family's looks); each row that meets fmt, with fmt's text TOLD by the authors' own Lean function (tested against real Go, not proved from fmt's source: count such statements apart). THE CARD IS WHAT COUNTS. Prove the row's statement (the work); the ties are given (YtmbbnoipoifhhaaGreatDoorTie.lean); close each card by the builder's one call (the guide's Derived/Test/ToyasCard.lean, 'card_holds'). Laid BY PROGRAM, IN A SANDBOX (cutbox-door.mjs). By AI agents, Wed Nov 11 2026. No macro, syntax, notation, axiom, sorry.
-/
import Derived.Test.YtmbbnoipoifhhaaGreatDoorRows
import GoSem.ClaimSeven
namespace Go.Proofs.YtmbbnoipoifhhaaGreatDoor
namespace Rows

/-- THE TIED CARD OF 'locksteplaw10.LogTorn'. -/
def logTornCard : Claim7 := { stood := { row := logTornRow, standIns := [], harness := (true, "66d78008b42675eb47f172bc7cd95f2061fa1487a333c6adc4a60b9ac810713f"), looks := true }, kinds := [], alts := [], laidByText := true, laidKinds := [.data, .pinned], laidTests := true, laidLooks := .later }
def LogTornCardSaid : Prop := Claim7.holds Tryz.pinned (.plain (OpenSpec.ofChange logTornSpec)) logTornCard

/-- THE TIED CARD OF 'locksteplaw10.LogFull'. -/
def logFullCard : Claim7 := { stood := { row := logFullRow, standIns := [], harness := (true, "66d78008b42675eb47f172bc7cd95f2061fa1487a333c6adc4a60b9ac810713f"), looks := true }, kinds := [], alts := [], laidByText := true, laidKinds := [.data, .pinned], laidTests := true, laidLooks := .later }
def LogFullCardSaid : Prop := Claim7.holds Tryz.pinned (.plain (OpenSpec.ofChange logFullSpec)) logFullCard

/-- THE TIED CARD OF 'locksteplaw10.LogCrash'. -/
def logCrashCard : Claim7 := { stood := { row := logCrashRow, standIns := [], harness := (true, "66d78008b42675eb47f172bc7cd95f2061fa1487a333c6adc4a60b9ac810713f"), looks := true }, kinds := [], alts := [], laidByText := true, laidKinds := [.data, .pinned], laidTests := true, laidLooks := .later }
def LogCrashCardSaid : Prop := Claim7.holds Tryz.pinned (.plain (OpenSpec.ofChange logCrashSpec)) logCrashCard

/-- THE TIED CARD OF 'locksteplaw10.LogAll'. -/
def logAllCard : Claim7 := { stood := { row := logAllRow, standIns := [], harness := (true, "66d78008b42675eb47f172bc7cd95f2061fa1487a333c6adc4a60b9ac810713f"), looks := true }, kinds := [], alts := [], laidByText := true, laidKinds := [.data, .pinned], laidTests := true, laidLooks := .later }
def LogAllCardSaid : Prop := Claim7.holds Tryz.pinned (.plain (OpenSpec.ofChange logAllSpec)) logAllCard

/-- THE SECOND FORM's CARD OF 'locksteplaw10.LogTorn'. -/
def logTornUptoCard : Claim7 := { stood := { row := logTornUptoRow, standIns := [], harness := (true, "66d78008b42675eb47f172bc7cd95f2061fa1487a333c6adc4a60b9ac810713f"), looks := true }, kinds := [], alts := [], laidByText := true, laidKinds := [.data, .pinned], laidTests := true, laidLooks := .later }
def LogTornUptoCardSaid : Prop := Claim7.holds Tryz.pinned (.plain (OpenSpec.upto logTornSpec)) logTornUptoCard

/-- THE SECOND FORM's CARD OF 'locksteplaw10.LogFull'. -/
def logFullUptoCard : Claim7 := { stood := { row := logFullUptoRow, standIns := [], harness := (true, "66d78008b42675eb47f172bc7cd95f2061fa1487a333c6adc4a60b9ac810713f"), looks := true }, kinds := [], alts := [], laidByText := true, laidKinds := [.data, .pinned], laidTests := true, laidLooks := .later }
def LogFullUptoCardSaid : Prop := Claim7.holds Tryz.pinned (.plain (OpenSpec.upto logFullSpec)) logFullUptoCard

/-- THE SECOND FORM's CARD OF 'locksteplaw10.LogCrash'. -/
def logCrashUptoCard : Claim7 := { stood := { row := logCrashUptoRow, standIns := [], harness := (true, "66d78008b42675eb47f172bc7cd95f2061fa1487a333c6adc4a60b9ac810713f"), looks := true }, kinds := [], alts := [], laidByText := true, laidKinds := [.data, .pinned], laidTests := true, laidLooks := .later }
def LogCrashUptoCardSaid : Prop := Claim7.holds Tryz.pinned (.plain (OpenSpec.upto logCrashSpec)) logCrashUptoCard

/-- THE SECOND FORM's CARD OF 'locksteplaw10.LogAll'. -/
def logAllUptoCard : Claim7 := { stood := { row := logAllUptoRow, standIns := [], harness := (true, "66d78008b42675eb47f172bc7cd95f2061fa1487a333c6adc4a60b9ac810713f"), looks := true }, kinds := [], alts := [], laidByText := true, laidKinds := [.data, .pinned], laidTests := true, laidLooks := .later }
def LogAllUptoCardSaid : Prop := Claim7.holds Tryz.pinned (.plain (OpenSpec.upto logAllSpec)) logAllUptoCard
end Rows
end Go.Proofs.YtmbbnoipoifhhaaGreatDoor

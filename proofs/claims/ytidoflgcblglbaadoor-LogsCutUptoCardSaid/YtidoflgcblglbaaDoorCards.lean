/-
  DERIVED. GIVEN WITH THE SEED: THE CARDS: each row of YtidoflgcblglbaaDoorRows.lean that lists a variable, with what it lists TIED to the program's text (the seventh form; the later family's looks); each row that meets fmt, with fmt's text TOLD by the authors' own Lean function (tested against real Go, not proved from fmt's source: count such statements apart). THE CARD IS WHAT COUNTS. Prove the row's statement (the work); the ties are given (YtidoflgcblglbaaDoorTie.lean); close each card by the builder's one call (the guide's Derived/Test/ToyasCard.lean, 'card_holds'). Laid BY PROGRAM, IN A SANDBOX (cutbox-door.mjs). By AI agents, Wed Nov 11 2026. No macro, syntax, notation, axiom, sorry.
-/
import Derived.Test.YtidoflgcblglbaaDoorRows
import GoSem.ClaimSeven
namespace Go.Proofs.YtidoflgcblglbaaDoor
namespace Rows

/-- THE TIED CARD OF 'locksteplaw26.LogsCut'. -/
def logsCutCard : Claim7 := { stood := { row := logsCutRow, standIns := [], harness := (true, "5910c42a85c5e81c464900d8fe7658674a4167e4e4a9dd5e9c5a0183d7fa61d2"), looks := false }, kinds := [], alts := [], laidByText := true, laidKinds := [.data, .pinned], laidTests := true, laidLooks := .later }
def LogsCutCardSaid : Prop := Claim7.holds Tryd.pinned (.plain (OpenSpec.ofChange logsCutSpec)) logsCutCard

/-- THE TIED CARD OF 'locksteplaw26.LogsBytes'. -/
def logsBytesCard : Claim7 := { stood := { row := logsBytesRow, standIns := [], harness := (true, "5910c42a85c5e81c464900d8fe7658674a4167e4e4a9dd5e9c5a0183d7fa61d2"), looks := false }, kinds := [], alts := [], laidByText := true, laidKinds := [.data, .pinned], laidTests := true, laidLooks := .later }
def LogsBytesCardSaid : Prop := Claim7.holds Tryd.pinned (.plain (OpenSpec.ofChange logsBytesSpec)) logsBytesCard

/-- THE TIED CARD OF 'locksteplaw26.LogsClosed'. -/
def logsClosedCard : Claim7 := { stood := { row := logsClosedRow, standIns := [], harness := (true, "5910c42a85c5e81c464900d8fe7658674a4167e4e4a9dd5e9c5a0183d7fa61d2"), looks := false }, kinds := [], alts := [], laidByText := true, laidKinds := [.data, .pinned], laidTests := true, laidLooks := .later }
def LogsClosedCardSaid : Prop := Claim7.holds Tryd.pinned (.plain (OpenSpec.ofChange logsClosedSpec)) logsClosedCard

/-- THE TIED CARD OF 'locksteplaw26.LogsBeginnings'. -/
def logsBeginningsCard : Claim7 := { stood := { row := logsBeginningsRow, standIns := [], harness := (true, "5910c42a85c5e81c464900d8fe7658674a4167e4e4a9dd5e9c5a0183d7fa61d2"), looks := false }, kinds := [], alts := [], laidByText := true, laidKinds := [.data, .pinned], laidTests := true, laidLooks := .later }
def LogsBeginningsCardSaid : Prop := Claim7.holds Tryd.pinned (.plain (OpenSpec.ofChange logsBeginningsSpec)) logsBeginningsCard

/-- THE SECOND FORM's CARD OF 'locksteplaw26.LogsCut'. -/
def logsCutUptoCard : Claim7 := { stood := { row := logsCutUptoRow, standIns := [], harness := (true, "5910c42a85c5e81c464900d8fe7658674a4167e4e4a9dd5e9c5a0183d7fa61d2"), looks := false }, kinds := [], alts := [], laidByText := true, laidKinds := [.data, .pinned], laidTests := true, laidLooks := .later }
def LogsCutUptoCardSaid : Prop := Claim7.holds Tryd.pinned (.plain (OpenSpec.upto logsCutSpec)) logsCutUptoCard

/-- THE SECOND FORM's CARD OF 'locksteplaw26.LogsBytes'. -/
def logsBytesUptoCard : Claim7 := { stood := { row := logsBytesUptoRow, standIns := [], harness := (true, "5910c42a85c5e81c464900d8fe7658674a4167e4e4a9dd5e9c5a0183d7fa61d2"), looks := false }, kinds := [], alts := [], laidByText := true, laidKinds := [.data, .pinned], laidTests := true, laidLooks := .later }
def LogsBytesUptoCardSaid : Prop := Claim7.holds Tryd.pinned (.plain (OpenSpec.upto logsBytesSpec)) logsBytesUptoCard

/-- THE SECOND FORM's CARD OF 'locksteplaw26.LogsClosed'. -/
def logsClosedUptoCard : Claim7 := { stood := { row := logsClosedUptoRow, standIns := [], harness := (true, "5910c42a85c5e81c464900d8fe7658674a4167e4e4a9dd5e9c5a0183d7fa61d2"), looks := false }, kinds := [], alts := [], laidByText := true, laidKinds := [.data, .pinned], laidTests := true, laidLooks := .later }
def LogsClosedUptoCardSaid : Prop := Claim7.holds Tryd.pinned (.plain (OpenSpec.upto logsClosedSpec)) logsClosedUptoCard

/-- THE SECOND FORM's CARD OF 'locksteplaw26.LogsBeginnings'. -/
def logsBeginningsUptoCard : Claim7 := { stood := { row := logsBeginningsUptoRow, standIns := [], harness := (true, "5910c42a85c5e81c464900d8fe7658674a4167e4e4a9dd5e9c5a0183d7fa61d2"), looks := false }, kinds := [], alts := [], laidByText := true, laidKinds := [.data, .pinned], laidTests := true, laidLooks := .later }
def LogsBeginningsUptoCardSaid : Prop := Claim7.holds Tryd.pinned (.plain (OpenSpec.upto logsBeginningsSpec)) logsBeginningsUptoCard
end Rows
end Go.Proofs.YtidoflgcblglbaaDoor

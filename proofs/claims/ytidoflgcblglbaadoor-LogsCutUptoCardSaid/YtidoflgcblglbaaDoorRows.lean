/-
  NARROWER THAN 'FOR EVERY INPUT', by the rows' own cells (each row's printed sentence says how): LogsCut: laid · LogsBytes: laid · LogsClosed: laid · LogsBeginnings: laid.
  DERIVED. THE GIVEN ROWS OF THIS SEAT. 4 by the template 'for every input the law returns true; each argument reads behind the call as it read before'; 0 by the template 'total and deterministic' (their statements: YtidoflgcblglbaaDoorTotals.lean).
  GIVEN WITH THE SEED: the statements are not yours to turn. If you find one false, say at which input.
  Laid BY PROGRAM, IN A SANDBOX (cutbox-rows.mjs): the forced cells as the released guide's own fill.sh prints them over the translation b5e2a16bd0b8968f… (all of the seat's roots in one cut). By AI agents, Wed Nov 11 2026. No macro, syntax, notation, axiom, sorry.
-/
import Derived.Test.YtidoflgcblglbaaDoorChecked
import GoSem.PinnedTables
import GoSem.Claim
import GoSem.ClaimJoined
import GoSem.ClaimMapViews
import Derived.JoinedTies
import Derived.KernelRfl
namespace Go.Proofs.YtidoflgcblglbaaDoor
/- THE CELL 'sum', in the pinned program and in every row, IS THE sha256 OF THE DUMP (.gsa) THAT YtidoflgcblglbaaDoorProg.lean LOADS. Nothing in Lean hashes anything: it is a label: what it is worth is what the hold of that sum in a sandbox is worth. -/
noncomputable def Tryd.pinned : Pinned := { name := "ytidoflgcblglbaadoor", sum := "b5e2a16bd0b8968f8518afa48479f0f7f43dda1722c40688dba90d3970dc56a8", checked := Tryd.checked }
namespace Rows
def none {H : Type} : Left H := { results := [], args := [] }

/- WHAT THE LISTED PACKAGE-LEVEL VARIABLES READ AS WHEN THE CALL BEGINS. Each datum BY PROGRAM (the guide's laid-datum.mjs) off the statement by which the dump's own 'gosem.cut.vars' lays the variable. In a bare row this is a premise. The card (YtidoflgcblglbaaDoorCards.lean) ties it to the program's text. -/
def laid_unicode_utf8_acceptRanges {H : Type} : DataW H := .agg [.agg [.lit (.int .u8 128), .lit (.int .u8 191)], .agg [.lit (.int .u8 160), .lit (.int .u8 191)], .agg [.lit (.int .u8 128), .lit (.int .u8 159)], .agg [.lit (.int .u8 144), .lit (.int .u8 191)], .agg [.lit (.int .u8 128), .lit (.int .u8 143)], .agg [.lit (.int .u8 0), .lit (.int .u8 0)], .agg [.lit (.int .u8 0), .lit (.int .u8 0)], .agg [.lit (.int .u8 0), .lit (.int .u8 0)], .agg [.lit (.int .u8 0), .lit (.int .u8 0)], .agg [.lit (.int .u8 0), .lit (.int .u8 0)], .agg [.lit (.int .u8 0), .lit (.int .u8 0)], .agg [.lit (.int .u8 0), .lit (.int .u8 0)], .agg [.lit (.int .u8 0), .lit (.int .u8 0)], .agg [.lit (.int .u8 0), .lit (.int .u8 0)], .agg [.lit (.int .u8 0), .lit (.int .u8 0)], .agg [.lit (.int .u8 0), .lit (.int .u8 0)]]
/-- One of Go's own tables, pinned by name: the form's constant. -/
def laid_unicode_utf8_first : DataW Unit := Go.Pinned.utf8First

/-- 'locksteplaw26.LogsCut': WHATEVER THE INPUT: true; the input reads as it did. -/
def logsCutSpec : ChangeSpec := { name := "logsCut", fn := fun _ => fun
  | [d1, d2] => { results := [.lit (.bool true)], args := [d1, d2] }
  | _ => none }
def logsCutRow : OpenClaim := { program := "ytidoflgcblglbaadoor", sum := "b5e2a16bd0b8968f8518afa48479f0f7f43dda1722c40688dba90d3970dc56a8", func := "lockstep/locksteplaw26.LogsCut", spec := "logsCut", unfollowed := true, recurses := true, named := ["unicode/utf8.first", "unicode/utf8.acceptRanges"], apart := false, laid := [("unicode/utf8.acceptRanges", laid_unicode_utf8_acceptRanges), ("unicode/utf8.first", laid_unicode_utf8_first)] }
def LogsCutSaid : Prop := logsCutRow.holds Tryd.pinned (OpenSpec.ofChange logsCutSpec)

/-- ITS FALSE NEIGHBOUR: 'it returns false'. Refute it at one input. -/
def logsCutWrong : ChangeSpec := { name := "logsCut", fn := fun _ => fun
  | [d1, d2] => { results := [.lit (.bool false)], args := [d1, d2] }
  | _ => none }
def LogsCutWrongFalsely : Prop := logsCutRow.holds Tryd.pinned (OpenSpec.ofChange logsCutWrong)

/-- 'locksteplaw26.LogsBytes': WHATEVER THE INPUT: true; the input reads as it did. -/
def logsBytesSpec : ChangeSpec := { name := "logsBytes", fn := fun _ => fun
  | [d1, d2, d3] => { results := [.lit (.bool true)], args := [d1, d2, d3] }
  | _ => none }
def logsBytesRow : OpenClaim := { program := "ytidoflgcblglbaadoor", sum := "b5e2a16bd0b8968f8518afa48479f0f7f43dda1722c40688dba90d3970dc56a8", func := "lockstep/locksteplaw26.LogsBytes", spec := "logsBytes", inPlace := ["internal/bytealg.CountString", "internal/bytealg.IndexByteString", "internal/bytealg.IndexString", "internal/abi.NoEscape", "internal/bytealg.MakeNoZero", "math/bits.Add64", "internal/bytealg.IndexByte"], unfollowed := true, recurses := true, named := ["unicode/utf8.first", "unicode/utf8.acceptRanges", "internal/bytealg.MaxLen", "math/bits.divideError", "math/bits.overflowError"], apart := false, laid := [("unicode/utf8.acceptRanges", laid_unicode_utf8_acceptRanges), ("unicode/utf8.first", laid_unicode_utf8_first)] }
def LogsBytesSaid : Prop := logsBytesRow.holds Tryd.pinned (OpenSpec.ofChange logsBytesSpec)

/-- ITS FALSE NEIGHBOUR: 'it returns false'. Refute it at one input. -/
def logsBytesWrong : ChangeSpec := { name := "logsBytes", fn := fun _ => fun
  | [d1, d2, d3] => { results := [.lit (.bool false)], args := [d1, d2, d3] }
  | _ => none }
def LogsBytesWrongFalsely : Prop := logsBytesRow.holds Tryd.pinned (OpenSpec.ofChange logsBytesWrong)

/-- 'locksteplaw26.LogsClosed': WHATEVER THE INPUT: true; the input reads as it did. -/
def logsClosedSpec : ChangeSpec := { name := "logsClosed", fn := fun _ => fun
  | [d1, d2, d3] => { results := [.lit (.bool true)], args := [d1, d2, d3] }
  | _ => none }
def logsClosedRow : OpenClaim := { program := "ytidoflgcblglbaadoor", sum := "b5e2a16bd0b8968f8518afa48479f0f7f43dda1722c40688dba90d3970dc56a8", func := "lockstep/locksteplaw26.LogsClosed", spec := "logsClosed", inPlace := ["internal/bytealg.CountString", "internal/bytealg.IndexByteString", "internal/bytealg.IndexString", "internal/abi.NoEscape", "internal/bytealg.MakeNoZero"], unfollowed := true, recurses := true, named := ["unicode/utf8.first", "unicode/utf8.acceptRanges", "internal/bytealg.MaxLen"], apart := false, laid := [("unicode/utf8.acceptRanges", laid_unicode_utf8_acceptRanges), ("unicode/utf8.first", laid_unicode_utf8_first)] }
def LogsClosedSaid : Prop := logsClosedRow.holds Tryd.pinned (OpenSpec.ofChange logsClosedSpec)

/-- ITS FALSE NEIGHBOUR: 'it returns false'. Refute it at one input. -/
def logsClosedWrong : ChangeSpec := { name := "logsClosed", fn := fun _ => fun
  | [d1, d2, d3] => { results := [.lit (.bool false)], args := [d1, d2, d3] }
  | _ => none }
def LogsClosedWrongFalsely : Prop := logsClosedRow.holds Tryd.pinned (OpenSpec.ofChange logsClosedWrong)

/-- 'locksteplaw26.LogsBeginnings': WHATEVER THE INPUT: true; the input reads as it did. -/
def logsBeginningsSpec : ChangeSpec := { name := "logsBeginnings", fn := fun _ => fun
  | [d1, d2, d3, d4] => { results := [.lit (.bool true)], args := [d1, d2, d3, d4] }
  | _ => none }
def logsBeginningsRow : OpenClaim := { program := "ytidoflgcblglbaadoor", sum := "b5e2a16bd0b8968f8518afa48479f0f7f43dda1722c40688dba90d3970dc56a8", func := "lockstep/locksteplaw26.LogsBeginnings", spec := "logsBeginnings", inPlace := ["internal/bytealg.CountString", "internal/bytealg.IndexByteString", "internal/bytealg.IndexString", "internal/abi.NoEscape", "internal/bytealg.MakeNoZero"], unfollowed := true, recurses := true, named := ["unicode/utf8.first", "unicode/utf8.acceptRanges", "internal/bytealg.MaxLen"], apart := false, laid := [("unicode/utf8.acceptRanges", laid_unicode_utf8_acceptRanges), ("unicode/utf8.first", laid_unicode_utf8_first)] }
def LogsBeginningsSaid : Prop := logsBeginningsRow.holds Tryd.pinned (OpenSpec.ofChange logsBeginningsSpec)

/-- ITS FALSE NEIGHBOUR: 'it returns false'. Refute it at one input. -/
def logsBeginningsWrong : ChangeSpec := { name := "logsBeginnings", fn := fun _ => fun
  | [d1, d2, d3, d4] => { results := [.lit (.bool false)], args := [d1, d2, d3, d4] }
  | _ => none }
def LogsBeginningsWrongFalsely : Prop := logsBeginningsRow.holds Tryd.pinned (OpenSpec.ofChange logsBeginningsWrong)

/- THE SECOND FORM. 'bulk': how many values and letters a reading holds, each counted each time it is reached (what is shared counts as often as it is met; a slice's spare places count too). A statement '..UptoSaid' is the law's where the arguments, and the package variables that the reading takes, are together of bulk at most 1048576: NARROWER than '..Said'. Prove '..Said' where nothing that the law and all that it calls make is longer than what came in: it says more and counts as full. Else prove '..UptoSaid'. A law counts once. -/
mutual
def uptoBulk {H : Type} : DataW H → Nat
  | .lit (.string bytes) => bytes.length + 1
  | .lit _ => 1
  | .nil => 1
  | .ptr d => uptoBulk d + 1
  | .slice elems spare => uptoBulkAll elems + uptoBulkAll spare + 1
  | .agg parts => uptoBulkAll parts + 1
  | .iface _ d => uptoBulk d + 1
  | .map entries => uptoBulkEntries entries + 1
  | .held _ => 1
def uptoBulkAll {H : Type} : List (DataW H) → Nat
  | [] => 0
  | d :: r => uptoBulk d + uptoBulkAll r
def uptoBulkEntries {H : Type} : List (Lit × DataW H) → Nat
  | [] => 0
  | x :: r => uptoBulkEntry x + uptoBulkEntries r
def uptoBulkEntry {H : Type} : Lit × DataW H → Nat
  | (.string bytes, d) => bytes.length + uptoBulk d + 1
  | (_, d) => uptoBulk d + 1
 end
def uptoSmall : (H : Type) → List (DataW H) → Bool := fun _ ds => decide (uptoBulkAll ds ≤ 1048576)
def OpenSpec.upto (s : _root_.Go.ChangeSpec) : _root_.Go.OpenSpec := { _root_.Go.OpenSpec.ofChange s with cond := some uptoSmall }

/-- 'locksteplaw26.LogsCut', WHERE WHAT IT READS IS OF BULK AT MOST 1048576: true; the input reads as it did. -/
def logsCutUptoRow : OpenClaim := { program := "ytidoflgcblglbaadoor", sum := "b5e2a16bd0b8968f8518afa48479f0f7f43dda1722c40688dba90d3970dc56a8", func := "lockstep/locksteplaw26.LogsCut", spec := "logsCut", unfollowed := true, recurses := true, named := ["unicode/utf8.first", "unicode/utf8.acceptRanges"], apart := false, laid := [("unicode/utf8.acceptRanges", laid_unicode_utf8_acceptRanges), ("unicode/utf8.first", laid_unicode_utf8_first)], narrowed := true }
def LogsCutUptoSaid : Prop := logsCutUptoRow.holds Tryd.pinned (OpenSpec.upto logsCutSpec)

/-- 'locksteplaw26.LogsBytes', WHERE WHAT IT READS IS OF BULK AT MOST 1048576: true; the input reads as it did. -/
def logsBytesUptoRow : OpenClaim := { program := "ytidoflgcblglbaadoor", sum := "b5e2a16bd0b8968f8518afa48479f0f7f43dda1722c40688dba90d3970dc56a8", func := "lockstep/locksteplaw26.LogsBytes", spec := "logsBytes", inPlace := ["internal/bytealg.CountString", "internal/bytealg.IndexByteString", "internal/bytealg.IndexString", "internal/abi.NoEscape", "internal/bytealg.MakeNoZero", "math/bits.Add64", "internal/bytealg.IndexByte"], unfollowed := true, recurses := true, named := ["unicode/utf8.first", "unicode/utf8.acceptRanges", "internal/bytealg.MaxLen", "math/bits.divideError", "math/bits.overflowError"], apart := false, laid := [("unicode/utf8.acceptRanges", laid_unicode_utf8_acceptRanges), ("unicode/utf8.first", laid_unicode_utf8_first)], narrowed := true }
def LogsBytesUptoSaid : Prop := logsBytesUptoRow.holds Tryd.pinned (OpenSpec.upto logsBytesSpec)

/-- 'locksteplaw26.LogsClosed', WHERE WHAT IT READS IS OF BULK AT MOST 1048576: true; the input reads as it did. -/
def logsClosedUptoRow : OpenClaim := { program := "ytidoflgcblglbaadoor", sum := "b5e2a16bd0b8968f8518afa48479f0f7f43dda1722c40688dba90d3970dc56a8", func := "lockstep/locksteplaw26.LogsClosed", spec := "logsClosed", inPlace := ["internal/bytealg.CountString", "internal/bytealg.IndexByteString", "internal/bytealg.IndexString", "internal/abi.NoEscape", "internal/bytealg.MakeNoZero"], unfollowed := true, recurses := true, named := ["unicode/utf8.first", "unicode/utf8.acceptRanges", "internal/bytealg.MaxLen"], apart := false, laid := [("unicode/utf8.acceptRanges", laid_unicode_utf8_acceptRanges), ("unicode/utf8.first", laid_unicode_utf8_first)], narrowed := true }
def LogsClosedUptoSaid : Prop := logsClosedUptoRow.holds Tryd.pinned (OpenSpec.upto logsClosedSpec)

/-- 'locksteplaw26.LogsBeginnings', WHERE WHAT IT READS IS OF BULK AT MOST 1048576: true; the input reads as it did. -/
def logsBeginningsUptoRow : OpenClaim := { program := "ytidoflgcblglbaadoor", sum := "b5e2a16bd0b8968f8518afa48479f0f7f43dda1722c40688dba90d3970dc56a8", func := "lockstep/locksteplaw26.LogsBeginnings", spec := "logsBeginnings", inPlace := ["internal/bytealg.CountString", "internal/bytealg.IndexByteString", "internal/bytealg.IndexString", "internal/abi.NoEscape", "internal/bytealg.MakeNoZero"], unfollowed := true, recurses := true, named := ["unicode/utf8.first", "unicode/utf8.acceptRanges", "internal/bytealg.MaxLen"], apart := false, laid := [("unicode/utf8.acceptRanges", laid_unicode_utf8_acceptRanges), ("unicode/utf8.first", laid_unicode_utf8_first)], narrowed := true }
def LogsBeginningsUptoSaid : Prop := logsBeginningsUptoRow.holds Tryd.pinned (OpenSpec.upto logsBeginningsSpec)

end Rows
end Go.Proofs.YtidoflgcblglbaaDoor

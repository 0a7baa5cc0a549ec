/-
  NARROWER THAN 'FOR EVERY INPUT', by the rows' own cells (each row's printed sentence says how): FieldRises: laid · FieldSplits: laid · FieldKeeps: laid · FieldApart: laid · CanonIs: laid · FieldKnown: laid · CanonKnown: laid · FsKnown: laid.
  DERIVED. THE GIVEN ROWS OF THIS SEAT. 8 by the template 'for every input the law returns true; each argument reads behind the call as it read before'; 0 by the template 'total and deterministic' (their statements: YtbjbeajbckcecaaGreatDoorTotals.lean).
  GIVEN WITH THE SEED: the statements are not yours to turn. If you find one false, say at which input.
  Laid BY PROGRAM, IN A SANDBOX (cutbox-rows.mjs): the forced cells as the released guide's own fill.sh prints them over the translation 61db0c199ab66671… (all of the seat's roots in one cut). By AI agents, Wed Nov 11 2026. No macro, syntax, notation, axiom, sorry.
-/
import Derived.Test.YtbjbeajbckcecaaGreatDoorChecked
import GoSem.PinnedTables
import GoSem.Claim
import GoSem.ClaimJoined
import GoSem.ClaimMapViews
import Derived.JoinedTies
import Derived.KernelRfl
namespace Go.Proofs.YtbjbeajbckcecaaGreatDoor
/- THE CELL 'sum', in the pinned program and in every row, IS THE sha256 OF THE DUMP (.gsa) THAT YtbjbeajbckcecaaGreatDoorProg.lean LOADS. Nothing in Lean hashes anything: it is a label: what it is worth is what the hold of that sum in a sandbox is worth. -/
noncomputable def Tryz.pinned : Pinned := { name := "ytbjbeajbckcecaagreatdoor", sum := "61db0c199ab666711dd228acd9c5770a695d09ea45f0c81a6f668fb4d26da39c", checked := Tryz.checked }
namespace Rows
def none {H : Type} : Left H := { results := [], args := [] }

/- WHAT THE LISTED PACKAGE-LEVEL VARIABLES READ AS WHEN THE CALL BEGINS. Each datum BY PROGRAM (the guide's laid-datum.mjs) off the statement by which the dump's own 'gosem.cut.vars' lays the variable. In a bare row this is a premise. The card (YtbjbeajbckcecaaGreatDoorCards.lean) ties it to the program's text. -/
def laid_unicode_utf8_acceptRanges {H : Type} : DataW H := .agg [.agg [.lit (.int .u8 128), .lit (.int .u8 191)], .agg [.lit (.int .u8 160), .lit (.int .u8 191)], .agg [.lit (.int .u8 128), .lit (.int .u8 159)], .agg [.lit (.int .u8 144), .lit (.int .u8 191)], .agg [.lit (.int .u8 128), .lit (.int .u8 143)], .agg [.lit (.int .u8 0), .lit (.int .u8 0)], .agg [.lit (.int .u8 0), .lit (.int .u8 0)], .agg [.lit (.int .u8 0), .lit (.int .u8 0)], .agg [.lit (.int .u8 0), .lit (.int .u8 0)], .agg [.lit (.int .u8 0), .lit (.int .u8 0)], .agg [.lit (.int .u8 0), .lit (.int .u8 0)], .agg [.lit (.int .u8 0), .lit (.int .u8 0)], .agg [.lit (.int .u8 0), .lit (.int .u8 0)], .agg [.lit (.int .u8 0), .lit (.int .u8 0)], .agg [.lit (.int .u8 0), .lit (.int .u8 0)], .agg [.lit (.int .u8 0), .lit (.int .u8 0)]]
/-- One of Go's own tables, pinned by name: the form's constant. -/
def laid_unicode_utf8_first : DataW Unit := Go.Pinned.utf8First

/-- 'whisklaw16.FieldRises': WHATEVER THE INPUT: true; the input reads as it did. -/
def fieldRisesSpec : ChangeSpec := { name := "fieldRises", fn := fun _ => fun
  | [d1, d2] => { results := [.lit (.bool true)], args := [d1, d2] }
  | _ => none }
def fieldRisesRow : OpenClaim := { program := "ytbjbeajbckcecaagreatdoor", sum := "61db0c199ab666711dd228acd9c5770a695d09ea45f0c81a6f668fb4d26da39c", func := "whisk/whisklaw16.FieldRises", spec := "fieldRises", inPlace := ["internal/bytealg.IndexByteString", "internal/bytealg.IndexString", "internal/abi.NoEscape", "internal/bytealg.MakeNoZero"], unfollowed := true, recurses := true, named := ["unicode/utf8.first", "unicode/utf8.acceptRanges", "internal/bytealg.MaxLen"], apart := false, laid := [("unicode/utf8.acceptRanges", laid_unicode_utf8_acceptRanges), ("unicode/utf8.first", laid_unicode_utf8_first)] }
def FieldRisesSaid : Prop := fieldRisesRow.holds Tryz.pinned (OpenSpec.ofChange fieldRisesSpec)

/-- ITS FALSE NEIGHBOUR: 'it returns false'. Refute it at one input. -/
def fieldRisesWrong : ChangeSpec := { name := "fieldRises", fn := fun _ => fun
  | [d1, d2] => { results := [.lit (.bool false)], args := [d1, d2] }
  | _ => none }
def FieldRisesWrongFalsely : Prop := fieldRisesRow.holds Tryz.pinned (OpenSpec.ofChange fieldRisesWrong)

/-- 'whisklaw16.FieldSplits': WHATEVER THE INPUT: true; the input reads as it did. -/
def fieldSplitsSpec : ChangeSpec := { name := "fieldSplits", fn := fun _ => fun
  | [d1, d2] => { results := [.lit (.bool true)], args := [d1, d2] }
  | _ => none }
def fieldSplitsRow : OpenClaim := { program := "ytbjbeajbckcecaagreatdoor", sum := "61db0c199ab666711dd228acd9c5770a695d09ea45f0c81a6f668fb4d26da39c", func := "whisk/whisklaw16.FieldSplits", spec := "fieldSplits", inPlace := ["internal/abi.NoEscape", "internal/bytealg.MakeNoZero", "internal/bytealg.IndexByteString", "internal/bytealg.IndexString"], unfollowed := true, recurses := true, named := ["unicode/utf8.first", "unicode/utf8.acceptRanges", "internal/bytealg.MaxLen"], apart := false, laid := [("unicode/utf8.acceptRanges", laid_unicode_utf8_acceptRanges), ("unicode/utf8.first", laid_unicode_utf8_first)] }
def FieldSplitsSaid : Prop := fieldSplitsRow.holds Tryz.pinned (OpenSpec.ofChange fieldSplitsSpec)

/-- ITS FALSE NEIGHBOUR: 'it returns false'. Refute it at one input. -/
def fieldSplitsWrong : ChangeSpec := { name := "fieldSplits", fn := fun _ => fun
  | [d1, d2] => { results := [.lit (.bool false)], args := [d1, d2] }
  | _ => none }
def FieldSplitsWrongFalsely : Prop := fieldSplitsRow.holds Tryz.pinned (OpenSpec.ofChange fieldSplitsWrong)

/-- 'whisklaw16.FieldKeeps': WHATEVER THE INPUT: true; the input reads as it did. -/
def fieldKeepsSpec : ChangeSpec := { name := "fieldKeeps", fn := fun _ => fun
  | [d1, d2] => { results := [.lit (.bool true)], args := [d1, d2] }
  | _ => none }
def fieldKeepsRow : OpenClaim := { program := "ytbjbeajbckcecaagreatdoor", sum := "61db0c199ab666711dd228acd9c5770a695d09ea45f0c81a6f668fb4d26da39c", func := "whisk/whisklaw16.FieldKeeps", spec := "fieldKeeps", inPlace := ["internal/bytealg.IndexByteString", "internal/bytealg.IndexString", "internal/abi.NoEscape", "internal/bytealg.MakeNoZero"], unfollowed := true, recurses := true, named := ["unicode/utf8.first", "unicode/utf8.acceptRanges", "internal/bytealg.MaxLen"], apart := false, laid := [("unicode/utf8.acceptRanges", laid_unicode_utf8_acceptRanges), ("unicode/utf8.first", laid_unicode_utf8_first)] }
def FieldKeepsSaid : Prop := fieldKeepsRow.holds Tryz.pinned (OpenSpec.ofChange fieldKeepsSpec)

/-- ITS FALSE NEIGHBOUR: 'it returns false'. Refute it at one input. -/
def fieldKeepsWrong : ChangeSpec := { name := "fieldKeeps", fn := fun _ => fun
  | [d1, d2] => { results := [.lit (.bool false)], args := [d1, d2] }
  | _ => none }
def FieldKeepsWrongFalsely : Prop := fieldKeepsRow.holds Tryz.pinned (OpenSpec.ofChange fieldKeepsWrong)

/-- 'whisklaw16.FieldApart': WHATEVER THE INPUT: true; the input reads as it did. -/
def fieldApartSpec : ChangeSpec := { name := "fieldApart", fn := fun _ => fun
  | [d1, d2, d3] => { results := [.lit (.bool true)], args := [d1, d2, d3] }
  | _ => none }
def fieldApartRow : OpenClaim := { program := "ytbjbeajbckcecaagreatdoor", sum := "61db0c199ab666711dd228acd9c5770a695d09ea45f0c81a6f668fb4d26da39c", func := "whisk/whisklaw16.FieldApart", spec := "fieldApart", inPlace := ["internal/bytealg.IndexByteString", "internal/bytealg.IndexString", "internal/abi.NoEscape", "internal/bytealg.MakeNoZero"], unfollowed := true, recurses := true, named := ["unicode/utf8.first", "unicode/utf8.acceptRanges", "internal/bytealg.MaxLen"], apart := false, laid := [("unicode/utf8.acceptRanges", laid_unicode_utf8_acceptRanges), ("unicode/utf8.first", laid_unicode_utf8_first)] }
def FieldApartSaid : Prop := fieldApartRow.holds Tryz.pinned (OpenSpec.ofChange fieldApartSpec)

/-- ITS FALSE NEIGHBOUR: 'it returns false'. Refute it at one input. -/
def fieldApartWrong : ChangeSpec := { name := "fieldApart", fn := fun _ => fun
  | [d1, d2, d3] => { results := [.lit (.bool false)], args := [d1, d2, d3] }
  | _ => none }
def FieldApartWrongFalsely : Prop := fieldApartRow.holds Tryz.pinned (OpenSpec.ofChange fieldApartWrong)

/-- 'whisklaw10.CanonIs': WHATEVER THE INPUT: true; the input reads as it did. -/
def canonIsSpec : ChangeSpec := { name := "canonIs", fn := fun _ => fun
  | [d1, d2] => { results := [.lit (.bool true)], args := [d1, d2] }
  | _ => none }
def canonIsRow : OpenClaim := { program := "ytbjbeajbckcecaagreatdoor", sum := "61db0c199ab666711dd228acd9c5770a695d09ea45f0c81a6f668fb4d26da39c", func := "whisk/whisklaw10.CanonIs", spec := "canonIs", inPlace := ["internal/bytealg.IndexByteString", "internal/bytealg.IndexString"], unfollowed := true, recurses := true, named := ["unicode/utf8.first", "unicode/utf8.acceptRanges", "internal/bytealg.MaxLen"], apart := false, laid := [("unicode/utf8.acceptRanges", laid_unicode_utf8_acceptRanges), ("unicode/utf8.first", laid_unicode_utf8_first)] }
def CanonIsSaid : Prop := canonIsRow.holds Tryz.pinned (OpenSpec.ofChange canonIsSpec)

/-- ITS FALSE NEIGHBOUR: 'it returns false'. Refute it at one input. -/
def canonIsWrong : ChangeSpec := { name := "canonIs", fn := fun _ => fun
  | [d1, d2] => { results := [.lit (.bool false)], args := [d1, d2] }
  | _ => none }
def CanonIsWrongFalsely : Prop := canonIsRow.holds Tryz.pinned (OpenSpec.ofChange canonIsWrong)

/-- 'whisklaw16.FieldKnown': WHATEVER THE INPUT: true; the input reads as it did. -/
def fieldKnownSpec : ChangeSpec := { name := "fieldKnown", fn := fun _ => fun
  | [] => { results := [.lit (.bool true)], args := [] }
  | _ => none }
def fieldKnownRow : OpenClaim := { program := "ytbjbeajbckcecaagreatdoor", sum := "61db0c199ab666711dd228acd9c5770a695d09ea45f0c81a6f668fb4d26da39c", func := "whisk/whisklaw16.FieldKnown", spec := "fieldKnown", inPlace := ["internal/bytealg.IndexByteString", "internal/bytealg.IndexString", "internal/abi.NoEscape", "internal/bytealg.MakeNoZero"], unfollowed := true, recurses := true, named := ["unicode/utf8.first", "unicode/utf8.acceptRanges", "internal/bytealg.MaxLen"], apart := false, laid := [("unicode/utf8.acceptRanges", laid_unicode_utf8_acceptRanges), ("unicode/utf8.first", laid_unicode_utf8_first)] }
def FieldKnownSaid : Prop := fieldKnownRow.holds Tryz.pinned (OpenSpec.ofChange fieldKnownSpec)

/-- ITS FALSE NEIGHBOUR: 'it returns false'. Refute it at one input. -/
def fieldKnownWrong : ChangeSpec := { name := "fieldKnown", fn := fun _ => fun
  | [] => { results := [.lit (.bool false)], args := [] }
  | _ => none }
def FieldKnownWrongFalsely : Prop := fieldKnownRow.holds Tryz.pinned (OpenSpec.ofChange fieldKnownWrong)

/-- 'whisklaw10.CanonKnown': WHATEVER THE INPUT: true; the input reads as it did. -/
def canonKnownSpec : ChangeSpec := { name := "canonKnown", fn := fun _ => fun
  | [] => { results := [.lit (.bool true)], args := [] }
  | _ => none }
def canonKnownRow : OpenClaim := { program := "ytbjbeajbckcecaagreatdoor", sum := "61db0c199ab666711dd228acd9c5770a695d09ea45f0c81a6f668fb4d26da39c", func := "whisk/whisklaw10.CanonKnown", spec := "canonKnown", inPlace := ["internal/bytealg.IndexByteString", "internal/bytealg.IndexString", "internal/abi.NoEscape", "internal/bytealg.MakeNoZero"], unfollowed := true, recurses := true, named := ["unicode/utf8.first", "unicode/utf8.acceptRanges", "internal/bytealg.MaxLen"], apart := false, laid := [("unicode/utf8.acceptRanges", laid_unicode_utf8_acceptRanges), ("unicode/utf8.first", laid_unicode_utf8_first)] }
def CanonKnownSaid : Prop := canonKnownRow.holds Tryz.pinned (OpenSpec.ofChange canonKnownSpec)

/-- ITS FALSE NEIGHBOUR: 'it returns false'. Refute it at one input. -/
def canonKnownWrong : ChangeSpec := { name := "canonKnown", fn := fun _ => fun
  | [] => { results := [.lit (.bool false)], args := [] }
  | _ => none }
def CanonKnownWrongFalsely : Prop := canonKnownRow.holds Tryz.pinned (OpenSpec.ofChange canonKnownWrong)

/-- 'whisklaw08.FsKnown': WHATEVER THE INPUT: true; the input reads as it did. -/
def fsKnownSpec : ChangeSpec := { name := "fsKnown", fn := fun _ => fun
  | [] => { results := [.lit (.bool true)], args := [] }
  | _ => none }
def fsKnownRow : OpenClaim := { program := "ytbjbeajbckcecaagreatdoor", sum := "61db0c199ab666711dd228acd9c5770a695d09ea45f0c81a6f668fb4d26da39c", func := "whisk/whisklaw08.FsKnown", spec := "fsKnown", inPlace := ["internal/bytealg.IndexByteString", "internal/bytealg.IndexString", "internal/abi.NoEscape", "internal/bytealg.MakeNoZero"], unfollowed := true, recurses := true, named := ["unicode/utf8.first", "unicode/utf8.acceptRanges", "internal/bytealg.MaxLen"], apart := false, laid := [("unicode/utf8.acceptRanges", laid_unicode_utf8_acceptRanges), ("unicode/utf8.first", laid_unicode_utf8_first)] }
def FsKnownSaid : Prop := fsKnownRow.holds Tryz.pinned (OpenSpec.ofChange fsKnownSpec)

/-- ITS FALSE NEIGHBOUR: 'it returns false'. Refute it at one input. -/
def fsKnownWrong : ChangeSpec := { name := "fsKnown", fn := fun _ => fun
  | [] => { results := [.lit (.bool false)], args := [] }
  | _ => none }
def FsKnownWrongFalsely : Prop := fsKnownRow.holds Tryz.pinned (OpenSpec.ofChange fsKnownWrong)

/- THE SECOND FORM. 'bulk': how many values and letters a reading holds, each counted each time it is reached (what is shared counts as often as it is met; a slice's spare places count too). A statement '..UptoSaid' is the law's where the arguments, and the package variables that the reading takes, are together of bulk at most 1048576: NARROWER than '..Said'. Prove '..Said' where nothing that the law and all that it calls make is longer than what came in: it says more and counts as full. Else prove '..UptoSaid'. A law counts once. -/
mutual
def uptoBulk {H : Type} : DataW H → Nat
  | .lit (.string bytes) => bytes.length + 1
  | .lit _ => 1
  | .nil => 1
  | .ptr d => uptoBulk d + 1
  | .slice elems spare => uptoBulkAll elems + uptoBulkAll spare + 1
  | .agg parts => uptoBulkAll parts + 1
  | .iface _ d => uptoBulk d + 1
  | .map entries => uptoBulkEntries entries + 1
  | .held _ => 1
def uptoBulkAll {H : Type} : List (DataW H) → Nat
  | [] => 0
  | d :: r => uptoBulk d + uptoBulkAll r
def uptoBulkEntries {H : Type} : List (Lit × DataW H) → Nat
  | [] => 0
  | x :: r => uptoBulkEntry x + uptoBulkEntries r
def uptoBulkEntry {H : Type} : Lit × DataW H → Nat
  | (.string bytes, d) => bytes.length + uptoBulk d + 1
  | (_, d) => uptoBulk d + 1
 end
def uptoSmall : (H : Type) → List (DataW H) → Bool := fun _ ds => decide (uptoBulkAll ds ≤ 1048576)
def OpenSpec.upto (s : _root_.Go.ChangeSpec) : _root_.Go.OpenSpec := { _root_.Go.OpenSpec.ofChange s with cond := some uptoSmall }

/-- 'whisklaw16.FieldRises', WHERE WHAT IT READS IS OF BULK AT MOST 1048576: true; the input reads as it did. -/
def fieldRisesUptoRow : OpenClaim := { program := "ytbjbeajbckcecaagreatdoor", sum := "61db0c199ab666711dd228acd9c5770a695d09ea45f0c81a6f668fb4d26da39c", func := "whisk/whisklaw16.FieldRises", spec := "fieldRises", inPlace := ["internal/bytealg.IndexByteString", "internal/bytealg.IndexString", "internal/abi.NoEscape", "internal/bytealg.MakeNoZero"], unfollowed := true, recurses := true, named := ["unicode/utf8.first", "unicode/utf8.acceptRanges", "internal/bytealg.MaxLen"], apart := false, laid := [("unicode/utf8.acceptRanges", laid_unicode_utf8_acceptRanges), ("unicode/utf8.first", laid_unicode_utf8_first)], narrowed := true }
def FieldRisesUptoSaid : Prop := fieldRisesUptoRow.holds Tryz.pinned (OpenSpec.upto fieldRisesSpec)

/-- 'whisklaw16.FieldSplits', WHERE WHAT IT READS IS OF BULK AT MOST 1048576: true; the input reads as it did. -/
def fieldSplitsUptoRow : OpenClaim := { program := "ytbjbeajbckcecaagreatdoor", sum := "61db0c199ab666711dd228acd9c5770a695d09ea45f0c81a6f668fb4d26da39c", func := "whisk/whisklaw16.FieldSplits", spec := "fieldSplits", inPlace := ["internal/abi.NoEscape", "internal/bytealg.MakeNoZero", "internal/bytealg.IndexByteString", "internal/bytealg.IndexString"], unfollowed := true, recurses := true, named := ["unicode/utf8.first", "unicode/utf8.acceptRanges", "internal/bytealg.MaxLen"], apart := false, laid := [("unicode/utf8.acceptRanges", laid_unicode_utf8_acceptRanges), ("unicode/utf8.first", laid_unicode_utf8_first)], narrowed := true }
def FieldSplitsUptoSaid : Prop := fieldSplitsUptoRow.holds Tryz.pinned (OpenSpec.upto fieldSplitsSpec)

/-- 'whisklaw16.FieldKeeps', WHERE WHAT IT READS IS OF BULK AT MOST 1048576: true; the input reads as it did. -/
def fieldKeepsUptoRow : OpenClaim := { program := "ytbjbeajbckcecaagreatdoor", sum := "61db0c199ab666711dd228acd9c5770a695d09ea45f0c81a6f668fb4d26da39c", func := "whisk/whisklaw16.FieldKeeps", spec := "fieldKeeps", inPlace := ["internal/bytealg.IndexByteString", "internal/bytealg.IndexString", "internal/abi.NoEscape", "internal/bytealg.MakeNoZero"], unfollowed := true, recurses := true, named := ["unicode/utf8.first", "unicode/utf8.acceptRanges", "internal/bytealg.MaxLen"], apart := false, laid := [("unicode/utf8.acceptRanges", laid_unicode_utf8_acceptRanges), ("unicode/utf8.first", laid_unicode_utf8_first)], narrowed := true }
def FieldKeepsUptoSaid : Prop := fieldKeepsUptoRow.holds Tryz.pinned (OpenSpec.upto fieldKeepsSpec)

/-- 'whisklaw16.FieldApart', WHERE WHAT IT READS IS OF BULK AT MOST 1048576: true; the input reads as it did. -/
def fieldApartUptoRow : OpenClaim := { program := "ytbjbeajbckcecaagreatdoor", sum := "61db0c199ab666711dd228acd9c5770a695d09ea45f0c81a6f668fb4d26da39c", func := "whisk/whisklaw16.FieldApart", spec := "fieldApart", inPlace := ["internal/bytealg.IndexByteString", "internal/bytealg.IndexString", "internal/abi.NoEscape", "internal/bytealg.MakeNoZero"], unfollowed := true, recurses := true, named := ["unicode/utf8.first", "unicode/utf8.acceptRanges", "internal/bytealg.MaxLen"], apart := false, laid := [("unicode/utf8.acceptRanges", laid_unicode_utf8_acceptRanges), ("unicode/utf8.first", laid_unicode_utf8_first)], narrowed := true }
def FieldApartUptoSaid : Prop := fieldApartUptoRow.holds Tryz.pinned (OpenSpec.upto fieldApartSpec)

/-- 'whisklaw10.CanonIs', WHERE WHAT IT READS IS OF BULK AT MOST 1048576: true; the input reads as it did. -/
def canonIsUptoRow : OpenClaim := { program := "ytbjbeajbckcecaagreatdoor", sum := "61db0c199ab666711dd228acd9c5770a695d09ea45f0c81a6f668fb4d26da39c", func := "whisk/whisklaw10.CanonIs", spec := "canonIs", inPlace := ["internal/bytealg.IndexByteString", "internal/bytealg.IndexString"], unfollowed := true, recurses := true, named := ["unicode/utf8.first", "unicode/utf8.acceptRanges", "internal/bytealg.MaxLen"], apart := false, laid := [("unicode/utf8.acceptRanges", laid_unicode_utf8_acceptRanges), ("unicode/utf8.first", laid_unicode_utf8_first)], narrowed := true }
def CanonIsUptoSaid : Prop := canonIsUptoRow.holds Tryz.pinned (OpenSpec.upto canonIsSpec)

/-- 'whisklaw16.FieldKnown', WHERE WHAT IT READS IS OF BULK AT MOST 1048576: true; the input reads as it did. -/
def fieldKnownUptoRow : OpenClaim := { program := "ytbjbeajbckcecaagreatdoor", sum := "61db0c199ab666711dd228acd9c5770a695d09ea45f0c81a6f668fb4d26da39c", func := "whisk/whisklaw16.FieldKnown", spec := "fieldKnown", inPlace := ["internal/bytealg.IndexByteString", "internal/bytealg.IndexString", "internal/abi.NoEscape", "internal/bytealg.MakeNoZero"], unfollowed := true, recurses := true, named := ["unicode/utf8.first", "unicode/utf8.acceptRanges", "internal/bytealg.MaxLen"], apart := false, laid := [("unicode/utf8.acceptRanges", laid_unicode_utf8_acceptRanges), ("unicode/utf8.first", laid_unicode_utf8_first)], narrowed := true }
def FieldKnownUptoSaid : Prop := fieldKnownUptoRow.holds Tryz.pinned (OpenSpec.upto fieldKnownSpec)

/-- 'whisklaw10.CanonKnown', WHERE WHAT IT READS IS OF BULK AT MOST 1048576: true; the input reads as it did. -/
def canonKnownUptoRow : OpenClaim := { program := "ytbjbeajbckcecaagreatdoor", sum := "61db0c199ab666711dd228acd9c5770a695d09ea45f0c81a6f668fb4d26da39c", func := "whisk/whisklaw10.CanonKnown", spec := "canonKnown", inPlace := ["internal/bytealg.IndexByteString", "internal/bytealg.IndexString", "internal/abi.NoEscape", "internal/bytealg.MakeNoZero"], unfollowed := true, recurses := true, named := ["unicode/utf8.first", "unicode/utf8.acceptRanges", "internal/bytealg.MaxLen"], apart := false, laid := [("unicode/utf8.acceptRanges", laid_unicode_utf8_acceptRanges), ("unicode/utf8.first", laid_unicode_utf8_first)], narrowed := true }
def CanonKnownUptoSaid : Prop := canonKnownUptoRow.holds Tryz.pinned (OpenSpec.upto canonKnownSpec)

/-- 'whisklaw08.FsKnown', WHERE WHAT IT READS IS OF BULK AT MOST 1048576: true; the input reads as it did. -/
def fsKnownUptoRow : OpenClaim := { program := "ytbjbeajbckcecaagreatdoor", sum := "61db0c199ab666711dd228acd9c5770a695d09ea45f0c81a6f668fb4d26da39c", func := "whisk/whisklaw08.FsKnown", spec := "fsKnown", inPlace := ["internal/bytealg.IndexByteString", "internal/bytealg.IndexString", "internal/abi.NoEscape", "internal/bytealg.MakeNoZero"], unfollowed := true, recurses := true, named := ["unicode/utf8.first", "unicode/utf8.acceptRanges", "internal/bytealg.MaxLen"], apart := false, laid := [("unicode/utf8.acceptRanges", laid_unicode_utf8_acceptRanges), ("unicode/utf8.first", laid_unicode_utf8_first)], narrowed := true }
def FsKnownUptoSaid : Prop := fsKnownUptoRow.holds Tryz.pinned (OpenSpec.upto fsKnownSpec)

end Rows
end Go.Proofs.YtbjbeajbckcecaaGreatDoor

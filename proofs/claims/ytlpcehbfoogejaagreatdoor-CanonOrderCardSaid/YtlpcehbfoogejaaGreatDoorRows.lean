/-
  NARROWER THAN 'FOR EVERY INPUT', by the rows' own cells (each row's printed sentence says how): FsLaid: loops, laid · FsQuota: laid · CanonModes: laid · CanonBack: loops, laid · CanonParts: loops, laid · FsBack: laid · CanonOrder: laid · CanonIs: laid · CanonKnown: laid · FsKnown: laid.
  DERIVED. THE GIVEN ROWS OF THIS SEAT. 10 by the template 'for every input the law returns true; each argument reads behind the call as it read before'; 0 by the template 'total and deterministic' (their statements: YtlpcehbfoogejaaGreatDoorTotals.lean).
  GIVEN WITH THE SEED: the statements are not yours to turn. If you find one false, say at which input.
  Laid BY PROGRAM, IN A SANDBOX (cutbox-rows.mjs): the forced cells as the released guide's own fill.sh prints them over the translation 2aedc8f544538ae6… (all of the seat's roots in one cut). By AI agents, Wed Nov 11 2026. No macro, syntax, notation, axiom, sorry.
-/
import Derived.Test.YtlpcehbfoogejaaGreatDoorChecked
import GoSem.PinnedTables
import GoSem.Claim
import GoSem.ClaimJoined
import GoSem.ClaimMapViews
import Derived.JoinedTies
import Derived.KernelRfl
namespace Go.Proofs.YtlpcehbfoogejaaGreatDoor
/- THE CELL 'sum', in the pinned program and in every row, IS THE sha256 OF THE DUMP (.gsa) THAT YtlpcehbfoogejaaGreatDoorProg.lean LOADS. Nothing in Lean hashes anything: it is a label: what it is worth is what the hold of that sum in a sandbox is worth. -/
noncomputable def Tryz.pinned : Pinned := { name := "ytlpcehbfoogejaagreatdoor", sum := "2aedc8f544538ae6fa8d188210bd5b7b396230ed08ca96c4e089024b0590a9d9", checked := Tryz.checked }
namespace Rows
def none {H : Type} : Left H := { results := [], args := [] }

/- WHAT THE LISTED PACKAGE-LEVEL VARIABLES READ AS WHEN THE CALL BEGINS. Each datum BY PROGRAM (the guide's laid-datum.mjs) off the statement by which the dump's own 'gosem.cut.vars' lays the variable. In a bare row this is a premise. The card (YtlpcehbfoogejaaGreatDoorCards.lean) ties it to the program's text. -/
def laid_unicode_utf8_acceptRanges {H : Type} : DataW H := .agg [.agg [.lit (.int .u8 128), .lit (.int .u8 191)], .agg [.lit (.int .u8 160), .lit (.int .u8 191)], .agg [.lit (.int .u8 128), .lit (.int .u8 159)], .agg [.lit (.int .u8 144), .lit (.int .u8 191)], .agg [.lit (.int .u8 128), .lit (.int .u8 143)], .agg [.lit (.int .u8 0), .lit (.int .u8 0)], .agg [.lit (.int .u8 0), .lit (.int .u8 0)], .agg [.lit (.int .u8 0), .lit (.int .u8 0)], .agg [.lit (.int .u8 0), .lit (.int .u8 0)], .agg [.lit (.int .u8 0), .lit (.int .u8 0)], .agg [.lit (.int .u8 0), .lit (.int .u8 0)], .agg [.lit (.int .u8 0), .lit (.int .u8 0)], .agg [.lit (.int .u8 0), .lit (.int .u8 0)], .agg [.lit (.int .u8 0), .lit (.int .u8 0)], .agg [.lit (.int .u8 0), .lit (.int .u8 0)], .agg [.lit (.int .u8 0), .lit (.int .u8 0)]]
/-- One of Go's own tables, pinned by name: the form's constant. -/
def laid_unicode_utf8_first : DataW Unit := Go.Pinned.utf8First

/-- 'whisklaw08.FsLaid': WHATEVER THE INPUT: true; the input reads as it did. -/
def fsLaidSpec : ChangeSpec := { name := "fsLaid", fn := fun _ => fun
  | [d] => { results := [.lit (.bool true)], args := [d] }
  | _ => none }
def fsLaidRow : OpenClaim := { program := "ytlpcehbfoogejaagreatdoor", sum := "2aedc8f544538ae6fa8d188210bd5b7b396230ed08ca96c4e089024b0590a9d9", func := "whisk/whisklaw08.FsLaid", spec := "fsLaid", inPlace := ["internal/bytealg.IndexByteString", "internal/bytealg.IndexString"], unfollowed := true, recurses := true, named := ["unicode/utf8.first", "unicode/utf8.acceptRanges", "internal/bytealg.MaxLen"], loops := true, apart := false, laid := [("unicode/utf8.acceptRanges", laid_unicode_utf8_acceptRanges), ("unicode/utf8.first", laid_unicode_utf8_first)] }
def FsLaidSaid : Prop := fsLaidRow.holds Tryz.pinned (OpenSpec.ofChange fsLaidSpec)

/-- ITS FALSE NEIGHBOUR: 'it returns false'. Refute it at one input. -/
def fsLaidWrong : ChangeSpec := { name := "fsLaid", fn := fun _ => fun
  | [d] => { results := [.lit (.bool false)], args := [d] }
  | _ => none }
def FsLaidWrongFalsely : Prop := fsLaidRow.holds Tryz.pinned (OpenSpec.ofChange fsLaidWrong)

/-- 'whisklaw08.FsQuota': WHATEVER THE INPUT: true; the input reads as it did. -/
def fsQuotaSpec : ChangeSpec := { name := "fsQuota", fn := fun _ => fun
  | [d1, d2, d3] => { results := [.lit (.bool true)], args := [d1, d2, d3] }
  | _ => none }
def fsQuotaRow : OpenClaim := { program := "ytlpcehbfoogejaagreatdoor", sum := "2aedc8f544538ae6fa8d188210bd5b7b396230ed08ca96c4e089024b0590a9d9", func := "whisk/whisklaw08.FsQuota", spec := "fsQuota", inPlace := ["internal/bytealg.IndexByteString", "internal/bytealg.IndexString"], unfollowed := true, recurses := true, named := ["unicode/utf8.first", "unicode/utf8.acceptRanges", "internal/bytealg.MaxLen"], apart := false, laid := [("unicode/utf8.acceptRanges", laid_unicode_utf8_acceptRanges), ("unicode/utf8.first", laid_unicode_utf8_first)] }
def FsQuotaSaid : Prop := fsQuotaRow.holds Tryz.pinned (OpenSpec.ofChange fsQuotaSpec)

/-- ITS FALSE NEIGHBOUR: 'it returns false'. Refute it at one input. -/
def fsQuotaWrong : ChangeSpec := { name := "fsQuota", fn := fun _ => fun
  | [d1, d2, d3] => { results := [.lit (.bool false)], args := [d1, d2, d3] }
  | _ => none }
def FsQuotaWrongFalsely : Prop := fsQuotaRow.holds Tryz.pinned (OpenSpec.ofChange fsQuotaWrong)

/-- 'whisklaw10.CanonModes': WHATEVER THE INPUT: true; the input reads as it did. -/
def canonModesSpec : ChangeSpec := { name := "canonModes", fn := fun _ => fun
  | [d1, d2, d3] => { results := [.lit (.bool true)], args := [d1, d2, d3] }
  | _ => none }
def canonModesRow : OpenClaim := { program := "ytlpcehbfoogejaagreatdoor", sum := "2aedc8f544538ae6fa8d188210bd5b7b396230ed08ca96c4e089024b0590a9d9", func := "whisk/whisklaw10.CanonModes", spec := "canonModes", inPlace := ["internal/bytealg.IndexByteString", "internal/bytealg.IndexString"], unfollowed := true, recurses := true, named := ["unicode/utf8.first", "unicode/utf8.acceptRanges", "internal/bytealg.MaxLen"], apart := false, laid := [("unicode/utf8.acceptRanges", laid_unicode_utf8_acceptRanges), ("unicode/utf8.first", laid_unicode_utf8_first)] }
def CanonModesSaid : Prop := canonModesRow.holds Tryz.pinned (OpenSpec.ofChange canonModesSpec)

/-- ITS FALSE NEIGHBOUR: 'it returns false'. Refute it at one input. -/
def canonModesWrong : ChangeSpec := { name := "canonModes", fn := fun _ => fun
  | [d1, d2, d3] => { results := [.lit (.bool false)], args := [d1, d2, d3] }
  | _ => none }
def CanonModesWrongFalsely : Prop := canonModesRow.holds Tryz.pinned (OpenSpec.ofChange canonModesWrong)

/-- 'whisklaw10.CanonBack': WHATEVER THE INPUT: true; the input reads as it did. -/
def canonBackSpec : ChangeSpec := { name := "canonBack", fn := fun _ => fun
  | [d] => { results := [.lit (.bool true)], args := [d] }
  | _ => none }
def canonBackRow : OpenClaim := { program := "ytlpcehbfoogejaagreatdoor", sum := "2aedc8f544538ae6fa8d188210bd5b7b396230ed08ca96c4e089024b0590a9d9", func := "whisk/whisklaw10.CanonBack", spec := "canonBack", inPlace := ["internal/bytealg.IndexByteString", "internal/bytealg.IndexString"], unfollowed := true, recurses := true, named := ["unicode/utf8.first", "unicode/utf8.acceptRanges", "internal/bytealg.MaxLen"], loops := true, apart := false, laid := [("unicode/utf8.acceptRanges", laid_unicode_utf8_acceptRanges), ("unicode/utf8.first", laid_unicode_utf8_first)] }
def CanonBackSaid : Prop := canonBackRow.holds Tryz.pinned (OpenSpec.ofChange canonBackSpec)

/-- ITS FALSE NEIGHBOUR: 'it returns false'. Refute it at one input. -/
def canonBackWrong : ChangeSpec := { name := "canonBack", fn := fun _ => fun
  | [d] => { results := [.lit (.bool false)], args := [d] }
  | _ => none }
def CanonBackWrongFalsely : Prop := canonBackRow.holds Tryz.pinned (OpenSpec.ofChange canonBackWrong)

/-- 'whisklaw10.CanonParts': WHATEVER THE INPUT: true; the input reads as it did. -/
def canonPartsSpec : ChangeSpec := { name := "canonParts", fn := fun _ => fun
  | [d] => { results := [.lit (.bool true)], args := [d] }
  | _ => none }
def canonPartsRow : OpenClaim := { program := "ytlpcehbfoogejaagreatdoor", sum := "2aedc8f544538ae6fa8d188210bd5b7b396230ed08ca96c4e089024b0590a9d9", func := "whisk/whisklaw10.CanonParts", spec := "canonParts", inPlace := ["internal/bytealg.IndexByteString", "internal/bytealg.IndexString"], unfollowed := true, recurses := true, named := ["unicode/utf8.first", "unicode/utf8.acceptRanges", "internal/bytealg.MaxLen"], loops := true, apart := false, laid := [("unicode/utf8.acceptRanges", laid_unicode_utf8_acceptRanges), ("unicode/utf8.first", laid_unicode_utf8_first)] }
def CanonPartsSaid : Prop := canonPartsRow.holds Tryz.pinned (OpenSpec.ofChange canonPartsSpec)

/-- ITS FALSE NEIGHBOUR: 'it returns false'. Refute it at one input. -/
def canonPartsWrong : ChangeSpec := { name := "canonParts", fn := fun _ => fun
  | [d] => { results := [.lit (.bool false)], args := [d] }
  | _ => none }
def CanonPartsWrongFalsely : Prop := canonPartsRow.holds Tryz.pinned (OpenSpec.ofChange canonPartsWrong)

/-- 'whisklaw08.FsBack': WHATEVER THE INPUT: true; the input reads as it did. -/
def fsBackSpec : ChangeSpec := { name := "fsBack", fn := fun _ => fun
  | [d1, d2, d3] => { results := [.lit (.bool true)], args := [d1, d2, d3] }
  | _ => none }
def fsBackRow : OpenClaim := { program := "ytlpcehbfoogejaagreatdoor", sum := "2aedc8f544538ae6fa8d188210bd5b7b396230ed08ca96c4e089024b0590a9d9", func := "whisk/whisklaw08.FsBack", spec := "fsBack", inPlace := ["internal/bytealg.IndexByteString", "internal/bytealg.IndexString", "internal/bytealg.CountString", "internal/abi.NoEscape", "internal/bytealg.MakeNoZero"], unfollowed := true, recurses := true, named := ["unicode/utf8.first", "unicode/utf8.acceptRanges", "internal/bytealg.MaxLen"], apart := false, laid := [("unicode/utf8.acceptRanges", laid_unicode_utf8_acceptRanges), ("unicode/utf8.first", laid_unicode_utf8_first)] }
def FsBackSaid : Prop := fsBackRow.holds Tryz.pinned (OpenSpec.ofChange fsBackSpec)

/-- ITS FALSE NEIGHBOUR: 'it returns false'. Refute it at one input. -/
def fsBackWrong : ChangeSpec := { name := "fsBack", fn := fun _ => fun
  | [d1, d2, d3] => { results := [.lit (.bool false)], args := [d1, d2, d3] }
  | _ => none }
def FsBackWrongFalsely : Prop := fsBackRow.holds Tryz.pinned (OpenSpec.ofChange fsBackWrong)

/-- 'whisklaw10.CanonOrder': WHATEVER THE INPUT: true; the input reads as it did. -/
def canonOrderSpec : ChangeSpec := { name := "canonOrder", fn := fun _ => fun
  | [d1, d2] => { results := [.lit (.bool true)], args := [d1, d2] }
  | _ => none }
def canonOrderRow : OpenClaim := { program := "ytlpcehbfoogejaagreatdoor", sum := "2aedc8f544538ae6fa8d188210bd5b7b396230ed08ca96c4e089024b0590a9d9", func := "whisk/whisklaw10.CanonOrder", spec := "canonOrder", inPlace := ["internal/bytealg.IndexByteString", "internal/bytealg.IndexString"], unfollowed := true, recurses := true, named := ["unicode/utf8.first", "unicode/utf8.acceptRanges", "internal/bytealg.MaxLen"], apart := false, laid := [("unicode/utf8.acceptRanges", laid_unicode_utf8_acceptRanges), ("unicode/utf8.first", laid_unicode_utf8_first)] }
def CanonOrderSaid : Prop := canonOrderRow.holds Tryz.pinned (OpenSpec.ofChange canonOrderSpec)

/-- ITS FALSE NEIGHBOUR: 'it returns false'. Refute it at one input. -/
def canonOrderWrong : ChangeSpec := { name := "canonOrder", fn := fun _ => fun
  | [d1, d2] => { results := [.lit (.bool false)], args := [d1, d2] }
  | _ => none }
def CanonOrderWrongFalsely : Prop := canonOrderRow.holds Tryz.pinned (OpenSpec.ofChange canonOrderWrong)

/-- 'whisklaw10.CanonIs': WHATEVER THE INPUT: true; the input reads as it did. -/
def canonIsSpec : ChangeSpec := { name := "canonIs", fn := fun _ => fun
  | [d1, d2] => { results := [.lit (.bool true)], args := [d1, d2] }
  | _ => none }
def canonIsRow : OpenClaim := { program := "ytlpcehbfoogejaagreatdoor", sum := "2aedc8f544538ae6fa8d188210bd5b7b396230ed08ca96c4e089024b0590a9d9", func := "whisk/whisklaw10.CanonIs", spec := "canonIs", inPlace := ["internal/bytealg.IndexByteString", "internal/bytealg.IndexString"], unfollowed := true, recurses := true, named := ["unicode/utf8.first", "unicode/utf8.acceptRanges", "internal/bytealg.MaxLen"], apart := false, laid := [("unicode/utf8.acceptRanges", laid_unicode_utf8_acceptRanges), ("unicode/utf8.first", laid_unicode_utf8_first)] }
def CanonIsSaid : Prop := canonIsRow.holds Tryz.pinned (OpenSpec.ofChange canonIsSpec)

/-- ITS FALSE NEIGHBOUR: 'it returns false'. Refute it at one input. -/
def canonIsWrong : ChangeSpec := { name := "canonIs", fn := fun _ => fun
  | [d1, d2] => { results := [.lit (.bool false)], args := [d1, d2] }
  | _ => none }
def CanonIsWrongFalsely : Prop := canonIsRow.holds Tryz.pinned (OpenSpec.ofChange canonIsWrong)

/-- 'whisklaw10.CanonKnown': WHATEVER THE INPUT: true; the input reads as it did. -/
def canonKnownSpec : ChangeSpec := { name := "canonKnown", fn := fun _ => fun
  | [] => { results := [.lit (.bool true)], args := [] }
  | _ => none }
def canonKnownRow : OpenClaim := { program := "ytlpcehbfoogejaagreatdoor", sum := "2aedc8f544538ae6fa8d188210bd5b7b396230ed08ca96c4e089024b0590a9d9", func := "whisk/whisklaw10.CanonKnown", spec := "canonKnown", inPlace := ["internal/bytealg.IndexByteString", "internal/bytealg.IndexString", "internal/abi.NoEscape", "internal/bytealg.MakeNoZero"], unfollowed := true, recurses := true, named := ["unicode/utf8.first", "unicode/utf8.acceptRanges", "internal/bytealg.MaxLen"], apart := false, laid := [("unicode/utf8.acceptRanges", laid_unicode_utf8_acceptRanges), ("unicode/utf8.first", laid_unicode_utf8_first)] }
def CanonKnownSaid : Prop := canonKnownRow.holds Tryz.pinned (OpenSpec.ofChange canonKnownSpec)

/-- ITS FALSE NEIGHBOUR: 'it returns false'. Refute it at one input. -/
def canonKnownWrong : ChangeSpec := { name := "canonKnown", fn := fun _ => fun
  | [] => { results := [.lit (.bool false)], args := [] }
  | _ => none }
def CanonKnownWrongFalsely : Prop := canonKnownRow.holds Tryz.pinned (OpenSpec.ofChange canonKnownWrong)

/-- 'whisklaw08.FsKnown': WHATEVER THE INPUT: true; the input reads as it did. -/
def fsKnownSpec : ChangeSpec := { name := "fsKnown", fn := fun _ => fun
  | [] => { results := [.lit (.bool true)], args := [] }
  | _ => none }
def fsKnownRow : OpenClaim := { program := "ytlpcehbfoogejaagreatdoor", sum := "2aedc8f544538ae6fa8d188210bd5b7b396230ed08ca96c4e089024b0590a9d9", func := "whisk/whisklaw08.FsKnown", spec := "fsKnown", inPlace := ["internal/bytealg.IndexByteString", "internal/bytealg.IndexString", "internal/abi.NoEscape", "internal/bytealg.MakeNoZero"], unfollowed := true, recurses := true, named := ["unicode/utf8.first", "unicode/utf8.acceptRanges", "internal/bytealg.MaxLen"], apart := false, laid := [("unicode/utf8.acceptRanges", laid_unicode_utf8_acceptRanges), ("unicode/utf8.first", laid_unicode_utf8_first)] }
def FsKnownSaid : Prop := fsKnownRow.holds Tryz.pinned (OpenSpec.ofChange fsKnownSpec)

/-- ITS FALSE NEIGHBOUR: 'it returns false'. Refute it at one input. -/
def fsKnownWrong : ChangeSpec := { name := "fsKnown", fn := fun _ => fun
  | [] => { results := [.lit (.bool false)], args := [] }
  | _ => none }
def FsKnownWrongFalsely : Prop := fsKnownRow.holds Tryz.pinned (OpenSpec.ofChange fsKnownWrong)

/- THE SECOND FORM. 'bulk': how many values and letters a reading holds, each counted each time it is reached (what is shared counts as often as it is met; a slice's spare places count too). A statement '..UptoSaid' is the law's where the arguments, and the package variables that the reading takes, are together of bulk at most 1048576: NARROWER than '..Said'. Prove '..Said' where nothing that the law and all that it calls make is longer than what came in: it says more and counts as full. Else prove '..UptoSaid'. A law counts once. -/
mutual
def uptoBulk {H : Type} : DataW H → Nat
  | .lit (.string bytes) => bytes.length + 1
  | .lit _ => 1
  | .nil => 1
  | .ptr d => uptoBulk d + 1
  | .slice elems spare => uptoBulkAll elems + uptoBulkAll spare + 1
  | .agg parts => uptoBulkAll parts + 1
  | .iface _ d => uptoBulk d + 1
  | .map entries => uptoBulkEntries entries + 1
  | .held _ => 1
def uptoBulkAll {H : Type} : List (DataW H) → Nat
  | [] => 0
  | d :: r => uptoBulk d + uptoBulkAll r
def uptoBulkEntries {H : Type} : List (Lit × DataW H) → Nat
  | [] => 0
  | x :: r => uptoBulkEntry x + uptoBulkEntries r
def uptoBulkEntry {H : Type} : Lit × DataW H → Nat
  | (.string bytes, d) => bytes.length + uptoBulk d + 1
  | (_, d) => uptoBulk d + 1
 end
def uptoSmall : (H : Type) → List (DataW H) → Bool := fun _ ds => decide (uptoBulkAll ds ≤ 1048576)
def OpenSpec.upto (s : _root_.Go.ChangeSpec) : _root_.Go.OpenSpec := { _root_.Go.OpenSpec.ofChange s with cond := some uptoSmall }

/-- 'whisklaw08.FsLaid', WHERE WHAT IT READS IS OF BULK AT MOST 1048576: true; the input reads as it did. -/
def fsLaidUptoRow : OpenClaim := { program := "ytlpcehbfoogejaagreatdoor", sum := "2aedc8f544538ae6fa8d188210bd5b7b396230ed08ca96c4e089024b0590a9d9", func := "whisk/whisklaw08.FsLaid", spec := "fsLaid", inPlace := ["internal/bytealg.IndexByteString", "internal/bytealg.IndexString"], unfollowed := true, recurses := true, named := ["unicode/utf8.first", "unicode/utf8.acceptRanges", "internal/bytealg.MaxLen"], loops := true, apart := false, laid := [("unicode/utf8.acceptRanges", laid_unicode_utf8_acceptRanges), ("unicode/utf8.first", laid_unicode_utf8_first)], narrowed := true }
def FsLaidUptoSaid : Prop := fsLaidUptoRow.holds Tryz.pinned (OpenSpec.upto fsLaidSpec)

/-- 'whisklaw08.FsQuota', WHERE WHAT IT READS IS OF BULK AT MOST 1048576: true; the input reads as it did. -/
def fsQuotaUptoRow : OpenClaim := { program := "ytlpcehbfoogejaagreatdoor", sum := "2aedc8f544538ae6fa8d188210bd5b7b396230ed08ca96c4e089024b0590a9d9", func := "whisk/whisklaw08.FsQuota", spec := "fsQuota", inPlace := ["internal/bytealg.IndexByteString", "internal/bytealg.IndexString"], unfollowed := true, recurses := true, named := ["unicode/utf8.first", "unicode/utf8.acceptRanges", "internal/bytealg.MaxLen"], apart := false, laid := [("unicode/utf8.acceptRanges", laid_unicode_utf8_acceptRanges), ("unicode/utf8.first", laid_unicode_utf8_first)], narrowed := true }
def FsQuotaUptoSaid : Prop := fsQuotaUptoRow.holds Tryz.pinned (OpenSpec.upto fsQuotaSpec)

/-- 'whisklaw10.CanonModes', WHERE WHAT IT READS IS OF BULK AT MOST 1048576: true; the input reads as it did. -/
def canonModesUptoRow : OpenClaim := { program := "ytlpcehbfoogejaagreatdoor", sum := "2aedc8f544538ae6fa8d188210bd5b7b396230ed08ca96c4e089024b0590a9d9", func := "whisk/whisklaw10.CanonModes", spec := "canonModes", inPlace := ["internal/bytealg.IndexByteString", "internal/bytealg.IndexString"], unfollowed := true, recurses := true, named := ["unicode/utf8.first", "unicode/utf8.acceptRanges", "internal/bytealg.MaxLen"], apart := false, laid := [("unicode/utf8.acceptRanges", laid_unicode_utf8_acceptRanges), ("unicode/utf8.first", laid_unicode_utf8_first)], narrowed := true }
def CanonModesUptoSaid : Prop := canonModesUptoRow.holds Tryz.pinned (OpenSpec.upto canonModesSpec)

/-- 'whisklaw10.CanonBack', WHERE WHAT IT READS IS OF BULK AT MOST 1048576: true; the input reads as it did. -/
def canonBackUptoRow : OpenClaim := { program := "ytlpcehbfoogejaagreatdoor", sum := "2aedc8f544538ae6fa8d188210bd5b7b396230ed08ca96c4e089024b0590a9d9", func := "whisk/whisklaw10.CanonBack", spec := "canonBack", inPlace := ["internal/bytealg.IndexByteString", "internal/bytealg.IndexString"], unfollowed := true, recurses := true, named := ["unicode/utf8.first", "unicode/utf8.acceptRanges", "internal/bytealg.MaxLen"], loops := true, apart := false, laid := [("unicode/utf8.acceptRanges", laid_unicode_utf8_acceptRanges), ("unicode/utf8.first", laid_unicode_utf8_first)], narrowed := true }
def CanonBackUptoSaid : Prop := canonBackUptoRow.holds Tryz.pinned (OpenSpec.upto canonBackSpec)

/-- 'whisklaw10.CanonParts', WHERE WHAT IT READS IS OF BULK AT MOST 1048576: true; the input reads as it did. -/
def canonPartsUptoRow : OpenClaim := { program := "ytlpcehbfoogejaagreatdoor", sum := "2aedc8f544538ae6fa8d188210bd5b7b396230ed08ca96c4e089024b0590a9d9", func := "whisk/whisklaw10.CanonParts", spec := "canonParts", inPlace := ["internal/bytealg.IndexByteString", "internal/bytealg.IndexString"], unfollowed := true, recurses := true, named := ["unicode/utf8.first", "unicode/utf8.acceptRanges", "internal/bytealg.MaxLen"], loops := true, apart := false, laid := [("unicode/utf8.acceptRanges", laid_unicode_utf8_acceptRanges), ("unicode/utf8.first", laid_unicode_utf8_first)], narrowed := true }
def CanonPartsUptoSaid : Prop := canonPartsUptoRow.holds Tryz.pinned (OpenSpec.upto canonPartsSpec)

/-- 'whisklaw08.FsBack', WHERE WHAT IT READS IS OF BULK AT MOST 1048576: true; the input reads as it did. -/
def fsBackUptoRow : OpenClaim := { program := "ytlpcehbfoogejaagreatdoor", sum := "2aedc8f544538ae6fa8d188210bd5b7b396230ed08ca96c4e089024b0590a9d9", func := "whisk/whisklaw08.FsBack", spec := "fsBack", inPlace := ["internal/bytealg.IndexByteString", "internal/bytealg.IndexString", "internal/bytealg.CountString", "internal/abi.NoEscape", "internal/bytealg.MakeNoZero"], unfollowed := true, recurses := true, named := ["unicode/utf8.first", "unicode/utf8.acceptRanges", "internal/bytealg.MaxLen"], apart := false, laid := [("unicode/utf8.acceptRanges", laid_unicode_utf8_acceptRanges), ("unicode/utf8.first", laid_unicode_utf8_first)], narrowed := true }
def FsBackUptoSaid : Prop := fsBackUptoRow.holds Tryz.pinned (OpenSpec.upto fsBackSpec)

/-- 'whisklaw10.CanonOrder', WHERE WHAT IT READS IS OF BULK AT MOST 1048576: true; the input reads as it did. -/
def canonOrderUptoRow : OpenClaim := { program := "ytlpcehbfoogejaagreatdoor", sum := "2aedc8f544538ae6fa8d188210bd5b7b396230ed08ca96c4e089024b0590a9d9", func := "whisk/whisklaw10.CanonOrder", spec := "canonOrder", inPlace := ["internal/bytealg.IndexByteString", "internal/bytealg.IndexString"], unfollowed := true, recurses := true, named := ["unicode/utf8.first", "unicode/utf8.acceptRanges", "internal/bytealg.MaxLen"], apart := false, laid := [("unicode/utf8.acceptRanges", laid_unicode_utf8_acceptRanges), ("unicode/utf8.first", laid_unicode_utf8_first)], narrowed := true }
def CanonOrderUptoSaid : Prop := canonOrderUptoRow.holds Tryz.pinned (OpenSpec.upto canonOrderSpec)

/-- 'whisklaw10.CanonIs', WHERE WHAT IT READS IS OF BULK AT MOST 1048576: true; the input reads as it did. -/
def canonIsUptoRow : OpenClaim := { program := "ytlpcehbfoogejaagreatdoor", sum := "2aedc8f544538ae6fa8d188210bd5b7b396230ed08ca96c4e089024b0590a9d9", func := "whisk/whisklaw10.CanonIs", spec := "canonIs", inPlace := ["internal/bytealg.IndexByteString", "internal/bytealg.IndexString"], unfollowed := true, recurses := true, named := ["unicode/utf8.first", "unicode/utf8.acceptRanges", "internal/bytealg.MaxLen"], apart := false, laid := [("unicode/utf8.acceptRanges", laid_unicode_utf8_acceptRanges), ("unicode/utf8.first", laid_unicode_utf8_first)], narrowed := true }
def CanonIsUptoSaid : Prop := canonIsUptoRow.holds Tryz.pinned (OpenSpec.upto canonIsSpec)

/-- 'whisklaw10.CanonKnown', WHERE WHAT IT READS IS OF BULK AT MOST 1048576: true; the input reads as it did. -/
def canonKnownUptoRow : OpenClaim := { program := "ytlpcehbfoogejaagreatdoor", sum := "2aedc8f544538ae6fa8d188210bd5b7b396230ed08ca96c4e089024b0590a9d9", func := "whisk/whisklaw10.CanonKnown", spec := "canonKnown", inPlace := ["internal/bytealg.IndexByteString", "internal/bytealg.IndexString", "internal/abi.NoEscape", "internal/bytealg.MakeNoZero"], unfollowed := true, recurses := true, named := ["unicode/utf8.first", "unicode/utf8.acceptRanges", "internal/bytealg.MaxLen"], apart := false, laid := [("unicode/utf8.acceptRanges", laid_unicode_utf8_acceptRanges), ("unicode/utf8.first", laid_unicode_utf8_first)], narrowed := true }
def CanonKnownUptoSaid : Prop := canonKnownUptoRow.holds Tryz.pinned (OpenSpec.upto canonKnownSpec)

/-- 'whisklaw08.FsKnown', WHERE WHAT IT READS IS OF BULK AT MOST 1048576: true; the input reads as it did. -/
def fsKnownUptoRow : OpenClaim := { program := "ytlpcehbfoogejaagreatdoor", sum := "2aedc8f544538ae6fa8d188210bd5b7b396230ed08ca96c4e089024b0590a9d9", func := "whisk/whisklaw08.FsKnown", spec := "fsKnown", inPlace := ["internal/bytealg.IndexByteString", "internal/bytealg.IndexString", "internal/abi.NoEscape", "internal/bytealg.MakeNoZero"], unfollowed := true, recurses := true, named := ["unicode/utf8.first", "unicode/utf8.acceptRanges", "internal/bytealg.MaxLen"], apart := false, laid := [("unicode/utf8.acceptRanges", laid_unicode_utf8_acceptRanges), ("unicode/utf8.first", laid_unicode_utf8_first)], narrowed := true }
def FsKnownUptoSaid : Prop := fsKnownUptoRow.holds Tryz.pinned (OpenSpec.upto fsKnownSpec)

end Rows
end Go.Proofs.YtlpcehbfoogejaaGreatDoor

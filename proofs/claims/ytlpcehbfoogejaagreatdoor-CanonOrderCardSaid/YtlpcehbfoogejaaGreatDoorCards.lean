/-
  DERIVED. GIVEN WITH THE SEED: THE CARDS: each row of YtlpcehbfoogejaaGreatDoorRows.lean that lists a variable, with what it lists TIED to the program's text (the seventh form; the later family's looks); each row that meets fmt, with fmt's text TOLD by the authors' own Lean function (tested against real Go, not proved from fmt's source: count such statements apart). THE CARD IS WHAT COUNTS. Prove the row's statement (the work); the ties are given (YtlpcehbfoogejaaGreatDoorTie.lean); close each card by the builder's one call (the guide's Derived/Test/ToyasCard.lean, 'card_holds'). Laid BY PROGRAM, IN A SANDBOX (cutbox-door.mjs). By AI agents, Wed Nov 11 2026. No macro, syntax, notation, axiom, sorry.
-/
import Derived.Test.YtlpcehbfoogejaaGreatDoorRows
import GoSem.ClaimSeven
namespace Go.Proofs.YtlpcehbfoogejaaGreatDoor
namespace Rows

/-- THE TIED CARD OF 'whisklaw08.FsLaid'. -/
def fsLaidCard : Claim7 := { stood := { row := fsLaidRow, standIns := [], harness := (true, "fe80142cea62d3e41f231017923f17761ccb10126790fe55f88cf42f85c35241"), looks := false }, kinds := [], alts := [], laidByText := true, laidKinds := [.data, .pinned], laidTests := true, laidLooks := .later }
def FsLaidCardSaid : Prop := Claim7.holds Tryz.pinned (.plain (OpenSpec.ofChange fsLaidSpec)) fsLaidCard

/-- THE TIED CARD OF 'whisklaw08.FsQuota'. -/
def fsQuotaCard : Claim7 := { stood := { row := fsQuotaRow, standIns := [], harness := (true, "fe80142cea62d3e41f231017923f17761ccb10126790fe55f88cf42f85c35241"), looks := false }, kinds := [], alts := [], laidByText := true, laidKinds := [.data, .pinned], laidTests := true, laidLooks := .later }
def FsQuotaCardSaid : Prop := Claim7.holds Tryz.pinned (.plain (OpenSpec.ofChange fsQuotaSpec)) fsQuotaCard

/-- THE TIED CARD OF 'whisklaw10.CanonModes'. -/
def canonModesCard : Claim7 := { stood := { row := canonModesRow, standIns := [], harness := (true, "fe80142cea62d3e41f231017923f17761ccb10126790fe55f88cf42f85c35241"), looks := false }, kinds := [], alts := [], laidByText := true, laidKinds := [.data, .pinned], laidTests := true, laidLooks := .later }
def CanonModesCardSaid : Prop := Claim7.holds Tryz.pinned (.plain (OpenSpec.ofChange canonModesSpec)) canonModesCard

/-- THE TIED CARD OF 'whisklaw10.CanonBack'. -/
def canonBackCard : Claim7 := { stood := { row := canonBackRow, standIns := [], harness := (true, "fe80142cea62d3e41f231017923f17761ccb10126790fe55f88cf42f85c35241"), looks := false }, kinds := [], alts := [], laidByText := true, laidKinds := [.data, .pinned], laidTests := true, laidLooks := .later }
def CanonBackCardSaid : Prop := Claim7.holds Tryz.pinned (.plain (OpenSpec.ofChange canonBackSpec)) canonBackCard

/-- THE TIED CARD OF 'whisklaw10.CanonParts'. -/
def canonPartsCard : Claim7 := { stood := { row := canonPartsRow, standIns := [], harness := (true, "fe80142cea62d3e41f231017923f17761ccb10126790fe55f88cf42f85c35241"), looks := false }, kinds := [], alts := [], laidByText := true, laidKinds := [.data, .pinned], laidTests := true, laidLooks := .later }
def CanonPartsCardSaid : Prop := Claim7.holds Tryz.pinned (.plain (OpenSpec.ofChange canonPartsSpec)) canonPartsCard

/-- THE TIED CARD OF 'whisklaw08.FsBack'. -/
def fsBackCard : Claim7 := { stood := { row := fsBackRow, standIns := [], harness := (true, "fe80142cea62d3e41f231017923f17761ccb10126790fe55f88cf42f85c35241"), looks := false }, kinds := [], alts := [], laidByText := true, laidKinds := [.data, .pinned], laidTests := true, laidLooks := .later }
def FsBackCardSaid : Prop := Claim7.holds Tryz.pinned (.plain (OpenSpec.ofChange fsBackSpec)) fsBackCard

/-- THE TIED CARD OF 'whisklaw10.CanonOrder'. -/
def canonOrderCard : Claim7 := { stood := { row := canonOrderRow, standIns := [], harness := (true, "fe80142cea62d3e41f231017923f17761ccb10126790fe55f88cf42f85c35241"), looks := false }, kinds := [], alts := [], laidByText := true, laidKinds := [.data, .pinned], laidTests := true, laidLooks := .later }
def CanonOrderCardSaid : Prop := Claim7.holds Tryz.pinned (.plain (OpenSpec.ofChange canonOrderSpec)) canonOrderCard

/-- THE TIED CARD OF 'whisklaw10.CanonIs'. -/
def canonIsCard : Claim7 := { stood := { row := canonIsRow, standIns := [], harness := (true, "fe80142cea62d3e41f231017923f17761ccb10126790fe55f88cf42f85c35241"), looks := false }, kinds := [], alts := [], laidByText := true, laidKinds := [.data, .pinned], laidTests := true, laidLooks := .later }
def CanonIsCardSaid : Prop := Claim7.holds Tryz.pinned (.plain (OpenSpec.ofChange canonIsSpec)) canonIsCard

/-- THE TIED CARD OF 'whisklaw10.CanonKnown'. -/
def canonKnownCard : Claim7 := { stood := { row := canonKnownRow, standIns := [], harness := (true, "fe80142cea62d3e41f231017923f17761ccb10126790fe55f88cf42f85c35241"), looks := false }, kinds := [], alts := [], laidByText := true, laidKinds := [.data, .pinned], laidTests := true, laidLooks := .later }
def CanonKnownCardSaid : Prop := Claim7.holds Tryz.pinned (.plain (OpenSpec.ofChange canonKnownSpec)) canonKnownCard

/-- THE TIED CARD OF 'whisklaw08.FsKnown'. -/
def fsKnownCard : Claim7 := { stood := { row := fsKnownRow, standIns := [], harness := (true, "fe80142cea62d3e41f231017923f17761ccb10126790fe55f88cf42f85c35241"), looks := false }, kinds := [], alts := [], laidByText := true, laidKinds := [.data, .pinned], laidTests := true, laidLooks := .later }
def FsKnownCardSaid : Prop := Claim7.holds Tryz.pinned (.plain (OpenSpec.ofChange fsKnownSpec)) fsKnownCard

/-- THE SECOND FORM's CARD OF 'whisklaw08.FsLaid'. -/
def fsLaidUptoCard : Claim7 := { stood := { row := fsLaidUptoRow, standIns := [], harness := (true, "fe80142cea62d3e41f231017923f17761ccb10126790fe55f88cf42f85c35241"), looks := false }, kinds := [], alts := [], laidByText := true, laidKinds := [.data, .pinned], laidTests := true, laidLooks := .later }
def FsLaidUptoCardSaid : Prop := Claim7.holds Tryz.pinned (.plain (OpenSpec.upto fsLaidSpec)) fsLaidUptoCard

/-- THE SECOND FORM's CARD OF 'whisklaw08.FsQuota'. -/
def fsQuotaUptoCard : Claim7 := { stood := { row := fsQuotaUptoRow, standIns := [], harness := (true, "fe80142cea62d3e41f231017923f17761ccb10126790fe55f88cf42f85c35241"), looks := false }, kinds := [], alts := [], laidByText := true, laidKinds := [.data, .pinned], laidTests := true, laidLooks := .later }
def FsQuotaUptoCardSaid : Prop := Claim7.holds Tryz.pinned (.plain (OpenSpec.upto fsQuotaSpec)) fsQuotaUptoCard

/-- THE SECOND FORM's CARD OF 'whisklaw10.CanonModes'. -/
def canonModesUptoCard : Claim7 := { stood := { row := canonModesUptoRow, standIns := [], harness := (true, "fe80142cea62d3e41f231017923f17761ccb10126790fe55f88cf42f85c35241"), looks := false }, kinds := [], alts := [], laidByText := true, laidKinds := [.data, .pinned], laidTests := true, laidLooks := .later }
def CanonModesUptoCardSaid : Prop := Claim7.holds Tryz.pinned (.plain (OpenSpec.upto canonModesSpec)) canonModesUptoCard

/-- THE SECOND FORM's CARD OF 'whisklaw10.CanonBack'. -/
def canonBackUptoCard : Claim7 := { stood := { row := canonBackUptoRow, standIns := [], harness := (true, "fe80142cea62d3e41f231017923f17761ccb10126790fe55f88cf42f85c35241"), looks := false }, kinds := [], alts := [], laidByText := true, laidKinds := [.data, .pinned], laidTests := true, laidLooks := .later }
def CanonBackUptoCardSaid : Prop := Claim7.holds Tryz.pinned (.plain (OpenSpec.upto canonBackSpec)) canonBackUptoCard

/-- THE SECOND FORM's CARD OF 'whisklaw10.CanonParts'. -/
def canonPartsUptoCard : Claim7 := { stood := { row := canonPartsUptoRow, standIns := [], harness := (true, "fe80142cea62d3e41f231017923f17761ccb10126790fe55f88cf42f85c35241"), looks := false }, kinds := [], alts := [], laidByText := true, laidKinds := [.data, .pinned], laidTests := true, laidLooks := .later }
def CanonPartsUptoCardSaid : Prop := Claim7.holds Tryz.pinned (.plain (OpenSpec.upto canonPartsSpec)) canonPartsUptoCard

/-- THE SECOND FORM's CARD OF 'whisklaw08.FsBack'. -/
def fsBackUptoCard : Claim7 := { stood := { row := fsBackUptoRow, standIns := [], harness := (true, "fe80142cea62d3e41f231017923f17761ccb10126790fe55f88cf42f85c35241"), looks := false }, kinds := [], alts := [], laidByText := true, laidKinds := [.data, .pinned], laidTests := true, laidLooks := .later }
def FsBackUptoCardSaid : Prop := Claim7.holds Tryz.pinned (.plain (OpenSpec.upto fsBackSpec)) fsBackUptoCard

/-- THE SECOND FORM's CARD OF 'whisklaw10.CanonOrder'. -/
def canonOrderUptoCard : Claim7 := { stood := { row := canonOrderUptoRow, standIns := [], harness := (true, "fe80142cea62d3e41f231017923f17761ccb10126790fe55f88cf42f85c35241"), looks := false }, kinds := [], alts := [], laidByText := true, laidKinds := [.data, .pinned], laidTests := true, laidLooks := .later }
def CanonOrderUptoCardSaid : Prop := Claim7.holds Tryz.pinned (.plain (OpenSpec.upto canonOrderSpec)) canonOrderUptoCard

/-- THE SECOND FORM's CARD OF 'whisklaw10.CanonIs'. -/
def canonIsUptoCard : Claim7 := { stood := { row := canonIsUptoRow, standIns := [], harness := (true, "fe80142cea62d3e41f231017923f17761ccb10126790fe55f88cf42f85c35241"), looks := false }, kinds := [], alts := [], laidByText := true, laidKinds := [.data, .pinned], laidTests := true, laidLooks := .later }
def CanonIsUptoCardSaid : Prop := Claim7.holds Tryz.pinned (.plain (OpenSpec.upto canonIsSpec)) canonIsUptoCard

/-- THE SECOND FORM's CARD OF 'whisklaw10.CanonKnown'. -/
def canonKnownUptoCard : Claim7 := { stood := { row := canonKnownUptoRow, standIns := [], harness := (true, "fe80142cea62d3e41f231017923f17761ccb10126790fe55f88cf42f85c35241"), looks := false }, kinds := [], alts := [], laidByText := true, laidKinds := [.data, .pinned], laidTests := true, laidLooks := .later }
def CanonKnownUptoCardSaid : Prop := Claim7.holds Tryz.pinned (.plain (OpenSpec.upto canonKnownSpec)) canonKnownUptoCard

/-- THE SECOND FORM's CARD OF 'whisklaw08.FsKnown'. -/
def fsKnownUptoCard : Claim7 := { stood := { row := fsKnownUptoRow, standIns := [], harness := (true, "fe80142cea62d3e41f231017923f17761ccb10126790fe55f88cf42f85c35241"), looks := false }, kinds := [], alts := [], laidByText := true, laidKinds := [.data, .pinned], laidTests := true, laidLooks := .later }
def FsKnownUptoCardSaid : Prop := Claim7.holds Tryz.pinned (.plain (OpenSpec.upto fsKnownSpec)) fsKnownUptoCard
end Rows
end Go.Proofs.YtlpcehbfoogejaaGreatDoor

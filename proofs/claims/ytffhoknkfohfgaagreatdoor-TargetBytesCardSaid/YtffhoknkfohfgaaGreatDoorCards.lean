/-
  DERIVED. GIVEN WITH THE SEED: THE CARDS: each row of YtffhoknkfohfgaaGreatDoorRows.lean that lists a variable, with what it lists TIED to the program's text (the seventh form; the later family's looks); each row that meets fmt, with fmt's text TOLD by the authors' own Lean function (tested against real Go, not proved from fmt's source: count such statements apart). THE CARD IS WHAT COUNTS. Prove the row's statement (the work); the ties are given (YtffhoknkfohfgaaGreatDoorTie.lean); close each card by the builder's one call (the guide's Derived/Test/ToyasCard.lean, 'card_holds'). Laid BY PROGRAM, IN A SANDBOX (cutbox-door.mjs). By AI agents, Wed Nov 11 2026. No macro, syntax, notation, axiom, sorry.
-/
import Derived.Test.YtffhoknkfohfgaaGreatDoorRows
import GoSem.ClaimSeven
namespace Go.Proofs.YtffhoknkfohfgaaGreatDoor
namespace Rows

/-- THE TIED CARD OF 'stilelaw16.TargetRights'. -/
def targetRightsCard : Claim7 := { stood := { row := targetRightsRow, standIns := [], harness := (true, "9352e2d33618ac29eb23a5b0a24d054b595c0a590031952db4f64a60adaaac49"), looks := false }, kinds := [], alts := [], laidByText := true, laidKinds := [.data, .data, .data, .data, .pinned], laidTests := true, laidLooks := .later }
def TargetRightsCardSaid : Prop := Claim7.holds Tryz.pinned (.plain (OpenSpec.ofChange targetRightsSpec)) targetRightsCard

/-- THE TIED CARD OF 'stilelaw16.TargetPrints'. -/
def targetPrintsCard : Claim7 := { stood := { row := targetPrintsRow, standIns := [], harness := (true, "9352e2d33618ac29eb23a5b0a24d054b595c0a590031952db4f64a60adaaac49"), looks := false }, kinds := [], alts := [], laidByText := true, laidKinds := [.data, .data, .data, .data, .pinned], laidTests := true, laidLooks := .later }
def TargetPrintsCardSaid : Prop := Claim7.holds Tryz.pinned (.plain (OpenSpec.ofChange targetPrintsSpec)) targetPrintsCard

/-- THE TIED CARD OF 'stilelaw16.TargetBytes'. -/
def targetBytesCard : Claim7 := { stood := { row := targetBytesRow, standIns := [], harness := (true, "9352e2d33618ac29eb23a5b0a24d054b595c0a590031952db4f64a60adaaac49"), looks := false }, kinds := [], alts := [], laidByText := true, laidKinds := [.data, .data, .data, .data, .pinned], laidTests := true, laidLooks := .later }
def TargetBytesCardSaid : Prop := Claim7.holds Tryz.pinned (.plain (OpenSpec.ofChange targetBytesSpec)) targetBytesCard

/-- THE TIED CARD OF 'stilelaw16.TargetBack'. -/
def targetBackCard : Claim7 := { stood := { row := targetBackRow, standIns := [], harness := (true, "9352e2d33618ac29eb23a5b0a24d054b595c0a590031952db4f64a60adaaac49"), looks := false }, kinds := [], alts := [], laidByText := true, laidKinds := [.data, .data, .data, .data, .pinned], laidTests := true, laidLooks := .later }
def TargetBackCardSaid : Prop := Claim7.holds Tryz.pinned (.plain (OpenSpec.ofChange targetBackSpec)) targetBackCard

/-- THE SECOND FORM's CARD OF 'stilelaw16.TargetRights'. -/
def targetRightsUptoCard : Claim7 := { stood := { row := targetRightsUptoRow, standIns := [], harness := (true, "9352e2d33618ac29eb23a5b0a24d054b595c0a590031952db4f64a60adaaac49"), looks := false }, kinds := [], alts := [], laidByText := true, laidKinds := [.data, .data, .data, .data, .pinned], laidTests := true, laidLooks := .later }
def TargetRightsUptoCardSaid : Prop := Claim7.holds Tryz.pinned (.plain (OpenSpec.upto targetRightsSpec)) targetRightsUptoCard

/-- THE SECOND FORM's CARD OF 'stilelaw16.TargetPrints'. -/
def targetPrintsUptoCard : Claim7 := { stood := { row := targetPrintsUptoRow, standIns := [], harness := (true, "9352e2d33618ac29eb23a5b0a24d054b595c0a590031952db4f64a60adaaac49"), looks := false }, kinds := [], alts := [], laidByText := true, laidKinds := [.data, .data, .data, .data, .pinned], laidTests := true, laidLooks := .later }
def TargetPrintsUptoCardSaid : Prop := Claim7.holds Tryz.pinned (.plain (OpenSpec.upto targetPrintsSpec)) targetPrintsUptoCard

/-- THE SECOND FORM's CARD OF 'stilelaw16.TargetBytes'. -/
def targetBytesUptoCard : Claim7 := { stood := { row := targetBytesUptoRow, standIns := [], harness := (true, "9352e2d33618ac29eb23a5b0a24d054b595c0a590031952db4f64a60adaaac49"), looks := false }, kinds := [], alts := [], laidByText := true, laidKinds := [.data, .data, .data, .data, .pinned], laidTests := true, laidLooks := .later }
def TargetBytesUptoCardSaid : Prop := Claim7.holds Tryz.pinned (.plain (OpenSpec.upto targetBytesSpec)) targetBytesUptoCard

/-- THE SECOND FORM's CARD OF 'stilelaw16.TargetBack'. -/
def targetBackUptoCard : Claim7 := { stood := { row := targetBackUptoRow, standIns := [], harness := (true, "9352e2d33618ac29eb23a5b0a24d054b595c0a590031952db4f64a60adaaac49"), looks := false }, kinds := [], alts := [], laidByText := true, laidKinds := [.data, .data, .data, .data, .pinned], laidTests := true, laidLooks := .later }
def TargetBackUptoCardSaid : Prop := Claim7.holds Tryz.pinned (.plain (OpenSpec.upto targetBackSpec)) targetBackUptoCard
end Rows
end Go.Proofs.YtffhoknkfohfgaaGreatDoor

/-
  DERIVED. GIVEN WITH THE SEED: THE CARDS: each row of YtbflekglkkdipaaGreatDoorRows.lean that lists a variable, with what it lists TIED to the program's text (the seventh form; the later family's looks); each row that meets fmt, with fmt's text TOLD by the authors' own Lean function (tested against real Go, not proved from fmt's source: count such statements apart). THE CARD IS WHAT COUNTS. Prove the row's statement (the work); the ties are given (YtbflekglkkdipaaGreatDoorTie.lean); close each card by the builder's one call (the guide's Derived/Test/ToyasCard.lean, 'card_holds'). Laid BY PROGRAM, IN A SANDBOX (cutbox-door.mjs). By AI agents, Wed Nov 11 2026. No macro, syntax, notation, axiom, sorry.
-/
import Derived.Test.YtbflekglkkdipaaGreatDoorRows
import GoSem.ClaimSeven
namespace Go.Proofs.YtbflekglkkdipaaGreatDoor
namespace Rows

/-- THE TIED CARD OF 'stilelaw26.SchedOwn'. -/
def schedOwnCard : Claim7 := { stood := { row := schedOwnRow, standIns := [], harness := (true, "270b47a8c38b9347deac26a9154cf095d4f58ca8b383a25f23056e2502b34333"), looks := true }, kinds := [], alts := [], laidByText := true, laidKinds := [.data, .data, .data, .data, .pinned], laidTests := true, laidLooks := .later }
def SchedOwnCardSaid : Prop := Claim7.holds Tryz.pinned (.plain (OpenSpec.ofChange schedOwnSpec)) schedOwnCard

/-- THE SECOND FORM's CARD OF 'stilelaw26.SchedOwn'. -/
def schedOwnUptoCard : Claim7 := { stood := { row := schedOwnUptoRow, standIns := [], harness := (true, "270b47a8c38b9347deac26a9154cf095d4f58ca8b383a25f23056e2502b34333"), looks := true }, kinds := [], alts := [], laidByText := true, laidKinds := [.data, .data, .data, .data, .pinned], laidTests := true, laidLooks := .later }
def SchedOwnUptoCardSaid : Prop := Claim7.holds Tryz.pinned (.plain (OpenSpec.upto schedOwnSpec)) schedOwnUptoCard
end Rows
end Go.Proofs.YtbflekglkkdipaaGreatDoor

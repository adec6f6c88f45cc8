/-
  DERIVED. GIVEN WITH THE SEED: THE CARDS: each row of YtapmdfcmpglieaaGreatDoorRows.lean that lists a variable, with what it lists TIED to the program's text (the seventh form; the later family's looks); each row that meets fmt, with fmt's text TOLD by the authors' own Lean function (tested against real Go, not proved from fmt's source: count such statements apart). THE CARD IS WHAT COUNTS. Prove the row's statement (the work); the ties are given (YtapmdfcmpglieaaGreatDoorTie.lean); close each card by the builder's one call (the guide's Derived/Test/ToyasCard.lean, 'card_holds'). Laid BY PROGRAM, IN A SANDBOX (cutbox-door.mjs). By AI agents, Wed Nov 11 2026. No macro, syntax, notation, axiom, sorry.
-/
import Derived.Test.YtapmdfcmpglieaaGreatDoorRows
import GoSem.ClaimSeven
namespace Go.Proofs.YtapmdfcmpglieaaGreatDoor
namespace Rows

/-- THE TIED CARD OF 'stiletop.TopFences'. -/
def topFencesCard : Claim7 := { stood := { row := topFencesRow, standIns := [], harness := (true, "2de3974f91c77e4dbbe09a997332f32fef81bad827770583efc6712041aa79cb"), looks := true }, kinds := [], alts := [], laidByText := true, laidKinds := [.data, .data], laidTests := true, laidLooks := .later }
def TopFencesCardSaid : Prop := Claim7.holds Tryz.pinned (.plain (OpenSpec.ofChange topFencesSpec)) topFencesCard

/-- THE SECOND FORM's CARD OF 'stiletop.TopFences'. -/
def topFencesUptoCard : Claim7 := { stood := { row := topFencesUptoRow, standIns := [], harness := (true, "2de3974f91c77e4dbbe09a997332f32fef81bad827770583efc6712041aa79cb"), looks := true }, kinds := [], alts := [], laidByText := true, laidKinds := [.data, .data], laidTests := true, laidLooks := .later }
def TopFencesUptoCardSaid : Prop := Claim7.holds Tryz.pinned (.plain (OpenSpec.upto topFencesSpec)) topFencesUptoCard
end Rows
end Go.Proofs.YtapmdfcmpglieaaGreatDoor

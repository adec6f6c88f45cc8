/-
  DERIVED. GIVEN WITH THE SEED: THE CARDS: each row of YtioafhkkkmfkdaaGreatDoorRows.lean that lists a variable, with what it lists TIED to the program's text (the seventh form; the later family's looks); each row that meets fmt, with fmt's text TOLD by the authors' own Lean function (tested against real Go, not proved from fmt's source: count such statements apart). THE CARD IS WHAT COUNTS. Prove the row's statement (the work); the ties are given (YtioafhkkkmfkdaaGreatDoorTie.lean); close each card by the builder's one call (the guide's Derived/Test/ToyasCard.lean, 'card_holds'). Laid BY PROGRAM, IN A SANDBOX (cutbox-door.mjs). By AI agents, Wed Nov 11 2026. No macro, syntax, notation, axiom, sorry.
-/
import Derived.Test.YtioafhkkkmfkdaaGreatDoorRows
import GoSem.ClaimSeven
namespace Go.Proofs.YtioafhkkkmfkdaaGreatDoor
namespace Rows

/-- THE TIED CARD OF 'stilelaw26.SchedTurns'. -/
def schedTurnsCard : Claim7 := { stood := { row := schedTurnsRow, standIns := [], harness := (true, "b8aac7724603b0fe129e72e3f75379359994e3c56bbd27fccdd3b09725aa8395"), looks := true }, kinds := [], alts := [], laidByText := true, laidKinds := [.data, .data, .data, .data, .pinned], laidTests := true, laidLooks := .later }
def SchedTurnsCardSaid : Prop := Claim7.holds Tryz.pinned (.plain (OpenSpec.ofChange schedTurnsSpec)) schedTurnsCard

/-- THE TIED CARD OF 'stilelaw26.SchedTimes'. -/
def schedTimesCard : Claim7 := { stood := { row := schedTimesRow, standIns := [], harness := (true, "b8aac7724603b0fe129e72e3f75379359994e3c56bbd27fccdd3b09725aa8395"), looks := true }, kinds := [], alts := [], laidByText := true, laidKinds := [.data, .data, .data, .data, .pinned], laidTests := true, laidLooks := .later }
def SchedTimesCardSaid : Prop := Claim7.holds Tryz.pinned (.plain (OpenSpec.ofChange schedTimesSpec)) schedTimesCard

/-- THE TIED CARD OF 'stilelaw26.SchedBack'. -/
def schedBackCard : Claim7 := { stood := { row := schedBackRow, standIns := [], harness := (true, "b8aac7724603b0fe129e72e3f75379359994e3c56bbd27fccdd3b09725aa8395"), looks := true }, kinds := [], alts := [], laidByText := true, laidKinds := [.data, .data, .data, .data, .pinned], laidTests := true, laidLooks := .later }
def SchedBackCardSaid : Prop := Claim7.holds Tryz.pinned (.plain (OpenSpec.ofChange schedBackSpec)) schedBackCard

/-- THE TIED CARD OF 'stilelaw26.SchedPaced'. -/
def schedPacedCard : Claim7 := { stood := { row := schedPacedRow, standIns := [], harness := (true, "b8aac7724603b0fe129e72e3f75379359994e3c56bbd27fccdd3b09725aa8395"), looks := true }, kinds := [], alts := [], laidByText := true, laidKinds := [.data, .data, .data, .data, .pinned], laidTests := true, laidLooks := .later }
def SchedPacedCardSaid : Prop := Claim7.holds Tryz.pinned (.plain (OpenSpec.ofChange schedPacedSpec)) schedPacedCard

/-- THE TIED CARD OF 'stilelaw26.SchedRandoms'. -/
def schedRandomsCard : Claim7 := { stood := { row := schedRandomsRow, standIns := [], harness := (true, "b8aac7724603b0fe129e72e3f75379359994e3c56bbd27fccdd3b09725aa8395"), looks := true }, kinds := [], alts := [], laidByText := true, laidKinds := [.data, .data, .data, .data, .pinned], laidTests := true, laidLooks := .later }
def SchedRandomsCardSaid : Prop := Claim7.holds Tryz.pinned (.plain (OpenSpec.ofChange schedRandomsSpec)) schedRandomsCard

/-- THE TIED CARD OF 'stilelaw26.SchedSeeds'. -/
def schedSeedsCard : Claim7 := { stood := { row := schedSeedsRow, standIns := [], harness := (true, "b8aac7724603b0fe129e72e3f75379359994e3c56bbd27fccdd3b09725aa8395"), looks := true }, kinds := [], alts := [], laidByText := true, laidKinds := [.data, .data, .data, .data, .pinned], laidTests := true, laidLooks := .later }
def SchedSeedsCardSaid : Prop := Claim7.holds Tryz.pinned (.plain (OpenSpec.ofChange schedSeedsSpec)) schedSeedsCard

/-- THE TIED CARD OF 'stilelaw26.SchedOwn'. -/
def schedOwnCard : Claim7 := { stood := { row := schedOwnRow, standIns := [], harness := (true, "b8aac7724603b0fe129e72e3f75379359994e3c56bbd27fccdd3b09725aa8395"), looks := true }, kinds := [], alts := [], laidByText := true, laidKinds := [.data, .data, .data, .data, .pinned], laidTests := true, laidLooks := .later }
def SchedOwnCardSaid : Prop := Claim7.holds Tryz.pinned (.plain (OpenSpec.ofChange schedOwnSpec)) schedOwnCard

/-- THE TIED CARD OF 'stilelaw26.SchedShrinks'. -/
def schedShrinksCard : Claim7 := { stood := { row := schedShrinksRow, standIns := [], harness := (true, "b8aac7724603b0fe129e72e3f75379359994e3c56bbd27fccdd3b09725aa8395"), looks := true }, kinds := [], alts := [], laidByText := true, laidKinds := [.data, .data, .data, .data, .pinned], laidTests := true, laidLooks := .later }
def SchedShrinksCardSaid : Prop := Claim7.holds Tryz.pinned (.plain (OpenSpec.ofChange schedShrinksSpec)) schedShrinksCard

/-- THE TIED CARD OF 'stilelaw26.SchedLeast'. -/
def schedLeastCard : Claim7 := { stood := { row := schedLeastRow, standIns := [], harness := (true, "b8aac7724603b0fe129e72e3f75379359994e3c56bbd27fccdd3b09725aa8395"), looks := true }, kinds := [], alts := [], laidByText := true, laidKinds := [.data, .data, .data, .data, .pinned], laidTests := true, laidLooks := .later }
def SchedLeastCardSaid : Prop := Claim7.holds Tryz.pinned (.plain (OpenSpec.ofChange schedLeastSpec)) schedLeastCard

/-- THE SECOND FORM's CARD OF 'stilelaw26.SchedTurns'. -/
def schedTurnsUptoCard : Claim7 := { stood := { row := schedTurnsUptoRow, standIns := [], harness := (true, "b8aac7724603b0fe129e72e3f75379359994e3c56bbd27fccdd3b09725aa8395"), looks := true }, kinds := [], alts := [], laidByText := true, laidKinds := [.data, .data, .data, .data, .pinned], laidTests := true, laidLooks := .later }
def SchedTurnsUptoCardSaid : Prop := Claim7.holds Tryz.pinned (.plain (OpenSpec.upto schedTurnsSpec)) schedTurnsUptoCard

/-- THE SECOND FORM's CARD OF 'stilelaw26.SchedTimes'. -/
def schedTimesUptoCard : Claim7 := { stood := { row := schedTimesUptoRow, standIns := [], harness := (true, "b8aac7724603b0fe129e72e3f75379359994e3c56bbd27fccdd3b09725aa8395"), looks := true }, kinds := [], alts := [], laidByText := true, laidKinds := [.data, .data, .data, .data, .pinned], laidTests := true, laidLooks := .later }
def SchedTimesUptoCardSaid : Prop := Claim7.holds Tryz.pinned (.plain (OpenSpec.upto schedTimesSpec)) schedTimesUptoCard

/-- THE SECOND FORM's CARD OF 'stilelaw26.SchedBack'. -/
def schedBackUptoCard : Claim7 := { stood := { row := schedBackUptoRow, standIns := [], harness := (true, "b8aac7724603b0fe129e72e3f75379359994e3c56bbd27fccdd3b09725aa8395"), looks := true }, kinds := [], alts := [], laidByText := true, laidKinds := [.data, .data, .data, .data, .pinned], laidTests := true, laidLooks := .later }
def SchedBackUptoCardSaid : Prop := Claim7.holds Tryz.pinned (.plain (OpenSpec.upto schedBackSpec)) schedBackUptoCard

/-- THE SECOND FORM's CARD OF 'stilelaw26.SchedPaced'. -/
def schedPacedUptoCard : Claim7 := { stood := { row := schedPacedUptoRow, standIns := [], harness := (true, "b8aac7724603b0fe129e72e3f75379359994e3c56bbd27fccdd3b09725aa8395"), looks := true }, kinds := [], alts := [], laidByText := true, laidKinds := [.data, .data, .data, .data, .pinned], laidTests := true, laidLooks := .later }
def SchedPacedUptoCardSaid : Prop := Claim7.holds Tryz.pinned (.plain (OpenSpec.upto schedPacedSpec)) schedPacedUptoCard

/-- THE SECOND FORM's CARD OF 'stilelaw26.SchedRandoms'. -/
def schedRandomsUptoCard : Claim7 := { stood := { row := schedRandomsUptoRow, standIns := [], harness := (true, "b8aac7724603b0fe129e72e3f75379359994e3c56bbd27fccdd3b09725aa8395"), looks := true }, kinds := [], alts := [], laidByText := true, laidKinds := [.data, .data, .data, .data, .pinned], laidTests := true, laidLooks := .later }
def SchedRandomsUptoCardSaid : Prop := Claim7.holds Tryz.pinned (.plain (OpenSpec.upto schedRandomsSpec)) schedRandomsUptoCard

/-- THE SECOND FORM's CARD OF 'stilelaw26.SchedSeeds'. -/
def schedSeedsUptoCard : Claim7 := { stood := { row := schedSeedsUptoRow, standIns := [], harness := (true, "b8aac7724603b0fe129e72e3f75379359994e3c56bbd27fccdd3b09725aa8395"), looks := true }, kinds := [], alts := [], laidByText := true, laidKinds := [.data, .data, .data, .data, .pinned], laidTests := true, laidLooks := .later }
def SchedSeedsUptoCardSaid : Prop := Claim7.holds Tryz.pinned (.plain (OpenSpec.upto schedSeedsSpec)) schedSeedsUptoCard

/-- THE SECOND FORM's CARD OF 'stilelaw26.SchedOwn'. -/
def schedOwnUptoCard : Claim7 := { stood := { row := schedOwnUptoRow, standIns := [], harness := (true, "b8aac7724603b0fe129e72e3f75379359994e3c56bbd27fccdd3b09725aa8395"), looks := true }, kinds := [], alts := [], laidByText := true, laidKinds := [.data, .data, .data, .data, .pinned], laidTests := true, laidLooks := .later }
def SchedOwnUptoCardSaid : Prop := Claim7.holds Tryz.pinned (.plain (OpenSpec.upto schedOwnSpec)) schedOwnUptoCard

/-- THE SECOND FORM's CARD OF 'stilelaw26.SchedShrinks'. -/
def schedShrinksUptoCard : Claim7 := { stood := { row := schedShrinksUptoRow, standIns := [], harness := (true, "b8aac7724603b0fe129e72e3f75379359994e3c56bbd27fccdd3b09725aa8395"), looks := true }, kinds := [], alts := [], laidByText := true, laidKinds := [.data, .data, .data, .data, .pinned], laidTests := true, laidLooks := .later }
def SchedShrinksUptoCardSaid : Prop := Claim7.holds Tryz.pinned (.plain (OpenSpec.upto schedShrinksSpec)) schedShrinksUptoCard

/-- THE SECOND FORM's CARD OF 'stilelaw26.SchedLeast'. -/
def schedLeastUptoCard : Claim7 := { stood := { row := schedLeastUptoRow, standIns := [], harness := (true, "b8aac7724603b0fe129e72e3f75379359994e3c56bbd27fccdd3b09725aa8395"), looks := true }, kinds := [], alts := [], laidByText := true, laidKinds := [.data, .data, .data, .data, .pinned], laidTests := true, laidLooks := .later }
def SchedLeastUptoCardSaid : Prop := Claim7.holds Tryz.pinned (.plain (OpenSpec.upto schedLeastSpec)) schedLeastUptoCard
end Rows
end Go.Proofs.YtioafhkkkmfkdaaGreatDoor

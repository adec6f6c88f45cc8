/-
  DERIVED. GIVEN WITH THE SEED: THE CARDS: each row of YtkjjcldcfokigaaDoorRows.lean that lists a variable, with what it lists TIED to the program's text (the seventh form; the later family's looks); each row that meets fmt, with fmt's text TOLD by the authors' own Lean function (tested against real Go, not proved from fmt's source: count such statements apart). THE CARD IS WHAT COUNTS. Prove the row's statement (the work); the ties are given (YtkjjcldcfokigaaDoorTie.lean); close each card by the builder's one call (the guide's Derived/Test/ToyasCard.lean, 'card_holds'). Laid BY PROGRAM, IN A SANDBOX (cutbox-door.mjs). By AI agents, Wed Nov 11 2026. No macro, syntax, notation, axiom, sorry.
-/
import Derived.Test.YtkjjcldcfokigaaDoorRows
import GoSem.ClaimSeven
namespace Go.Proofs.YtkjjcldcfokigaaDoor
namespace Rows

/-- THE TIED CARD OF 'stilelaw01.WordsDoes'. -/
def wordsDoesCard : Claim7 := { stood := { row := wordsDoesRow, standIns := [], harness := (true, "98412c579b2bb1713622c84be152d82eeceaf770802f841f3f363174024ab72c"), looks := false }, kinds := [], alts := [], laidByText := true, laidKinds := [.data], laidTests := true, laidLooks := .later }
def WordsDoesCardSaid : Prop := Claim7.holds Tryd.pinned (.plain (OpenSpec.ofChange wordsDoesSpec)) wordsDoesCard

/-- THE TIED CARD OF 'stilelaw01.WordsTexts'. -/
def wordsTextsCard : Claim7 := { stood := { row := wordsTextsRow, standIns := [], harness := (true, "98412c579b2bb1713622c84be152d82eeceaf770802f841f3f363174024ab72c"), looks := false }, kinds := [], alts := [], laidByText := true, laidKinds := [.data], laidTests := true, laidLooks := .later }
def WordsTextsCardSaid : Prop := Claim7.holds Tryd.pinned (.plain (OpenSpec.ofChange wordsTextsSpec)) wordsTextsCard

/-- THE TIED CARD OF 'stilelaw01.WordsRing'. -/
def wordsRingCard : Claim7 := { stood := { row := wordsRingRow, standIns := [], harness := (true, "98412c579b2bb1713622c84be152d82eeceaf770802f841f3f363174024ab72c"), looks := false }, kinds := [], alts := [], laidByText := true, laidKinds := [.data], laidTests := true, laidLooks := .later }
def WordsRingCardSaid : Prop := Claim7.holds Tryd.pinned (.plain (OpenSpec.ofChange wordsRingSpec)) wordsRingCard

/-- THE TIED CARD OF 'stilelaw01.WordsOrder'. -/
def wordsOrderCard : Claim7 := { stood := { row := wordsOrderRow, standIns := [], harness := (true, "98412c579b2bb1713622c84be152d82eeceaf770802f841f3f363174024ab72c"), looks := false }, kinds := [], alts := [], laidByText := true, laidKinds := [.data], laidTests := true, laidLooks := .later }
def WordsOrderCardSaid : Prop := Claim7.holds Tryd.pinned (.plain (OpenSpec.ofChange wordsOrderSpec)) wordsOrderCard

/-- THE TIED CARD OF 'stilelaw01.WordsBits'. -/
def wordsBitsCard : Claim7 := { stood := { row := wordsBitsRow, standIns := [], harness := (true, "98412c579b2bb1713622c84be152d82eeceaf770802f841f3f363174024ab72c"), looks := false }, kinds := [], alts := [], laidByText := true, laidKinds := [.data], laidTests := true, laidLooks := .later }
def WordsBitsCardSaid : Prop := Claim7.holds Tryd.pinned (.plain (OpenSpec.ofChange wordsBitsSpec)) wordsBitsCard

/-- THE TIED CARD OF 'stilelaw01.WordsBack'. -/
def wordsBackCard : Claim7 := { stood := { row := wordsBackRow, standIns := [], harness := (true, "98412c579b2bb1713622c84be152d82eeceaf770802f841f3f363174024ab72c"), looks := false }, kinds := [], alts := [], laidByText := true, laidKinds := [.data], laidTests := true, laidLooks := .later }
def WordsBackCardSaid : Prop := Claim7.holds Tryd.pinned (.plain (OpenSpec.ofChange wordsBackSpec)) wordsBackCard

/-- THE TIED CARD OF 'stilelaw01.WordsSigns'. -/
def wordsSignsCard : Claim7 := { stood := { row := wordsSignsRow, standIns := [], harness := (true, "98412c579b2bb1713622c84be152d82eeceaf770802f841f3f363174024ab72c"), looks := false }, kinds := [], alts := [], laidByText := true, laidKinds := [.data], laidTests := true, laidLooks := .later }
def WordsSignsCardSaid : Prop := Claim7.holds Tryd.pinned (.plain (OpenSpec.ofChange wordsSignsSpec)) wordsSignsCard

/-- THE SECOND FORM's CARD OF 'stilelaw01.WordsDoes'. -/
def wordsDoesUptoCard : Claim7 := { stood := { row := wordsDoesUptoRow, standIns := [], harness := (true, "98412c579b2bb1713622c84be152d82eeceaf770802f841f3f363174024ab72c"), looks := false }, kinds := [], alts := [], laidByText := true, laidKinds := [.data], laidTests := true, laidLooks := .later }
def WordsDoesUptoCardSaid : Prop := Claim7.holds Tryd.pinned (.plain (OpenSpec.upto wordsDoesSpec)) wordsDoesUptoCard

/-- THE SECOND FORM's CARD OF 'stilelaw01.WordsTexts'. -/
def wordsTextsUptoCard : Claim7 := { stood := { row := wordsTextsUptoRow, standIns := [], harness := (true, "98412c579b2bb1713622c84be152d82eeceaf770802f841f3f363174024ab72c"), looks := false }, kinds := [], alts := [], laidByText := true, laidKinds := [.data], laidTests := true, laidLooks := .later }
def WordsTextsUptoCardSaid : Prop := Claim7.holds Tryd.pinned (.plain (OpenSpec.upto wordsTextsSpec)) wordsTextsUptoCard

/-- THE SECOND FORM's CARD OF 'stilelaw01.WordsRing'. -/
def wordsRingUptoCard : Claim7 := { stood := { row := wordsRingUptoRow, standIns := [], harness := (true, "98412c579b2bb1713622c84be152d82eeceaf770802f841f3f363174024ab72c"), looks := false }, kinds := [], alts := [], laidByText := true, laidKinds := [.data], laidTests := true, laidLooks := .later }
def WordsRingUptoCardSaid : Prop := Claim7.holds Tryd.pinned (.plain (OpenSpec.upto wordsRingSpec)) wordsRingUptoCard

/-- THE SECOND FORM's CARD OF 'stilelaw01.WordsOrder'. -/
def wordsOrderUptoCard : Claim7 := { stood := { row := wordsOrderUptoRow, standIns := [], harness := (true, "98412c579b2bb1713622c84be152d82eeceaf770802f841f3f363174024ab72c"), looks := false }, kinds := [], alts := [], laidByText := true, laidKinds := [.data], laidTests := true, laidLooks := .later }
def WordsOrderUptoCardSaid : Prop := Claim7.holds Tryd.pinned (.plain (OpenSpec.upto wordsOrderSpec)) wordsOrderUptoCard

/-- THE SECOND FORM's CARD OF 'stilelaw01.WordsBits'. -/
def wordsBitsUptoCard : Claim7 := { stood := { row := wordsBitsUptoRow, standIns := [], harness := (true, "98412c579b2bb1713622c84be152d82eeceaf770802f841f3f363174024ab72c"), looks := false }, kinds := [], alts := [], laidByText := true, laidKinds := [.data], laidTests := true, laidLooks := .later }
def WordsBitsUptoCardSaid : Prop := Claim7.holds Tryd.pinned (.plain (OpenSpec.upto wordsBitsSpec)) wordsBitsUptoCard

/-- THE SECOND FORM's CARD OF 'stilelaw01.WordsBack'. -/
def wordsBackUptoCard : Claim7 := { stood := { row := wordsBackUptoRow, standIns := [], harness := (true, "98412c579b2bb1713622c84be152d82eeceaf770802f841f3f363174024ab72c"), looks := false }, kinds := [], alts := [], laidByText := true, laidKinds := [.data], laidTests := true, laidLooks := .later }
def WordsBackUptoCardSaid : Prop := Claim7.holds Tryd.pinned (.plain (OpenSpec.upto wordsBackSpec)) wordsBackUptoCard

/-- THE SECOND FORM's CARD OF 'stilelaw01.WordsSigns'. -/
def wordsSignsUptoCard : Claim7 := { stood := { row := wordsSignsUptoRow, standIns := [], harness := (true, "98412c579b2bb1713622c84be152d82eeceaf770802f841f3f363174024ab72c"), looks := false }, kinds := [], alts := [], laidByText := true, laidKinds := [.data], laidTests := true, laidLooks := .later }
def WordsSignsUptoCardSaid : Prop := Claim7.holds Tryd.pinned (.plain (OpenSpec.upto wordsSignsSpec)) wordsSignsUptoCard
end Rows
end Go.Proofs.YtkjjcldcfokigaaDoor

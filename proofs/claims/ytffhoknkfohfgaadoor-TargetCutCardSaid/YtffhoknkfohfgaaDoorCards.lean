/-
  DERIVED. GIVEN WITH THE SEED: THE CARDS: each row of YtffhoknkfohfgaaDoorRows.lean that lists a variable, with what it lists TIED to the program's text (the seventh form; the later family's looks); each row that meets fmt, with fmt's text TOLD by the authors' own Lean function (tested against real Go, not proved from fmt's source: count such statements apart). THE CARD IS WHAT COUNTS. Prove the row's statement (the work); the ties are given (YtffhoknkfohfgaaDoorTie.lean); close each card by the builder's one call (the guide's Derived/Test/ToyasCard.lean, 'card_holds'). Laid BY PROGRAM, IN A SANDBOX (cutbox-door.mjs). By AI agents, Wed Nov 11 2026. No macro, syntax, notation, axiom, sorry.
-/
import Derived.Test.YtffhoknkfohfgaaDoorRows
import GoSem.ClaimSeven
namespace Go.Proofs.YtffhoknkfohfgaaDoor
namespace Rows

/-- THE TIED CARD OF 'stilelaw16.TargetOwn'. -/
def targetOwnCard : Claim7 := { stood := { row := targetOwnRow, standIns := [], harness := (true, "a840693be052b7df0588ab62c08090e8e3e7208039c45ee19bc5751d0c286cdd"), looks := false }, kinds := [], alts := [], laidByText := true, laidKinds := [.data, .data, .data, .data, .pinned], laidTests := true, laidLooks := .later }
def TargetOwnCardSaid : Prop := Claim7.holds Tryd.pinned (.plain (OpenSpec.ofChange targetOwnSpec)) targetOwnCard

/-- THE TIED CARD OF 'stilelaw16.TargetFlows'. -/
def targetFlowsCard : Claim7 := { stood := { row := targetFlowsRow, standIns := [], harness := (true, "a840693be052b7df0588ab62c08090e8e3e7208039c45ee19bc5751d0c286cdd"), looks := false }, kinds := [], alts := [], laidByText := true, laidKinds := [.data, .data, .data, .data, .pinned], laidTests := true, laidLooks := .later }
def TargetFlowsCardSaid : Prop := Claim7.holds Tryd.pinned (.plain (OpenSpec.ofChange targetFlowsSpec)) targetFlowsCard

/-- THE TIED CARD OF 'stilelaw16.TargetStays'. -/
def targetStaysCard : Claim7 := { stood := { row := targetStaysRow, standIns := [], harness := (true, "a840693be052b7df0588ab62c08090e8e3e7208039c45ee19bc5751d0c286cdd"), looks := false }, kinds := [], alts := [], laidByText := true, laidKinds := [.data, .data, .data, .data, .pinned], laidTests := true, laidLooks := .later }
def TargetStaysCardSaid : Prop := Claim7.holds Tryd.pinned (.plain (OpenSpec.ofChange targetStaysSpec)) targetStaysCard

/-- THE TIED CARD OF 'stilelaw16.TargetOne'. -/
def targetOneCard : Claim7 := { stood := { row := targetOneRow, standIns := [], harness := (true, "a840693be052b7df0588ab62c08090e8e3e7208039c45ee19bc5751d0c286cdd"), looks := false }, kinds := [], alts := [], laidByText := true, laidKinds := [.data, .data, .data, .data, .pinned], laidTests := true, laidLooks := .later }
def TargetOneCardSaid : Prop := Claim7.holds Tryd.pinned (.plain (OpenSpec.ofChange targetOneSpec)) targetOneCard

/-- THE TIED CARD OF 'stilelaw16.TargetCut'. -/
def targetCutCard : Claim7 := { stood := { row := targetCutRow, standIns := [], harness := (true, "a840693be052b7df0588ab62c08090e8e3e7208039c45ee19bc5751d0c286cdd"), looks := false }, kinds := [], alts := [], laidByText := true, laidKinds := [.data, .data, .data, .data, .pinned], laidTests := true, laidLooks := .later }
def TargetCutCardSaid : Prop := Claim7.holds Tryd.pinned (.plain (OpenSpec.ofChange targetCutSpec)) targetCutCard

/-- THE SECOND FORM's CARD OF 'stilelaw16.TargetOwn'. -/
def targetOwnUptoCard : Claim7 := { stood := { row := targetOwnUptoRow, standIns := [], harness := (true, "a840693be052b7df0588ab62c08090e8e3e7208039c45ee19bc5751d0c286cdd"), looks := false }, kinds := [], alts := [], laidByText := true, laidKinds := [.data, .data, .data, .data, .pinned], laidTests := true, laidLooks := .later }
def TargetOwnUptoCardSaid : Prop := Claim7.holds Tryd.pinned (.plain (OpenSpec.upto targetOwnSpec)) targetOwnUptoCard

/-- THE SECOND FORM's CARD OF 'stilelaw16.TargetFlows'. -/
def targetFlowsUptoCard : Claim7 := { stood := { row := targetFlowsUptoRow, standIns := [], harness := (true, "a840693be052b7df0588ab62c08090e8e3e7208039c45ee19bc5751d0c286cdd"), looks := false }, kinds := [], alts := [], laidByText := true, laidKinds := [.data, .data, .data, .data, .pinned], laidTests := true, laidLooks := .later }
def TargetFlowsUptoCardSaid : Prop := Claim7.holds Tryd.pinned (.plain (OpenSpec.upto targetFlowsSpec)) targetFlowsUptoCard

/-- THE SECOND FORM's CARD OF 'stilelaw16.TargetStays'. -/
def targetStaysUptoCard : Claim7 := { stood := { row := targetStaysUptoRow, standIns := [], harness := (true, "a840693be052b7df0588ab62c08090e8e3e7208039c45ee19bc5751d0c286cdd"), looks := false }, kinds := [], alts := [], laidByText := true, laidKinds := [.data, .data, .data, .data, .pinned], laidTests := true, laidLooks := .later }
def TargetStaysUptoCardSaid : Prop := Claim7.holds Tryd.pinned (.plain (OpenSpec.upto targetStaysSpec)) targetStaysUptoCard

/-- THE SECOND FORM's CARD OF 'stilelaw16.TargetOne'. -/
def targetOneUptoCard : Claim7 := { stood := { row := targetOneUptoRow, standIns := [], harness := (true, "a840693be052b7df0588ab62c08090e8e3e7208039c45ee19bc5751d0c286cdd"), looks := false }, kinds := [], alts := [], laidByText := true, laidKinds := [.data, .data, .data, .data, .pinned], laidTests := true, laidLooks := .later }
def TargetOneUptoCardSaid : Prop := Claim7.holds Tryd.pinned (.plain (OpenSpec.upto targetOneSpec)) targetOneUptoCard

/-- THE SECOND FORM's CARD OF 'stilelaw16.TargetCut'. -/
def targetCutUptoCard : Claim7 := { stood := { row := targetCutUptoRow, standIns := [], harness := (true, "a840693be052b7df0588ab62c08090e8e3e7208039c45ee19bc5751d0c286cdd"), looks := false }, kinds := [], alts := [], laidByText := true, laidKinds := [.data, .data, .data, .data, .pinned], laidTests := true, laidLooks := .later }
def TargetCutUptoCardSaid : Prop := Claim7.holds Tryd.pinned (.plain (OpenSpec.upto targetCutSpec)) targetCutUptoCard
end Rows
end Go.Proofs.YtffhoknkfohfgaaDoor

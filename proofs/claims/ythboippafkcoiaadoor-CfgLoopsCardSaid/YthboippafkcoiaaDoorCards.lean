/-
  DERIVED. GIVEN WITH THE SEED: THE CARDS: each row of YthboippafkcoiaaDoorRows.lean that lists a variable, with what it lists TIED to the program's text (the seventh form; the later family's looks); each row that meets fmt, with fmt's text TOLD by the authors' own Lean function (tested against real Go, not proved from fmt's source: count such statements apart). THE CARD IS WHAT COUNTS. Prove the row's statement (the work); the ties are given (YthboippafkcoiaaDoorTie.lean); close each card by the builder's one call (the guide's Derived/Test/ToyasCard.lean, 'card_holds'). Laid BY PROGRAM, IN A SANDBOX (cutbox-door.mjs). By AI agents, Wed Nov 11 2026. No macro, syntax, notation, axiom, sorry.
-/
import Derived.Test.YthboippafkcoiaaDoorRows
import GoSem.ClaimSeven
namespace Go.Proofs.YthboippafkcoiaaDoor
namespace Rows

/-- THE TIED CARD OF 'stilelaw06.CfgLoops'. -/
def cfgLoopsCard : Claim7 := { stood := { row := cfgLoopsRow, standIns := [], harness := (true, "ec5384882cf34f55c6832ae3ccdae38ace5fc617a29ad67c026c6d22dfded9ab"), looks := true }, kinds := [], alts := [], laidByText := true, laidKinds := [.data, .data, .data, .data], laidTests := true, laidLooks := .later }
def CfgLoopsCardSaid : Prop := Claim7.holds Tryd.pinned (.plain (OpenSpec.ofChange cfgLoopsSpec)) cfgLoopsCard

/-- THE TIED CARD OF 'stilelaw06.CfgRight'. -/
def cfgRightCard : Claim7 := { stood := { row := cfgRightRow, standIns := [], harness := (true, "ec5384882cf34f55c6832ae3ccdae38ace5fc617a29ad67c026c6d22dfded9ab"), looks := true }, kinds := [], alts := [], laidByText := true, laidKinds := [.data, .data, .data, .data], laidTests := true, laidLooks := .later }
def CfgRightCardSaid : Prop := Claim7.holds Tryd.pinned (.plain (OpenSpec.ofChange cfgRightSpec)) cfgRightCard

/-- THE TIED CARD OF 'stilelaw06.CfgTree'. -/
def cfgTreeCard : Claim7 := { stood := { row := cfgTreeRow, standIns := [], harness := (true, "ec5384882cf34f55c6832ae3ccdae38ace5fc617a29ad67c026c6d22dfded9ab"), looks := true }, kinds := [], alts := [], laidByText := true, laidKinds := [.data, .data, .data, .data], laidTests := true, laidLooks := .later }
def CfgTreeCardSaid : Prop := Claim7.holds Tryd.pinned (.plain (OpenSpec.ofChange cfgTreeSpec)) cfgTreeCard

/-- THE TIED CARD OF 'stilelaw06.CfgAhead'. -/
def cfgAheadCard : Claim7 := { stood := { row := cfgAheadRow, standIns := [], harness := (true, "ec5384882cf34f55c6832ae3ccdae38ace5fc617a29ad67c026c6d22dfded9ab"), looks := true }, kinds := [], alts := [], laidByText := true, laidKinds := [.data, .data, .data, .data], laidTests := true, laidLooks := .later }
def CfgAheadCardSaid : Prop := Claim7.holds Tryd.pinned (.plain (OpenSpec.ofChange cfgAheadSpec)) cfgAheadCard

/-- THE SECOND FORM's CARD OF 'stilelaw06.CfgLoops'. -/
def cfgLoopsUptoCard : Claim7 := { stood := { row := cfgLoopsUptoRow, standIns := [], harness := (true, "ec5384882cf34f55c6832ae3ccdae38ace5fc617a29ad67c026c6d22dfded9ab"), looks := true }, kinds := [], alts := [], laidByText := true, laidKinds := [.data, .data, .data, .data], laidTests := true, laidLooks := .later }
def CfgLoopsUptoCardSaid : Prop := Claim7.holds Tryd.pinned (.plain (OpenSpec.upto cfgLoopsSpec)) cfgLoopsUptoCard

/-- THE SECOND FORM's CARD OF 'stilelaw06.CfgRight'. -/
def cfgRightUptoCard : Claim7 := { stood := { row := cfgRightUptoRow, standIns := [], harness := (true, "ec5384882cf34f55c6832ae3ccdae38ace5fc617a29ad67c026c6d22dfded9ab"), looks := true }, kinds := [], alts := [], laidByText := true, laidKinds := [.data, .data, .data, .data], laidTests := true, laidLooks := .later }
def CfgRightUptoCardSaid : Prop := Claim7.holds Tryd.pinned (.plain (OpenSpec.upto cfgRightSpec)) cfgRightUptoCard

/-- THE SECOND FORM's CARD OF 'stilelaw06.CfgTree'. -/
def cfgTreeUptoCard : Claim7 := { stood := { row := cfgTreeUptoRow, standIns := [], harness := (true, "ec5384882cf34f55c6832ae3ccdae38ace5fc617a29ad67c026c6d22dfded9ab"), looks := true }, kinds := [], alts := [], laidByText := true, laidKinds := [.data, .data, .data, .data], laidTests := true, laidLooks := .later }
def CfgTreeUptoCardSaid : Prop := Claim7.holds Tryd.pinned (.plain (OpenSpec.upto cfgTreeSpec)) cfgTreeUptoCard

/-- THE SECOND FORM's CARD OF 'stilelaw06.CfgAhead'. -/
def cfgAheadUptoCard : Claim7 := { stood := { row := cfgAheadUptoRow, standIns := [], harness := (true, "ec5384882cf34f55c6832ae3ccdae38ace5fc617a29ad67c026c6d22dfded9ab"), looks := true }, kinds := [], alts := [], laidByText := true, laidKinds := [.data, .data, .data, .data], laidTests := true, laidLooks := .later }
def CfgAheadUptoCardSaid : Prop := Claim7.holds Tryd.pinned (.plain (OpenSpec.upto cfgAheadSpec)) cfgAheadUptoCard
end Rows
end Go.Proofs.YthboippafkcoiaaDoor

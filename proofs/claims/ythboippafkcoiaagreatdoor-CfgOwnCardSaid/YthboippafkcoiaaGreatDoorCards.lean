/-
  DERIVED. GIVEN WITH THE SEED: THE CARDS: each row of YthboippafkcoiaaGreatDoorRows.lean that lists a variable, with what it lists TIED to the program's text (the seventh form; the later family's looks); each row that meets fmt, with fmt's text TOLD by the authors' own Lean function (tested against real Go, not proved from fmt's source: count such statements apart). THE CARD IS WHAT COUNTS. Prove the row's statement (the work); the ties are given (YthboippafkcoiaaGreatDoorTie.lean); close each card by the builder's one call (the guide's Derived/Test/ToyasCard.lean, 'card_holds'). Laid BY PROGRAM, IN A SANDBOX (cutbox-door.mjs). By AI agents, Wed Nov 11 2026. No macro, syntax, notation, axiom, sorry.
-/
import Derived.Test.YthboippafkcoiaaGreatDoorRows
import GoSem.ClaimSeven
namespace Go.Proofs.YthboippafkcoiaaGreatDoor
namespace Rows

/-- THE TIED CARD OF 'stilelaw06.CfgLowers'. -/
def cfgLowersCard : Claim7 := { stood := { row := cfgLowersRow, standIns := [], harness := (true, "8097c117754c1a417572404de0ff9bdbe6d1f2a3aa0316aae73ebf782c9a7754"), looks := true }, kinds := [], alts := [], laidByText := true, laidKinds := [.data, .data, .data, .data], laidTests := true, laidLooks := .later }
def CfgLowersCardSaid : Prop := Claim7.holds Tryz.pinned (.plain (OpenSpec.ofChange cfgLowersSpec)) cfgLowersCard

/-- THE TIED CARD OF 'stilelaw06.CfgRuns'. -/
def cfgRunsCard : Claim7 := { stood := { row := cfgRunsRow, standIns := [], harness := (true, "8097c117754c1a417572404de0ff9bdbe6d1f2a3aa0316aae73ebf782c9a7754"), looks := true }, kinds := [], alts := [], laidByText := true, laidKinds := [.data, .data, .data, .data], laidTests := true, laidLooks := .later }
def CfgRunsCardSaid : Prop := Claim7.holds Tryz.pinned (.plain (OpenSpec.ofChange cfgRunsSpec)) cfgRunsCard

/-- THE TIED CARD OF 'stilelaw06.CfgWalks'. -/
def cfgWalksCard : Claim7 := { stood := { row := cfgWalksRow, standIns := [], harness := (true, "8097c117754c1a417572404de0ff9bdbe6d1f2a3aa0316aae73ebf782c9a7754"), looks := true }, kinds := [], alts := [], laidByText := true, laidKinds := [.data, .data, .data, .data], laidTests := true, laidLooks := .later }
def CfgWalksCardSaid : Prop := Claim7.holds Tryz.pinned (.plain (OpenSpec.ofChange cfgWalksSpec)) cfgWalksCard

/-- THE TIED CARD OF 'stilelaw06.CfgChecks'. -/
def cfgChecksCard : Claim7 := { stood := { row := cfgChecksRow, standIns := [], harness := (true, "8097c117754c1a417572404de0ff9bdbe6d1f2a3aa0316aae73ebf782c9a7754"), looks := true }, kinds := [], alts := [], laidByText := true, laidKinds := [.data, .data, .data, .data], laidTests := true, laidLooks := .later }
def CfgChecksCardSaid : Prop := Claim7.holds Tryz.pinned (.plain (OpenSpec.ofChange cfgChecksSpec)) cfgChecksCard

/-- THE TIED CARD OF 'stilelaw06.CfgOwn'. -/
def cfgOwnCard : Claim7 := { stood := { row := cfgOwnRow, standIns := [], harness := (true, "8097c117754c1a417572404de0ff9bdbe6d1f2a3aa0316aae73ebf782c9a7754"), looks := true }, kinds := [], alts := [], laidByText := true, laidKinds := [.data, .data, .data, .data], laidTests := true, laidLooks := .later }
def CfgOwnCardSaid : Prop := Claim7.holds Tryz.pinned (.plain (OpenSpec.ofChange cfgOwnSpec)) cfgOwnCard

/-- THE TIED CARD OF 'stilelaw06.CfgTexts'. -/
def cfgTextsCard : Claim7 := { stood := { row := cfgTextsRow, standIns := [], harness := (true, "8097c117754c1a417572404de0ff9bdbe6d1f2a3aa0316aae73ebf782c9a7754"), looks := true }, kinds := [], alts := [], laidByText := true, laidKinds := [.data, .data, .data, .data], laidTests := true, laidLooks := .later }
def CfgTextsCardSaid : Prop := Claim7.holds Tryz.pinned (.plain (OpenSpec.ofChange cfgTextsSpec)) cfgTextsCard

/-- THE SECOND FORM's CARD OF 'stilelaw06.CfgLowers'. -/
def cfgLowersUptoCard : Claim7 := { stood := { row := cfgLowersUptoRow, standIns := [], harness := (true, "8097c117754c1a417572404de0ff9bdbe6d1f2a3aa0316aae73ebf782c9a7754"), looks := true }, kinds := [], alts := [], laidByText := true, laidKinds := [.data, .data, .data, .data], laidTests := true, laidLooks := .later }
def CfgLowersUptoCardSaid : Prop := Claim7.holds Tryz.pinned (.plain (OpenSpec.upto cfgLowersSpec)) cfgLowersUptoCard

/-- THE SECOND FORM's CARD OF 'stilelaw06.CfgRuns'. -/
def cfgRunsUptoCard : Claim7 := { stood := { row := cfgRunsUptoRow, standIns := [], harness := (true, "8097c117754c1a417572404de0ff9bdbe6d1f2a3aa0316aae73ebf782c9a7754"), looks := true }, kinds := [], alts := [], laidByText := true, laidKinds := [.data, .data, .data, .data], laidTests := true, laidLooks := .later }
def CfgRunsUptoCardSaid : Prop := Claim7.holds Tryz.pinned (.plain (OpenSpec.upto cfgRunsSpec)) cfgRunsUptoCard

/-- THE SECOND FORM's CARD OF 'stilelaw06.CfgWalks'. -/
def cfgWalksUptoCard : Claim7 := { stood := { row := cfgWalksUptoRow, standIns := [], harness := (true, "8097c117754c1a417572404de0ff9bdbe6d1f2a3aa0316aae73ebf782c9a7754"), looks := true }, kinds := [], alts := [], laidByText := true, laidKinds := [.data, .data, .data, .data], laidTests := true, laidLooks := .later }
def CfgWalksUptoCardSaid : Prop := Claim7.holds Tryz.pinned (.plain (OpenSpec.upto cfgWalksSpec)) cfgWalksUptoCard

/-- THE SECOND FORM's CARD OF 'stilelaw06.CfgChecks'. -/
def cfgChecksUptoCard : Claim7 := { stood := { row := cfgChecksUptoRow, standIns := [], harness := (true, "8097c117754c1a417572404de0ff9bdbe6d1f2a3aa0316aae73ebf782c9a7754"), looks := true }, kinds := [], alts := [], laidByText := true, laidKinds := [.data, .data, .data, .data], laidTests := true, laidLooks := .later }
def CfgChecksUptoCardSaid : Prop := Claim7.holds Tryz.pinned (.plain (OpenSpec.upto cfgChecksSpec)) cfgChecksUptoCard

/-- THE SECOND FORM's CARD OF 'stilelaw06.CfgOwn'. -/
def cfgOwnUptoCard : Claim7 := { stood := { row := cfgOwnUptoRow, standIns := [], harness := (true, "8097c117754c1a417572404de0ff9bdbe6d1f2a3aa0316aae73ebf782c9a7754"), looks := true }, kinds := [], alts := [], laidByText := true, laidKinds := [.data, .data, .data, .data], laidTests := true, laidLooks := .later }
def CfgOwnUptoCardSaid : Prop := Claim7.holds Tryz.pinned (.plain (OpenSpec.upto cfgOwnSpec)) cfgOwnUptoCard

/-- THE SECOND FORM's CARD OF 'stilelaw06.CfgTexts'. -/
def cfgTextsUptoCard : Claim7 := { stood := { row := cfgTextsUptoRow, standIns := [], harness := (true, "8097c117754c1a417572404de0ff9bdbe6d1f2a3aa0316aae73ebf782c9a7754"), looks := true }, kinds := [], alts := [], laidByText := true, laidKinds := [.data, .data, .data, .data], laidTests := true, laidLooks := .later }
def CfgTextsUptoCardSaid : Prop := Claim7.holds Tryz.pinned (.plain (OpenSpec.upto cfgTextsSpec)) cfgTextsUptoCard
end Rows
end Go.Proofs.YthboippafkcoiaaGreatDoor

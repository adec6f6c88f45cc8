/-
  NARROWER THAN 'FOR EVERY INPUT', by the rows' own cells (each row's printed sentence says how): CheckFaults: loops · CheckParts: loops · CheckNames: loops · CheckRenames: loops · CheckRenamed: loops · CheckOwn: loops.
  DERIVED. THE GIVEN ROWS OF THIS SEAT. 6 by the template 'for every input the law returns true; each argument reads behind the call as it read before'; 0 by the template 'total and deterministic' (their statements: YtbpcbhmdjphodaaTotals.lean).
  GIVEN WITH THE SEED: the statements are not yours to turn. If you find one false, say at which input.
  Laid BY PROGRAM, IN A SANDBOX (cutbox-rows.mjs): the forced cells as the released guide's own fill.sh prints them over the translation e4f88ffbd34de615… (all of the seat's roots in one cut). By AI agents, Wed Nov 11 2026. No macro, syntax, notation, axiom, sorry.
-/
import Derived.Test.YtbpcbhmdjphodaaChecked
import GoSem.Claim
import GoSem.ClaimJoined
import GoSem.ClaimMapViews
import Derived.JoinedTies
import Derived.KernelRfl
namespace Go.Proofs.Ytbpcbhmdjphodaa
/- THE CELL 'sum', in the pinned program and in every row, IS THE sha256 OF THE DUMP (.gsa) THAT YtbpcbhmdjphodaaProg.lean LOADS. Nothing in Lean hashes anything: it is a label: what it is worth is what the hold of that sum in a sandbox is worth. -/
noncomputable def Try.pinned : Pinned := { name := "ytbpcbhmdjphodaa", sum := "e4f88ffbd34de61500feed6f6c4378712a5e2b9cafb9cae3d36348916765d6a6", checked := Try.checked }
namespace Rows
def none {H : Type} : Left H := { results := [], args := [] }

/-- 'stilelaw05.CheckFaults': WHATEVER THE INPUT: true; the input reads as it did. -/
def checkFaultsSpec : ChangeSpec := { name := "checkFaults", fn := fun _ => fun
  | [d] => { results := [.lit (.bool true)], args := [d] }
  | _ => none }
def checkFaultsRow : OpenClaim := { program := "ytbpcbhmdjphodaa", sum := "e4f88ffbd34de61500feed6f6c4378712a5e2b9cafb9cae3d36348916765d6a6", func := "stile/stilelaw05.CheckFaults", spec := "checkFaults", unfollowed := true, recurses := true, loops := true, apart := false }
def CheckFaultsSaid : Prop := checkFaultsRow.holds Try.pinned (OpenSpec.ofChange checkFaultsSpec)

/-- ITS FALSE NEIGHBOUR: 'it returns false'. Refute it at one input. -/
def checkFaultsWrong : ChangeSpec := { name := "checkFaults", fn := fun _ => fun
  | [d] => { results := [.lit (.bool false)], args := [d] }
  | _ => none }
def CheckFaultsWrongFalsely : Prop := checkFaultsRow.holds Try.pinned (OpenSpec.ofChange checkFaultsWrong)

/-- 'stilelaw05.CheckParts': WHATEVER THE INPUT: true; the input reads as it did. -/
def checkPartsSpec : ChangeSpec := { name := "checkParts", fn := fun _ => fun
  | [d1, d2, d3] => { results := [.lit (.bool true)], args := [d1, d2, d3] }
  | _ => none }
def checkPartsRow : OpenClaim := { program := "ytbpcbhmdjphodaa", sum := "e4f88ffbd34de61500feed6f6c4378712a5e2b9cafb9cae3d36348916765d6a6", func := "stile/stilelaw05.CheckParts", spec := "checkParts", unfollowed := true, recurses := true, loops := true, apart := false }
def CheckPartsSaid : Prop := checkPartsRow.holds Try.pinned (OpenSpec.ofChange checkPartsSpec)

/-- ITS FALSE NEIGHBOUR: 'it returns false'. Refute it at one input. -/
def checkPartsWrong : ChangeSpec := { name := "checkParts", fn := fun _ => fun
  | [d1, d2, d3] => { results := [.lit (.bool false)], args := [d1, d2, d3] }
  | _ => none }
def CheckPartsWrongFalsely : Prop := checkPartsRow.holds Try.pinned (OpenSpec.ofChange checkPartsWrong)

/-- 'stilelaw05.CheckNames': WHATEVER THE INPUT: true; the input reads as it did. -/
def checkNamesSpec : ChangeSpec := { name := "checkNames", fn := fun _ => fun
  | [d1, d2, d3] => { results := [.lit (.bool true)], args := [d1, d2, d3] }
  | _ => none }
def checkNamesRow : OpenClaim := { program := "ytbpcbhmdjphodaa", sum := "e4f88ffbd34de61500feed6f6c4378712a5e2b9cafb9cae3d36348916765d6a6", func := "stile/stilelaw05.CheckNames", spec := "checkNames", unfollowed := true, recurses := true, loops := true, apart := false }
def CheckNamesSaid : Prop := checkNamesRow.holds Try.pinned (OpenSpec.ofChange checkNamesSpec)

/-- ITS FALSE NEIGHBOUR: 'it returns false'. Refute it at one input. -/
def checkNamesWrong : ChangeSpec := { name := "checkNames", fn := fun _ => fun
  | [d1, d2, d3] => { results := [.lit (.bool false)], args := [d1, d2, d3] }
  | _ => none }
def CheckNamesWrongFalsely : Prop := checkNamesRow.holds Try.pinned (OpenSpec.ofChange checkNamesWrong)

/-- 'stilelaw05.CheckRenames': WHATEVER THE INPUT: true; the input reads as it did. -/
def checkRenamesSpec : ChangeSpec := { name := "checkRenames", fn := fun _ => fun
  | [d1, d2, d3] => { results := [.lit (.bool true)], args := [d1, d2, d3] }
  | _ => none }
def checkRenamesRow : OpenClaim := { program := "ytbpcbhmdjphodaa", sum := "e4f88ffbd34de61500feed6f6c4378712a5e2b9cafb9cae3d36348916765d6a6", func := "stile/stilelaw05.CheckRenames", spec := "checkRenames", unfollowed := true, recurses := true, loops := true, apart := false }
def CheckRenamesSaid : Prop := checkRenamesRow.holds Try.pinned (OpenSpec.ofChange checkRenamesSpec)

/-- ITS FALSE NEIGHBOUR: 'it returns false'. Refute it at one input. -/
def checkRenamesWrong : ChangeSpec := { name := "checkRenames", fn := fun _ => fun
  | [d1, d2, d3] => { results := [.lit (.bool false)], args := [d1, d2, d3] }
  | _ => none }
def CheckRenamesWrongFalsely : Prop := checkRenamesRow.holds Try.pinned (OpenSpec.ofChange checkRenamesWrong)

/-- 'stilelaw05.CheckRenamed': WHATEVER THE INPUT: true; the input reads as it did. -/
def checkRenamedSpec : ChangeSpec := { name := "checkRenamed", fn := fun _ => fun
  | [d1, d2, d3, d4] => { results := [.lit (.bool true)], args := [d1, d2, d3, d4] }
  | _ => none }
def checkRenamedRow : OpenClaim := { program := "ytbpcbhmdjphodaa", sum := "e4f88ffbd34de61500feed6f6c4378712a5e2b9cafb9cae3d36348916765d6a6", func := "stile/stilelaw05.CheckRenamed", spec := "checkRenamed", unfollowed := true, recurses := true, loops := true, apart := false }
def CheckRenamedSaid : Prop := checkRenamedRow.holds Try.pinned (OpenSpec.ofChange checkRenamedSpec)

/-- ITS FALSE NEIGHBOUR: 'it returns false'. Refute it at one input. -/
def checkRenamedWrong : ChangeSpec := { name := "checkRenamed", fn := fun _ => fun
  | [d1, d2, d3, d4] => { results := [.lit (.bool false)], args := [d1, d2, d3, d4] }
  | _ => none }
def CheckRenamedWrongFalsely : Prop := checkRenamedRow.holds Try.pinned (OpenSpec.ofChange checkRenamedWrong)

/-- 'stilelaw05.CheckOwn': WHATEVER THE INPUT: true; the input reads as it did. -/
def checkOwnSpec : ChangeSpec := { name := "checkOwn", fn := fun _ => fun
  | [d1, d2, d3] => { results := [.lit (.bool true)], args := [d1, d2, d3] }
  | _ => none }
def checkOwnRow : OpenClaim := { program := "ytbpcbhmdjphodaa", sum := "e4f88ffbd34de61500feed6f6c4378712a5e2b9cafb9cae3d36348916765d6a6", func := "stile/stilelaw05.CheckOwn", spec := "checkOwn", unfollowed := true, recurses := true, loops := true, apart := false }
def CheckOwnSaid : Prop := checkOwnRow.holds Try.pinned (OpenSpec.ofChange checkOwnSpec)

/-- ITS FALSE NEIGHBOUR: 'it returns false'. Refute it at one input. -/
def checkOwnWrong : ChangeSpec := { name := "checkOwn", fn := fun _ => fun
  | [d1, d2, d3] => { results := [.lit (.bool false)], args := [d1, d2, d3] }
  | _ => none }
def CheckOwnWrongFalsely : Prop := checkOwnRow.holds Try.pinned (OpenSpec.ofChange checkOwnWrong)

/- THE SECOND FORM. 'bulk': how many values and letters a reading holds, each counted each time it is reached (what is shared counts as often as it is met; a slice's spare places count too). A statement '..UptoSaid' is the law's where the arguments, and the package variables that the reading takes, are together of bulk at most 1048576: NARROWER than '..Said'. Prove '..Said' where nothing that the law and all that it calls make is longer than what came in: it says more and counts as full. Else prove '..UptoSaid'. A law counts once. -/
mutual
def uptoBulk {H : Type} : DataW H → Nat
  | .lit (.string bytes) => bytes.length + 1
  | .lit _ => 1
  | .nil => 1
  | .ptr d => uptoBulk d + 1
  | .slice elems spare => uptoBulkAll elems + uptoBulkAll spare + 1
  | .agg parts => uptoBulkAll parts + 1
  | .iface _ d => uptoBulk d + 1
  | .map entries => uptoBulkEntries entries + 1
  | .held _ => 1
def uptoBulkAll {H : Type} : List (DataW H) → Nat
  | [] => 0
  | d :: r => uptoBulk d + uptoBulkAll r
def uptoBulkEntries {H : Type} : List (Lit × DataW H) → Nat
  | [] => 0
  | x :: r => uptoBulkEntry x + uptoBulkEntries r
def uptoBulkEntry {H : Type} : Lit × DataW H → Nat
  | (.string bytes, d) => bytes.length + uptoBulk d + 1
  | (_, d) => uptoBulk d + 1
 end
def uptoSmall : (H : Type) → List (DataW H) → Bool := fun _ ds => decide (uptoBulkAll ds ≤ 1048576)
def OpenSpec.upto (s : _root_.Go.ChangeSpec) : _root_.Go.OpenSpec := { _root_.Go.OpenSpec.ofChange s with cond := some uptoSmall }

/-- 'stilelaw05.CheckFaults', WHERE WHAT IT READS IS OF BULK AT MOST 1048576: true; the input reads as it did. -/
def checkFaultsUptoRow : OpenClaim := { program := "ytbpcbhmdjphodaa", sum := "e4f88ffbd34de61500feed6f6c4378712a5e2b9cafb9cae3d36348916765d6a6", func := "stile/stilelaw05.CheckFaults", spec := "checkFaults", unfollowed := true, recurses := true, loops := true, apart := false, narrowed := true }
def CheckFaultsUptoSaid : Prop := checkFaultsUptoRow.holds Try.pinned (OpenSpec.upto checkFaultsSpec)

/-- 'stilelaw05.CheckParts', WHERE WHAT IT READS IS OF BULK AT MOST 1048576: true; the input reads as it did. -/
def checkPartsUptoRow : OpenClaim := { program := "ytbpcbhmdjphodaa", sum := "e4f88ffbd34de61500feed6f6c4378712a5e2b9cafb9cae3d36348916765d6a6", func := "stile/stilelaw05.CheckParts", spec := "checkParts", unfollowed := true, recurses := true, loops := true, apart := false, narrowed := true }
def CheckPartsUptoSaid : Prop := checkPartsUptoRow.holds Try.pinned (OpenSpec.upto checkPartsSpec)

/-- 'stilelaw05.CheckNames', WHERE WHAT IT READS IS OF BULK AT MOST 1048576: true; the input reads as it did. -/
def checkNamesUptoRow : OpenClaim := { program := "ytbpcbhmdjphodaa", sum := "e4f88ffbd34de61500feed6f6c4378712a5e2b9cafb9cae3d36348916765d6a6", func := "stile/stilelaw05.CheckNames", spec := "checkNames", unfollowed := true, recurses := true, loops := true, apart := false, narrowed := true }
def CheckNamesUptoSaid : Prop := checkNamesUptoRow.holds Try.pinned (OpenSpec.upto checkNamesSpec)

/-- 'stilelaw05.CheckRenames', WHERE WHAT IT READS IS OF BULK AT MOST 1048576: true; the input reads as it did. -/
def checkRenamesUptoRow : OpenClaim := { program := "ytbpcbhmdjphodaa", sum := "e4f88ffbd34de61500feed6f6c4378712a5e2b9cafb9cae3d36348916765d6a6", func := "stile/stilelaw05.CheckRenames", spec := "checkRenames", unfollowed := true, recurses := true, loops := true, apart := false, narrowed := true }
def CheckRenamesUptoSaid : Prop := checkRenamesUptoRow.holds Try.pinned (OpenSpec.upto checkRenamesSpec)

/-- 'stilelaw05.CheckRenamed', WHERE WHAT IT READS IS OF BULK AT MOST 1048576: true; the input reads as it did. -/
def checkRenamedUptoRow : OpenClaim := { program := "ytbpcbhmdjphodaa", sum := "e4f88ffbd34de61500feed6f6c4378712a5e2b9cafb9cae3d36348916765d6a6", func := "stile/stilelaw05.CheckRenamed", spec := "checkRenamed", unfollowed := true, recurses := true, loops := true, apart := false, narrowed := true }
def CheckRenamedUptoSaid : Prop := checkRenamedUptoRow.holds Try.pinned (OpenSpec.upto checkRenamedSpec)

/-- 'stilelaw05.CheckOwn', WHERE WHAT IT READS IS OF BULK AT MOST 1048576: true; the input reads as it did. -/
def checkOwnUptoRow : OpenClaim := { program := "ytbpcbhmdjphodaa", sum := "e4f88ffbd34de61500feed6f6c4378712a5e2b9cafb9cae3d36348916765d6a6", func := "stile/stilelaw05.CheckOwn", spec := "checkOwn", unfollowed := true, recurses := true, loops := true, apart := false, narrowed := true }
def CheckOwnUptoSaid : Prop := checkOwnUptoRow.holds Try.pinned (OpenSpec.upto checkOwnSpec)

end Rows
end Go.Proofs.Ytbpcbhmdjphodaa

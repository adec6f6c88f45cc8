/-
  NARROWER THAN 'FOR EVERY INPUT', by the rows' own cells (each row's printed sentence says how): CfgLowers: loops, laid · CfgRuns: loops, laid · CfgWalks: laid · CfgChecks: laid · CfgOwn: loops, laid · CfgTexts: laid.
  DERIVED. THE GIVEN ROWS OF THIS SEAT. 6 by the template 'for every input the law returns true; each argument reads behind the call as it read before'; 0 by the template 'total and deterministic' (their statements: YthboippafkcoiaaGreatDoorTotals.lean).
  GIVEN WITH THE SEED: the statements are not yours to turn. If you find one false, say at which input.
  Laid BY PROGRAM, IN A SANDBOX (cutbox-rows.mjs): the forced cells as the released guide's own fill.sh prints them over the translation 5e3a65a8dcd1b752… (all of the seat's roots in one cut). By AI agents, Wed Nov 11 2026. No macro, syntax, notation, axiom, sorry.
-/
import Derived.Test.YthboippafkcoiaaGreatDoorChecked
import GoSem.Claim
import GoSem.ClaimJoined
import GoSem.ClaimMapViews
import Derived.JoinedTies
import Derived.KernelRfl
namespace Go.Proofs.YthboippafkcoiaaGreatDoor
/- THE CELL 'sum', in the pinned program and in every row, IS THE sha256 OF THE DUMP (.gsa) THAT YthboippafkcoiaaGreatDoorProg.lean LOADS. Nothing in Lean hashes anything: it is a label: what it is worth is what the hold of that sum in a sandbox is worth. -/
noncomputable def Tryz.pinned : Pinned := { name := "ythboippafkcoiaagreatdoor", sum := "5e3a65a8dcd1b75248d9f1326fddd613c5fdd3bbf321c8eb44b3b01fc849aa50", checked := Tryz.checked }
namespace Rows
def none {H : Type} : Left H := { results := [], args := [] }

/- WHAT THE LISTED PACKAGE-LEVEL VARIABLES READ AS WHEN THE CALL BEGINS. Each datum BY PROGRAM (the guide's laid-datum.mjs) off the statement by which the dump's own 'gosem.cut.vars' lays the variable. In a bare row this is a premise. The card (YthboippafkcoiaaGreatDoorCards.lean) ties it to the program's text. -/
def laid_math_bits_deBruijn32tab {H : Type} : DataW H := .agg [.lit (.int .u8 0), .lit (.int .u8 1), .lit (.int .u8 28), .lit (.int .u8 2), .lit (.int .u8 29), .lit (.int .u8 14), .lit (.int .u8 24), .lit (.int .u8 3), .lit (.int .u8 30), .lit (.int .u8 22), .lit (.int .u8 20), .lit (.int .u8 15), .lit (.int .u8 25), .lit (.int .u8 17), .lit (.int .u8 4), .lit (.int .u8 8), .lit (.int .u8 31), .lit (.int .u8 27), .lit (.int .u8 13), .lit (.int .u8 23), .lit (.int .u8 21), .lit (.int .u8 19), .lit (.int .u8 16), .lit (.int .u8 7), .lit (.int .u8 26), .lit (.int .u8 12), .lit (.int .u8 18), .lit (.int .u8 6), .lit (.int .u8 11), .lit (.int .u8 5), .lit (.int .u8 10), .lit (.int .u8 9)]
def laid_math_bits_deBruijn64tab {H : Type} : DataW H := .agg [.lit (.int .u8 0), .lit (.int .u8 1), .lit (.int .u8 56), .lit (.int .u8 2), .lit (.int .u8 57), .lit (.int .u8 49), .lit (.int .u8 28), .lit (.int .u8 3), .lit (.int .u8 61), .lit (.int .u8 58), .lit (.int .u8 42), .lit (.int .u8 50), .lit (.int .u8 38), .lit (.int .u8 29), .lit (.int .u8 17), .lit (.int .u8 4), .lit (.int .u8 62), .lit (.int .u8 47), .lit (.int .u8 59), .lit (.int .u8 36), .lit (.int .u8 45), .lit (.int .u8 43), .lit (.int .u8 51), .lit (.int .u8 22), .lit (.int .u8 53), .lit (.int .u8 39), .lit (.int .u8 33), .lit (.int .u8 30), .lit (.int .u8 24), .lit (.int .u8 18), .lit (.int .u8 12), .lit (.int .u8 5), .lit (.int .u8 63), .lit (.int .u8 55), .lit (.int .u8 48), .lit (.int .u8 27), .lit (.int .u8 60), .lit (.int .u8 41), .lit (.int .u8 37), .lit (.int .u8 16), .lit (.int .u8 46), .lit (.int .u8 35), .lit (.int .u8 44), .lit (.int .u8 21), .lit (.int .u8 52), .lit (.int .u8 32), .lit (.int .u8 23), .lit (.int .u8 11), .lit (.int .u8 54), .lit (.int .u8 26), .lit (.int .u8 40), .lit (.int .u8 15), .lit (.int .u8 34), .lit (.int .u8 20), .lit (.int .u8 31), .lit (.int .u8 10), .lit (.int .u8 25), .lit (.int .u8 14), .lit (.int .u8 19), .lit (.int .u8 9), .lit (.int .u8 13), .lit (.int .u8 8), .lit (.int .u8 7), .lit (.int .u8 6)]
def laid_internal_strconv_uint64pow10 {H : Type} : DataW H := .agg [.lit (.int .u64 1), .lit (.int .u64 10), .lit (.int .u64 100), .lit (.int .u64 1000), .lit (.int .u64 10000), .lit (.int .u64 100000), .lit (.int .u64 1000000), .lit (.int .u64 10000000), .lit (.int .u64 100000000), .lit (.int .u64 1000000000), .lit (.int .u64 10000000000), .lit (.int .u64 100000000000), .lit (.int .u64 1000000000000), .lit (.int .u64 10000000000000), .lit (.int .u64 100000000000000), .lit (.int .u64 1000000000000000), .lit (.int .u64 10000000000000000), .lit (.int .u64 100000000000000000), .lit (.int .u64 1000000000000000000), .lit (.int .u64 10000000000000000000)]
def laid_stile_words_signs {H : Type} : DataW H := .agg [.agg [.lit (.string []), .lit (.int .i64 0)], .agg [.lit (.string [43]), .lit (.int .i64 7)], .agg [.lit (.string [45]), .lit (.int .i64 7)], .agg [.lit (.string [42]), .lit (.int .i64 8)], .agg [.lit (.string [47]), .lit (.int .i64 8)], .agg [.lit (.string [37]), .lit (.int .i64 8)], .agg [.lit (.string [38]), .lit (.int .i64 3)], .agg [.lit (.string [124]), .lit (.int .i64 1)], .agg [.lit (.string [94]), .lit (.int .i64 2)], .agg [.lit (.string [60, 60]), .lit (.int .i64 6)], .agg [.lit (.string [62, 62]), .lit (.int .i64 6)], .agg [.lit (.string [61, 61]), .lit (.int .i64 4)], .agg [.lit (.string [33, 61]), .lit (.int .i64 4)], .agg [.lit (.string [60]), .lit (.int .i64 5)], .agg [.lit (.string [60, 61]), .lit (.int .i64 5)], .agg [.lit (.string [62]), .lit (.int .i64 5)], .agg [.lit (.string [62, 61]), .lit (.int .i64 5)], .agg [.lit (.string [45]), .lit (.int .i64 9)], .agg [.lit (.string [33]), .lit (.int .i64 9)]]

/-- 'stilelaw06.CfgLowers': WHATEVER THE INPUT: true; the input reads as it did. -/
def cfgLowersSpec : ChangeSpec := { name := "cfgLowers", fn := fun _ => fun
  | [d] => { results := [.lit (.bool true)], args := [d] }
  | _ => none }
def cfgLowersRow : OpenClaim := { program := "ythboippafkcoiaagreatdoor", sum := "5e3a65a8dcd1b75248d9f1326fddd613c5fdd3bbf321c8eb44b3b01fc849aa50", func := "stile/stilelaw06.CfgLowers", spec := "cfgLowers", unfollowed := true, recurses := true, named := ["internal/strconv.uint64pow10", "math/bits.deBruijn32tab", "math/bits.deBruijn64tab", "stile/words.signs"], loops := true, apart := false, laid := [("math/bits.deBruijn32tab", laid_math_bits_deBruijn32tab), ("math/bits.deBruijn64tab", laid_math_bits_deBruijn64tab), ("internal/strconv.uint64pow10", laid_internal_strconv_uint64pow10), ("stile/words.signs", laid_stile_words_signs)] }
def CfgLowersSaid : Prop := cfgLowersRow.holds Tryz.pinned (OpenSpec.ofChange cfgLowersSpec)

/-- ITS FALSE NEIGHBOUR: 'it returns false'. Refute it at one input. -/
def cfgLowersWrong : ChangeSpec := { name := "cfgLowers", fn := fun _ => fun
  | [d] => { results := [.lit (.bool false)], args := [d] }
  | _ => none }
def CfgLowersWrongFalsely : Prop := cfgLowersRow.holds Tryz.pinned (OpenSpec.ofChange cfgLowersWrong)

/-- 'stilelaw06.CfgRuns': WHATEVER THE INPUT: true; the input reads as it did. -/
def cfgRunsSpec : ChangeSpec := { name := "cfgRuns", fn := fun _ => fun
  | [d1, d2, d3] => { results := [.lit (.bool true)], args := [d1, d2, d3] }
  | _ => none }
def cfgRunsRow : OpenClaim := { program := "ythboippafkcoiaagreatdoor", sum := "5e3a65a8dcd1b75248d9f1326fddd613c5fdd3bbf321c8eb44b3b01fc849aa50", func := "stile/stilelaw06.CfgRuns", spec := "cfgRuns", unfollowed := true, recurses := true, named := ["internal/strconv.uint64pow10", "math/bits.deBruijn32tab", "math/bits.deBruijn64tab", "stile/words.signs"], loops := true, apart := false, laid := [("math/bits.deBruijn32tab", laid_math_bits_deBruijn32tab), ("math/bits.deBruijn64tab", laid_math_bits_deBruijn64tab), ("internal/strconv.uint64pow10", laid_internal_strconv_uint64pow10), ("stile/words.signs", laid_stile_words_signs)] }
def CfgRunsSaid : Prop := cfgRunsRow.holds Tryz.pinned (OpenSpec.ofChange cfgRunsSpec)

/-- ITS FALSE NEIGHBOUR: 'it returns false'. Refute it at one input. -/
def cfgRunsWrong : ChangeSpec := { name := "cfgRuns", fn := fun _ => fun
  | [d1, d2, d3] => { results := [.lit (.bool false)], args := [d1, d2, d3] }
  | _ => none }
def CfgRunsWrongFalsely : Prop := cfgRunsRow.holds Tryz.pinned (OpenSpec.ofChange cfgRunsWrong)

/-- 'stilelaw06.CfgWalks': WHATEVER THE INPUT: true; the input reads as it did. -/
def cfgWalksSpec : ChangeSpec := { name := "cfgWalks", fn := fun _ => fun
  | [d] => { results := [.lit (.bool true)], args := [d] }
  | _ => none }
def cfgWalksRow : OpenClaim := { program := "ythboippafkcoiaagreatdoor", sum := "5e3a65a8dcd1b75248d9f1326fddd613c5fdd3bbf321c8eb44b3b01fc849aa50", func := "stile/stilelaw06.CfgWalks", spec := "cfgWalks", unfollowed := true, recurses := true, named := ["internal/strconv.uint64pow10", "math/bits.deBruijn32tab", "math/bits.deBruijn64tab", "stile/words.signs"], apart := false, laid := [("math/bits.deBruijn32tab", laid_math_bits_deBruijn32tab), ("math/bits.deBruijn64tab", laid_math_bits_deBruijn64tab), ("internal/strconv.uint64pow10", laid_internal_strconv_uint64pow10), ("stile/words.signs", laid_stile_words_signs)] }
def CfgWalksSaid : Prop := cfgWalksRow.holds Tryz.pinned (OpenSpec.ofChange cfgWalksSpec)

/-- ITS FALSE NEIGHBOUR: 'it returns false'. Refute it at one input. -/
def cfgWalksWrong : ChangeSpec := { name := "cfgWalks", fn := fun _ => fun
  | [d] => { results := [.lit (.bool false)], args := [d] }
  | _ => none }
def CfgWalksWrongFalsely : Prop := cfgWalksRow.holds Tryz.pinned (OpenSpec.ofChange cfgWalksWrong)

/-- 'stilelaw06.CfgChecks': WHATEVER THE INPUT: true; the input reads as it did. -/
def cfgChecksSpec : ChangeSpec := { name := "cfgChecks", fn := fun _ => fun
  | [d1, d2] => { results := [.lit (.bool true)], args := [d1, d2] }
  | _ => none }
def cfgChecksRow : OpenClaim := { program := "ythboippafkcoiaagreatdoor", sum := "5e3a65a8dcd1b75248d9f1326fddd613c5fdd3bbf321c8eb44b3b01fc849aa50", func := "stile/stilelaw06.CfgChecks", spec := "cfgChecks", unfollowed := true, recurses := true, named := ["internal/strconv.uint64pow10", "math/bits.deBruijn32tab", "math/bits.deBruijn64tab", "stile/words.signs"], apart := false, laid := [("math/bits.deBruijn32tab", laid_math_bits_deBruijn32tab), ("math/bits.deBruijn64tab", laid_math_bits_deBruijn64tab), ("internal/strconv.uint64pow10", laid_internal_strconv_uint64pow10), ("stile/words.signs", laid_stile_words_signs)] }
def CfgChecksSaid : Prop := cfgChecksRow.holds Tryz.pinned (OpenSpec.ofChange cfgChecksSpec)

/-- ITS FALSE NEIGHBOUR: 'it returns false'. Refute it at one input. -/
def cfgChecksWrong : ChangeSpec := { name := "cfgChecks", fn := fun _ => fun
  | [d1, d2] => { results := [.lit (.bool false)], args := [d1, d2] }
  | _ => none }
def CfgChecksWrongFalsely : Prop := cfgChecksRow.holds Tryz.pinned (OpenSpec.ofChange cfgChecksWrong)

/-- 'stilelaw06.CfgOwn': WHATEVER THE INPUT: true; the input reads as it did. -/
def cfgOwnSpec : ChangeSpec := { name := "cfgOwn", fn := fun _ => fun
  | [d1, d2] => { results := [.lit (.bool true)], args := [d1, d2] }
  | _ => none }
def cfgOwnRow : OpenClaim := { program := "ythboippafkcoiaagreatdoor", sum := "5e3a65a8dcd1b75248d9f1326fddd613c5fdd3bbf321c8eb44b3b01fc849aa50", func := "stile/stilelaw06.CfgOwn", spec := "cfgOwn", unfollowed := true, recurses := true, named := ["internal/strconv.uint64pow10", "math/bits.deBruijn32tab", "math/bits.deBruijn64tab", "stile/words.signs"], loops := true, apart := false, laid := [("math/bits.deBruijn32tab", laid_math_bits_deBruijn32tab), ("math/bits.deBruijn64tab", laid_math_bits_deBruijn64tab), ("internal/strconv.uint64pow10", laid_internal_strconv_uint64pow10), ("stile/words.signs", laid_stile_words_signs)] }
def CfgOwnSaid : Prop := cfgOwnRow.holds Tryz.pinned (OpenSpec.ofChange cfgOwnSpec)

/-- ITS FALSE NEIGHBOUR: 'it returns false'. Refute it at one input. -/
def cfgOwnWrong : ChangeSpec := { name := "cfgOwn", fn := fun _ => fun
  | [d1, d2] => { results := [.lit (.bool false)], args := [d1, d2] }
  | _ => none }
def CfgOwnWrongFalsely : Prop := cfgOwnRow.holds Tryz.pinned (OpenSpec.ofChange cfgOwnWrong)

/-- 'stilelaw06.CfgTexts': WHATEVER THE INPUT: true; the input reads as it did. -/
def cfgTextsSpec : ChangeSpec := { name := "cfgTexts", fn := fun _ => fun
  | [d1, d2, d3, d4] => { results := [.lit (.bool true)], args := [d1, d2, d3, d4] }
  | _ => none }
def cfgTextsRow : OpenClaim := { program := "ythboippafkcoiaagreatdoor", sum := "5e3a65a8dcd1b75248d9f1326fddd613c5fdd3bbf321c8eb44b3b01fc849aa50", func := "stile/stilelaw06.CfgTexts", spec := "cfgTexts", unfollowed := true, recurses := true, named := ["internal/strconv.uint64pow10", "math/bits.deBruijn32tab", "math/bits.deBruijn64tab", "stile/words.signs"], apart := false, laid := [("math/bits.deBruijn32tab", laid_math_bits_deBruijn32tab), ("math/bits.deBruijn64tab", laid_math_bits_deBruijn64tab), ("internal/strconv.uint64pow10", laid_internal_strconv_uint64pow10), ("stile/words.signs", laid_stile_words_signs)] }
def CfgTextsSaid : Prop := cfgTextsRow.holds Tryz.pinned (OpenSpec.ofChange cfgTextsSpec)

/-- ITS FALSE NEIGHBOUR: 'it returns false'. Refute it at one input. -/
def cfgTextsWrong : ChangeSpec := { name := "cfgTexts", fn := fun _ => fun
  | [d1, d2, d3, d4] => { results := [.lit (.bool false)], args := [d1, d2, d3, d4] }
  | _ => none }
def CfgTextsWrongFalsely : Prop := cfgTextsRow.holds Tryz.pinned (OpenSpec.ofChange cfgTextsWrong)

/- THE SECOND FORM. 'bulk': how many values and letters a reading holds, each counted each time it is reached (what is shared counts as often as it is met; a slice's spare places count too). A statement '..UptoSaid' is the law's where the arguments, and the package variables that the reading takes, are together of bulk at most 1048576: NARROWER than '..Said'. Prove '..Said' where nothing that the law and all that it calls make is longer than what came in: it says more and counts as full. Else prove '..UptoSaid'. A law counts once. -/
mutual
def uptoBulk {H : Type} : DataW H → Nat
  | .lit (.string bytes) => bytes.length + 1
  | .lit _ => 1
  | .nil => 1
  | .ptr d => uptoBulk d + 1
  | .slice elems spare => uptoBulkAll elems + uptoBulkAll spare + 1
  | .agg parts => uptoBulkAll parts + 1
  | .iface _ d => uptoBulk d + 1
  | .map entries => uptoBulkEntries entries + 1
  | .held _ => 1
def uptoBulkAll {H : Type} : List (DataW H) → Nat
  | [] => 0
  | d :: r => uptoBulk d + uptoBulkAll r
def uptoBulkEntries {H : Type} : List (Lit × DataW H) → Nat
  | [] => 0
  | x :: r => uptoBulkEntry x + uptoBulkEntries r
def uptoBulkEntry {H : Type} : Lit × DataW H → Nat
  | (.string bytes, d) => bytes.length + uptoBulk d + 1
  | (_, d) => uptoBulk d + 1
 end
def uptoSmall : (H : Type) → List (DataW H) → Bool := fun _ ds => decide (uptoBulkAll ds ≤ 1048576)
def OpenSpec.upto (s : _root_.Go.ChangeSpec) : _root_.Go.OpenSpec := { _root_.Go.OpenSpec.ofChange s with cond := some uptoSmall }

/-- 'stilelaw06.CfgLowers', WHERE WHAT IT READS IS OF BULK AT MOST 1048576: true; the input reads as it did. -/
def cfgLowersUptoRow : OpenClaim := { program := "ythboippafkcoiaagreatdoor", sum := "5e3a65a8dcd1b75248d9f1326fddd613c5fdd3bbf321c8eb44b3b01fc849aa50", func := "stile/stilelaw06.CfgLowers", spec := "cfgLowers", unfollowed := true, recurses := true, named := ["internal/strconv.uint64pow10", "math/bits.deBruijn32tab", "math/bits.deBruijn64tab", "stile/words.signs"], loops := true, apart := false, laid := [("math/bits.deBruijn32tab", laid_math_bits_deBruijn32tab), ("math/bits.deBruijn64tab", laid_math_bits_deBruijn64tab), ("internal/strconv.uint64pow10", laid_internal_strconv_uint64pow10), ("stile/words.signs", laid_stile_words_signs)], narrowed := true }
def CfgLowersUptoSaid : Prop := cfgLowersUptoRow.holds Tryz.pinned (OpenSpec.upto cfgLowersSpec)

/-- 'stilelaw06.CfgRuns', WHERE WHAT IT READS IS OF BULK AT MOST 1048576: true; the input reads as it did. -/
def cfgRunsUptoRow : OpenClaim := { program := "ythboippafkcoiaagreatdoor", sum := "5e3a65a8dcd1b75248d9f1326fddd613c5fdd3bbf321c8eb44b3b01fc849aa50", func := "stile/stilelaw06.CfgRuns", spec := "cfgRuns", unfollowed := true, recurses := true, named := ["internal/strconv.uint64pow10", "math/bits.deBruijn32tab", "math/bits.deBruijn64tab", "stile/words.signs"], loops := true, apart := false, laid := [("math/bits.deBruijn32tab", laid_math_bits_deBruijn32tab), ("math/bits.deBruijn64tab", laid_math_bits_deBruijn64tab), ("internal/strconv.uint64pow10", laid_internal_strconv_uint64pow10), ("stile/words.signs", laid_stile_words_signs)], narrowed := true }
def CfgRunsUptoSaid : Prop := cfgRunsUptoRow.holds Tryz.pinned (OpenSpec.upto cfgRunsSpec)

/-- 'stilelaw06.CfgWalks', WHERE WHAT IT READS IS OF BULK AT MOST 1048576: true; the input reads as it did. -/
def cfgWalksUptoRow : OpenClaim := { program := "ythboippafkcoiaagreatdoor", sum := "5e3a65a8dcd1b75248d9f1326fddd613c5fdd3bbf321c8eb44b3b01fc849aa50", func := "stile/stilelaw06.CfgWalks", spec := "cfgWalks", unfollowed := true, recurses := true, named := ["internal/strconv.uint64pow10", "math/bits.deBruijn32tab", "math/bits.deBruijn64tab", "stile/words.signs"], apart := false, laid := [("math/bits.deBruijn32tab", laid_math_bits_deBruijn32tab), ("math/bits.deBruijn64tab", laid_math_bits_deBruijn64tab), ("internal/strconv.uint64pow10", laid_internal_strconv_uint64pow10), ("stile/words.signs", laid_stile_words_signs)], narrowed := true }
def CfgWalksUptoSaid : Prop := cfgWalksUptoRow.holds Tryz.pinned (OpenSpec.upto cfgWalksSpec)

/-- 'stilelaw06.CfgChecks', WHERE WHAT IT READS IS OF BULK AT MOST 1048576: true; the input reads as it did. -/
def cfgChecksUptoRow : OpenClaim := { program := "ythboippafkcoiaagreatdoor", sum := "5e3a65a8dcd1b75248d9f1326fddd613c5fdd3bbf321c8eb44b3b01fc849aa50", func := "stile/stilelaw06.CfgChecks", spec := "cfgChecks", unfollowed := true, recurses := true, named := ["internal/strconv.uint64pow10", "math/bits.deBruijn32tab", "math/bits.deBruijn64tab", "stile/words.signs"], apart := false, laid := [("math/bits.deBruijn32tab", laid_math_bits_deBruijn32tab), ("math/bits.deBruijn64tab", laid_math_bits_deBruijn64tab), ("internal/strconv.uint64pow10", laid_internal_strconv_uint64pow10), ("stile/words.signs", laid_stile_words_signs)], narrowed := true }
def CfgChecksUptoSaid : Prop := cfgChecksUptoRow.holds Tryz.pinned (OpenSpec.upto cfgChecksSpec)

/-- 'stilelaw06.CfgOwn', WHERE WHAT IT READS IS OF BULK AT MOST 1048576: true; the input reads as it did. -/
def cfgOwnUptoRow : OpenClaim := { program := "ythboippafkcoiaagreatdoor", sum := "5e3a65a8dcd1b75248d9f1326fddd613c5fdd3bbf321c8eb44b3b01fc849aa50", func := "stile/stilelaw06.CfgOwn", spec := "cfgOwn", unfollowed := true, recurses := true, named := ["internal/strconv.uint64pow10", "math/bits.deBruijn32tab", "math/bits.deBruijn64tab", "stile/words.signs"], loops := true, apart := false, laid := [("math/bits.deBruijn32tab", laid_math_bits_deBruijn32tab), ("math/bits.deBruijn64tab", laid_math_bits_deBruijn64tab), ("internal/strconv.uint64pow10", laid_internal_strconv_uint64pow10), ("stile/words.signs", laid_stile_words_signs)], narrowed := true }
def CfgOwnUptoSaid : Prop := cfgOwnUptoRow.holds Tryz.pinned (OpenSpec.upto cfgOwnSpec)

/-- 'stilelaw06.CfgTexts', WHERE WHAT IT READS IS OF BULK AT MOST 1048576: true; the input reads as it did. -/
def cfgTextsUptoRow : OpenClaim := { program := "ythboippafkcoiaagreatdoor", sum := "5e3a65a8dcd1b75248d9f1326fddd613c5fdd3bbf321c8eb44b3b01fc849aa50", func := "stile/stilelaw06.CfgTexts", spec := "cfgTexts", unfollowed := true, recurses := true, named := ["internal/strconv.uint64pow10", "math/bits.deBruijn32tab", "math/bits.deBruijn64tab", "stile/words.signs"], apart := false, laid := [("math/bits.deBruijn32tab", laid_math_bits_deBruijn32tab), ("math/bits.deBruijn64tab", laid_math_bits_deBruijn64tab), ("internal/strconv.uint64pow10", laid_internal_strconv_uint64pow10), ("stile/words.signs", laid_stile_words_signs)], narrowed := true }
def CfgTextsUptoSaid : Prop := cfgTextsUptoRow.holds Tryz.pinned (OpenSpec.upto cfgTextsSpec)

end Rows
end Go.Proofs.YthboippafkcoiaaGreatDoor

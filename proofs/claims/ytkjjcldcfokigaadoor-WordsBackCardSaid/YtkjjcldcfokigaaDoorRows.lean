/-
  NARROWER THAN 'FOR EVERY INPUT', by the rows' own cells (each row's printed sentence says how): WordsDoes: laid · WordsTexts: laid · WordsRing: laid · WordsOrder: laid · WordsBits: laid · WordsBack: laid · WordsSigns: laid.
  DERIVED. THE GIVEN ROWS OF THIS SEAT. 7 by the template 'for every input the law returns true; each argument reads behind the call as it read before'; 0 by the template 'total and deterministic' (their statements: YtkjjcldcfokigaaDoorTotals.lean).
  GIVEN WITH THE SEED: the statements are not yours to turn. If you find one false, say at which input.
  Laid BY PROGRAM, IN A SANDBOX (cutbox-rows.mjs): the forced cells as the released guide's own fill.sh prints them over the translation a739a667fabbba87… (all of the seat's roots in one cut). By AI agents, Wed Nov 11 2026. No macro, syntax, notation, axiom, sorry.
-/
import Derived.Test.YtkjjcldcfokigaaDoorChecked
import GoSem.Claim
import GoSem.ClaimJoined
import GoSem.ClaimMapViews
import Derived.JoinedTies
import Derived.KernelRfl
namespace Go.Proofs.YtkjjcldcfokigaaDoor
/- THE CELL 'sum', in the pinned program and in every row, IS THE sha256 OF THE DUMP (.gsa) THAT YtkjjcldcfokigaaDoorProg.lean LOADS. Nothing in Lean hashes anything: it is a label: what it is worth is what the hold of that sum in a sandbox is worth. -/
noncomputable def Tryd.pinned : Pinned := { name := "ytkjjcldcfokigaadoor", sum := "a739a667fabbba8708c403076847fbc87669c793be0acd6fd9ca1180b55f4b53", checked := Tryd.checked }
namespace Rows
def none {H : Type} : Left H := { results := [], args := [] }

/- WHAT THE LISTED PACKAGE-LEVEL VARIABLES READ AS WHEN THE CALL BEGINS. Each datum BY PROGRAM (the guide's laid-datum.mjs) off the statement by which the dump's own 'gosem.cut.vars' lays the variable. In a bare row this is a premise. The card (YtkjjcldcfokigaaDoorCards.lean) ties it to the program's text. -/
def laid_stile_words_signs {H : Type} : DataW H := .agg [.agg [.lit (.string []), .lit (.int .i64 0)], .agg [.lit (.string [43]), .lit (.int .i64 7)], .agg [.lit (.string [45]), .lit (.int .i64 7)], .agg [.lit (.string [42]), .lit (.int .i64 8)], .agg [.lit (.string [47]), .lit (.int .i64 8)], .agg [.lit (.string [37]), .lit (.int .i64 8)], .agg [.lit (.string [38]), .lit (.int .i64 3)], .agg [.lit (.string [124]), .lit (.int .i64 1)], .agg [.lit (.string [94]), .lit (.int .i64 2)], .agg [.lit (.string [60, 60]), .lit (.int .i64 6)], .agg [.lit (.string [62, 62]), .lit (.int .i64 6)], .agg [.lit (.string [61, 61]), .lit (.int .i64 4)], .agg [.lit (.string [33, 61]), .lit (.int .i64 4)], .agg [.lit (.string [60]), .lit (.int .i64 5)], .agg [.lit (.string [60, 61]), .lit (.int .i64 5)], .agg [.lit (.string [62]), .lit (.int .i64 5)], .agg [.lit (.string [62, 61]), .lit (.int .i64 5)], .agg [.lit (.string [45]), .lit (.int .i64 9)], .agg [.lit (.string [33]), .lit (.int .i64 9)]]

/-- 'stilelaw01.WordsDoes': WHATEVER THE INPUT: true; the input reads as it did. -/
def wordsDoesSpec : ChangeSpec := { name := "wordsDoes", fn := fun _ => fun
  | [d1, d2, d3] => { results := [.lit (.bool true)], args := [d1, d2, d3] }
  | _ => none }
def wordsDoesRow : OpenClaim := { program := "ytkjjcldcfokigaadoor", sum := "a739a667fabbba8708c403076847fbc87669c793be0acd6fd9ca1180b55f4b53", func := "stile/stilelaw01.WordsDoes", spec := "wordsDoes", inPlace := ["math/bits.Add64"], unfollowed := true, recurses := true, named := ["stile/words.signs"], apart := false, laid := [("stile/words.signs", laid_stile_words_signs)] }
def WordsDoesSaid : Prop := wordsDoesRow.holds Tryd.pinned (OpenSpec.ofChange wordsDoesSpec)

/-- ITS FALSE NEIGHBOUR: 'it returns false'. Refute it at one input. -/
def wordsDoesWrong : ChangeSpec := { name := "wordsDoes", fn := fun _ => fun
  | [d1, d2, d3] => { results := [.lit (.bool false)], args := [d1, d2, d3] }
  | _ => none }
def WordsDoesWrongFalsely : Prop := wordsDoesRow.holds Tryd.pinned (OpenSpec.ofChange wordsDoesWrong)

/-- 'stilelaw01.WordsTexts': WHATEVER THE INPUT: true; the input reads as it did. -/
def wordsTextsSpec : ChangeSpec := { name := "wordsTexts", fn := fun _ => fun
  | [d1, d2] => { results := [.lit (.bool true)], args := [d1, d2] }
  | _ => none }
def wordsTextsRow : OpenClaim := { program := "ytkjjcldcfokigaadoor", sum := "a739a667fabbba8708c403076847fbc87669c793be0acd6fd9ca1180b55f4b53", func := "stile/stilelaw01.WordsTexts", spec := "wordsTexts", inPlace := ["math/bits.Add64"], unfollowed := true, recurses := true, named := ["stile/words.signs"], apart := false, laid := [("stile/words.signs", laid_stile_words_signs)] }
def WordsTextsSaid : Prop := wordsTextsRow.holds Tryd.pinned (OpenSpec.ofChange wordsTextsSpec)

/-- ITS FALSE NEIGHBOUR: 'it returns false'. Refute it at one input. -/
def wordsTextsWrong : ChangeSpec := { name := "wordsTexts", fn := fun _ => fun
  | [d1, d2] => { results := [.lit (.bool false)], args := [d1, d2] }
  | _ => none }
def WordsTextsWrongFalsely : Prop := wordsTextsRow.holds Tryd.pinned (OpenSpec.ofChange wordsTextsWrong)

/-- 'stilelaw01.WordsRing': WHATEVER THE INPUT: true; the input reads as it did. -/
def wordsRingSpec : ChangeSpec := { name := "wordsRing", fn := fun _ => fun
  | [d1, d2, d3] => { results := [.lit (.bool true)], args := [d1, d2, d3] }
  | _ => none }
def wordsRingRow : OpenClaim := { program := "ytkjjcldcfokigaadoor", sum := "a739a667fabbba8708c403076847fbc87669c793be0acd6fd9ca1180b55f4b53", func := "stile/stilelaw01.WordsRing", spec := "wordsRing", inPlace := ["math/bits.Add64"], unfollowed := true, recurses := true, named := ["stile/words.signs"], apart := false, laid := [("stile/words.signs", laid_stile_words_signs)] }
def WordsRingSaid : Prop := wordsRingRow.holds Tryd.pinned (OpenSpec.ofChange wordsRingSpec)

/-- ITS FALSE NEIGHBOUR: 'it returns false'. Refute it at one input. -/
def wordsRingWrong : ChangeSpec := { name := "wordsRing", fn := fun _ => fun
  | [d1, d2, d3] => { results := [.lit (.bool false)], args := [d1, d2, d3] }
  | _ => none }
def WordsRingWrongFalsely : Prop := wordsRingRow.holds Tryd.pinned (OpenSpec.ofChange wordsRingWrong)

/-- 'stilelaw01.WordsOrder': WHATEVER THE INPUT: true; the input reads as it did. -/
def wordsOrderSpec : ChangeSpec := { name := "wordsOrder", fn := fun _ => fun
  | [d1, d2] => { results := [.lit (.bool true)], args := [d1, d2] }
  | _ => none }
def wordsOrderRow : OpenClaim := { program := "ytkjjcldcfokigaadoor", sum := "a739a667fabbba8708c403076847fbc87669c793be0acd6fd9ca1180b55f4b53", func := "stile/stilelaw01.WordsOrder", spec := "wordsOrder", inPlace := ["math/bits.Add64"], unfollowed := true, recurses := true, named := ["stile/words.signs"], apart := false, laid := [("stile/words.signs", laid_stile_words_signs)] }
def WordsOrderSaid : Prop := wordsOrderRow.holds Tryd.pinned (OpenSpec.ofChange wordsOrderSpec)

/-- ITS FALSE NEIGHBOUR: 'it returns false'. Refute it at one input. -/
def wordsOrderWrong : ChangeSpec := { name := "wordsOrder", fn := fun _ => fun
  | [d1, d2] => { results := [.lit (.bool false)], args := [d1, d2] }
  | _ => none }
def WordsOrderWrongFalsely : Prop := wordsOrderRow.holds Tryd.pinned (OpenSpec.ofChange wordsOrderWrong)

/-- 'stilelaw01.WordsBits': WHATEVER THE INPUT: true; the input reads as it did. -/
def wordsBitsSpec : ChangeSpec := { name := "wordsBits", fn := fun _ => fun
  | [d1, d2, d3, d4] => { results := [.lit (.bool true)], args := [d1, d2, d3, d4] }
  | _ => none }
def wordsBitsRow : OpenClaim := { program := "ytkjjcldcfokigaadoor", sum := "a739a667fabbba8708c403076847fbc87669c793be0acd6fd9ca1180b55f4b53", func := "stile/stilelaw01.WordsBits", spec := "wordsBits", inPlace := ["math/bits.Add64"], unfollowed := true, recurses := true, named := ["stile/words.signs"], apart := false, laid := [("stile/words.signs", laid_stile_words_signs)] }
def WordsBitsSaid : Prop := wordsBitsRow.holds Tryd.pinned (OpenSpec.ofChange wordsBitsSpec)

/-- ITS FALSE NEIGHBOUR: 'it returns false'. Refute it at one input. -/
def wordsBitsWrong : ChangeSpec := { name := "wordsBits", fn := fun _ => fun
  | [d1, d2, d3, d4] => { results := [.lit (.bool false)], args := [d1, d2, d3, d4] }
  | _ => none }
def WordsBitsWrongFalsely : Prop := wordsBitsRow.holds Tryd.pinned (OpenSpec.ofChange wordsBitsWrong)

/-- 'stilelaw01.WordsBack': WHATEVER THE INPUT: true; the input reads as it did. -/
def wordsBackSpec : ChangeSpec := { name := "wordsBack", fn := fun _ => fun
  | [d1, d2, d3] => { results := [.lit (.bool true)], args := [d1, d2, d3] }
  | _ => none }
def wordsBackRow : OpenClaim := { program := "ytkjjcldcfokigaadoor", sum := "a739a667fabbba8708c403076847fbc87669c793be0acd6fd9ca1180b55f4b53", func := "stile/stilelaw01.WordsBack", spec := "wordsBack", inPlace := ["math/bits.Add64"], unfollowed := true, recurses := true, named := ["stile/words.signs"], apart := false, laid := [("stile/words.signs", laid_stile_words_signs)] }
def WordsBackSaid : Prop := wordsBackRow.holds Tryd.pinned (OpenSpec.ofChange wordsBackSpec)

/-- ITS FALSE NEIGHBOUR: 'it returns false'. Refute it at one input. -/
def wordsBackWrong : ChangeSpec := { name := "wordsBack", fn := fun _ => fun
  | [d1, d2, d3] => { results := [.lit (.bool false)], args := [d1, d2, d3] }
  | _ => none }
def WordsBackWrongFalsely : Prop := wordsBackRow.holds Tryd.pinned (OpenSpec.ofChange wordsBackWrong)

/-- 'stilelaw01.WordsSigns': WHATEVER THE INPUT: true; the input reads as it did. -/
def wordsSignsSpec : ChangeSpec := { name := "wordsSigns", fn := fun _ => fun
  | [d1, d2] => { results := [.lit (.bool true)], args := [d1, d2] }
  | _ => none }
def wordsSignsRow : OpenClaim := { program := "ytkjjcldcfokigaadoor", sum := "a739a667fabbba8708c403076847fbc87669c793be0acd6fd9ca1180b55f4b53", func := "stile/stilelaw01.WordsSigns", spec := "wordsSigns", inPlace := ["math/bits.Add64"], unfollowed := true, recurses := true, named := ["stile/words.signs"], apart := false, laid := [("stile/words.signs", laid_stile_words_signs)] }
def WordsSignsSaid : Prop := wordsSignsRow.holds Tryd.pinned (OpenSpec.ofChange wordsSignsSpec)

/-- ITS FALSE NEIGHBOUR: 'it returns false'. Refute it at one input. -/
def wordsSignsWrong : ChangeSpec := { name := "wordsSigns", fn := fun _ => fun
  | [d1, d2] => { results := [.lit (.bool false)], args := [d1, d2] }
  | _ => none }
def WordsSignsWrongFalsely : Prop := wordsSignsRow.holds Tryd.pinned (OpenSpec.ofChange wordsSignsWrong)

/- THE SECOND FORM. 'bulk': how many values and letters a reading holds, each counted each time it is reached (what is shared counts as often as it is met; a slice's spare places count too). A statement '..UptoSaid' is the law's where the arguments, and the package variables that the reading takes, are together of bulk at most 1048576: NARROWER than '..Said'. Prove '..Said' where nothing that the law and all that it calls make is longer than what came in: it says more and counts as full. Else prove '..UptoSaid'. A law counts once. -/
mutual
def uptoBulk {H : Type} : DataW H → Nat
  | .lit (.string bytes) => bytes.length + 1
  | .lit _ => 1
  | .nil => 1
  | .ptr d => uptoBulk d + 1
  | .slice elems spare => uptoBulkAll elems + uptoBulkAll spare + 1
  | .agg parts => uptoBulkAll parts + 1
  | .iface _ d => uptoBulk d + 1
  | .map entries => uptoBulkEntries entries + 1
  | .held _ => 1
def uptoBulkAll {H : Type} : List (DataW H) → Nat
  | [] => 0
  | d :: r => uptoBulk d + uptoBulkAll r
def uptoBulkEntries {H : Type} : List (Lit × DataW H) → Nat
  | [] => 0
  | x :: r => uptoBulkEntry x + uptoBulkEntries r
def uptoBulkEntry {H : Type} : Lit × DataW H → Nat
  | (.string bytes, d) => bytes.length + uptoBulk d + 1
  | (_, d) => uptoBulk d + 1
 end
def uptoSmall : (H : Type) → List (DataW H) → Bool := fun _ ds => decide (uptoBulkAll ds ≤ 1048576)
def OpenSpec.upto (s : _root_.Go.ChangeSpec) : _root_.Go.OpenSpec := { _root_.Go.OpenSpec.ofChange s with cond := some uptoSmall }

/-- 'stilelaw01.WordsDoes', WHERE WHAT IT READS IS OF BULK AT MOST 1048576: true; the input reads as it did. -/
def wordsDoesUptoRow : OpenClaim := { program := "ytkjjcldcfokigaadoor", sum := "a739a667fabbba8708c403076847fbc87669c793be0acd6fd9ca1180b55f4b53", func := "stile/stilelaw01.WordsDoes", spec := "wordsDoes", inPlace := ["math/bits.Add64"], unfollowed := true, recurses := true, named := ["stile/words.signs"], apart := false, laid := [("stile/words.signs", laid_stile_words_signs)], narrowed := true }
def WordsDoesUptoSaid : Prop := wordsDoesUptoRow.holds Tryd.pinned (OpenSpec.upto wordsDoesSpec)

/-- 'stilelaw01.WordsTexts', WHERE WHAT IT READS IS OF BULK AT MOST 1048576: true; the input reads as it did. -/
def wordsTextsUptoRow : OpenClaim := { program := "ytkjjcldcfokigaadoor", sum := "a739a667fabbba8708c403076847fbc87669c793be0acd6fd9ca1180b55f4b53", func := "stile/stilelaw01.WordsTexts", spec := "wordsTexts", inPlace := ["math/bits.Add64"], unfollowed := true, recurses := true, named := ["stile/words.signs"], apart := false, laid := [("stile/words.signs", laid_stile_words_signs)], narrowed := true }
def WordsTextsUptoSaid : Prop := wordsTextsUptoRow.holds Tryd.pinned (OpenSpec.upto wordsTextsSpec)

/-- 'stilelaw01.WordsRing', WHERE WHAT IT READS IS OF BULK AT MOST 1048576: true; the input reads as it did. -/
def wordsRingUptoRow : OpenClaim := { program := "ytkjjcldcfokigaadoor", sum := "a739a667fabbba8708c403076847fbc87669c793be0acd6fd9ca1180b55f4b53", func := "stile/stilelaw01.WordsRing", spec := "wordsRing", inPlace := ["math/bits.Add64"], unfollowed := true, recurses := true, named := ["stile/words.signs"], apart := false, laid := [("stile/words.signs", laid_stile_words_signs)], narrowed := true }
def WordsRingUptoSaid : Prop := wordsRingUptoRow.holds Tryd.pinned (OpenSpec.upto wordsRingSpec)

/-- 'stilelaw01.WordsOrder', WHERE WHAT IT READS IS OF BULK AT MOST 1048576: true; the input reads as it did. -/
def wordsOrderUptoRow : OpenClaim := { program := "ytkjjcldcfokigaadoor", sum := "a739a667fabbba8708c403076847fbc87669c793be0acd6fd9ca1180b55f4b53", func := "stile/stilelaw01.WordsOrder", spec := "wordsOrder", inPlace := ["math/bits.Add64"], unfollowed := true, recurses := true, named := ["stile/words.signs"], apart := false, laid := [("stile/words.signs", laid_stile_words_signs)], narrowed := true }
def WordsOrderUptoSaid : Prop := wordsOrderUptoRow.holds Tryd.pinned (OpenSpec.upto wordsOrderSpec)

/-- 'stilelaw01.WordsBits', WHERE WHAT IT READS IS OF BULK AT MOST 1048576: true; the input reads as it did. -/
def wordsBitsUptoRow : OpenClaim := { program := "ytkjjcldcfokigaadoor", sum := "a739a667fabbba8708c403076847fbc87669c793be0acd6fd9ca1180b55f4b53", func := "stile/stilelaw01.WordsBits", spec := "wordsBits", inPlace := ["math/bits.Add64"], unfollowed := true, recurses := true, named := ["stile/words.signs"], apart := false, laid := [("stile/words.signs", laid_stile_words_signs)], narrowed := true }
def WordsBitsUptoSaid : Prop := wordsBitsUptoRow.holds Tryd.pinned (OpenSpec.upto wordsBitsSpec)

/-- 'stilelaw01.WordsBack', WHERE WHAT IT READS IS OF BULK AT MOST 1048576: true; the input reads as it did. -/
def wordsBackUptoRow : OpenClaim := { program := "ytkjjcldcfokigaadoor", sum := "a739a667fabbba8708c403076847fbc87669c793be0acd6fd9ca1180b55f4b53", func := "stile/stilelaw01.WordsBack", spec := "wordsBack", inPlace := ["math/bits.Add64"], unfollowed := true, recurses := true, named := ["stile/words.signs"], apart := false, laid := [("stile/words.signs", laid_stile_words_signs)], narrowed := true }
def WordsBackUptoSaid : Prop := wordsBackUptoRow.holds Tryd.pinned (OpenSpec.upto wordsBackSpec)

/-- 'stilelaw01.WordsSigns', WHERE WHAT IT READS IS OF BULK AT MOST 1048576: true; the input reads as it did. -/
def wordsSignsUptoRow : OpenClaim := { program := "ytkjjcldcfokigaadoor", sum := "a739a667fabbba8708c403076847fbc87669c793be0acd6fd9ca1180b55f4b53", func := "stile/stilelaw01.WordsSigns", spec := "wordsSigns", inPlace := ["math/bits.Add64"], unfollowed := true, recurses := true, named := ["stile/words.signs"], apart := false, laid := [("stile/words.signs", laid_stile_words_signs)], narrowed := true }
def WordsSignsUptoSaid : Prop := wordsSignsUptoRow.holds Tryd.pinned (OpenSpec.upto wordsSignsSpec)

end Rows
end Go.Proofs.YtkjjcldcfokigaaDoor

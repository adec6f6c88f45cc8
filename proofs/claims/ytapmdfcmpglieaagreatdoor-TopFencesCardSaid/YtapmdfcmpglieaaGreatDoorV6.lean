/- The abstract machine: what a row reads of its arguments are trees. -/
import Derived.Test.YtapmdfcmpglieaaGreatDoorV4
import Derived.ProofKit
import Derived.OpenShut
import Derived.Carry
set_option linter.all false
namespace Go.Proofs.YtapmdfcmpglieaaGreatDoor.am
open Go Go.RowKit Go.ChangeShapes Go.WideShapes Go.ChangeAt
set_option linter.unusedSimpArgs false
mutual
inductive DJ(P:Program):Nat->List Tr->Prop
 |bool {t:Nat} (b:Bool):P.underlying t=some .bool->DJ P t [.v (.bool b)]
 |int {t:Nat} {k:IntKind} (n:Int):P.underlying t=some (.int k)->DJ P t [.v (.int k n)]
 |str {t:Nat} (s:ByteArray):P.underlying t=some .string->DJ P t [.v (.string s)]
 |slice {t e:Nat} (rows:List (List Tr)):P.underlying t=some (.slice e)->yH P e rows->DJ P t [.lst (P.cellsOf e) (P.bytesOf e) rows]
 |struct {t:Nat} {fs:Array Field} (l:List Tr):P.underlying t=some (.struct fs)->y9 P (fs.toList.map (·.type)) l->DJ P t l
inductive yH(P:Program):Nat->List (List Tr)->Prop
 |nil {e:Nat}:yH P e []
 |cons {e:Nat} {r:List Tr} {rows:List (List Tr)}:DJ P e r->yH P e rows->yH P e (r::rows)
inductive y9(P:Program):List Nat->List Tr->Prop
 |nil:y9 P [] []
 |cons {t:Nat} {ts:List Nat} {a b:List Tr}:DJ P t a->y9 P ts b->y9 P (t::ts) (a++b)
end
section
variable {P:Program} {H:Type} {enc:TypeId×Value->H} {w:World} {ok:Nat->Prop}
end
end Go.Proofs.YtapmdfcmpglieaaGreatDoor.am

/- What the rows read as instructions and objects are trees; what the row's list of variables gives. What the rows of chapter 06 read as a program is a tree. -/
import Derived.Test.YthboippafkcoiaaDoorT7
import Derived.Test.YthboippafkcoiaaDoorT8
import Derived.Test.YthboippafkcoiaaDoorT10
import Derived.Test.YthboippafkcoiaaDoorTie
import Derived.Lib.LaidU8
import Derived.LaidSub
set_option linter.all false
namespace Go.Proofs.YthboippafkcoiaaDoor.am
open Go Go.Proofs Go.RowKit
def gh0:Gh:=⟨fun _ => .un,fun _=>False,[],fun _ _=>False⟩
theorem gh0_ok {w:World} {b:Nat} (h:b<w.heap.size):okB gh0 w b:=⟨h,id,fun _ ⟨_,e,_⟩=>by cases e⟩
def Tabs (w:World):Prop := ∃ t fz,w.heap[1]? = some (.cells powCells t fz)
theorem gh0_gl {w:World} (h:Tabs w):GL gh0 w:=by
 rintro b Q ⟨rfl,rfl⟩
 obtain ⟨t,fz,e⟩:=h
 exact ⟨⟨(Array.getElem?_eq_some_iff.1 e).1,fun h ⟨_,e,_⟩=>by cases e⟩,t,fz,e⟩
theorem gh0_mst {w:World} (h:Tabs w):MSt gh0 w (ofL []):=⟨fun h b e=>(by simp [ofL] at e),fun h h' b ⟨_,e,_⟩=>(by cases e),fun h b ⟨_,e,_⟩=>(by cases e),fun b (h:False)=>h.elim,fun h b ⟨_,e,_⟩=>(by cases e),gh0_gl h⟩
theorem gh0_below {g':Gh} {w w':World} (h:Grow gh0 w g' w'):Below w.heap.size w w':=⟨h.os,h.tape,h.output,h.size,fun k hk=>h.block k (gh0_ok hk)⟩
theorem K.calls {f:Nat} {args:List AV} {a:AV} (h:K f args [] (.ret a) []) (w:World) (hT:Tabs w) (vs:Array Value) (hsz:vs.size=args.length) (hv : ∀ (i:Nat) (v:Value) (a:AV),vs[i]? = some v→args[i]? = some a→Rep gh0 w v a) :
  Calls Tryd.prog f vs w fun e w'=>Below w.heap.size w w' ∧ ∃ v,e = .returned v ∧ ∃ g',Rep g' w' v a:=by
 refine (h.run gh0 w vs (fun _ _=>rfl) (gh0_mst hT) hsz hv).mono ?_
 rintro e w' ⟨g',hG,_,_,hR⟩
 cases e with
 | returned v=>exact ⟨gh0_below hG,v,rfl,g',hR⟩
 | _=>exact hR.elim
def rowLaid:List (String × DataW Unit):=Rows.cfgTreeRow.laid
def powName:String:=match rowLaid with
 | _::_::x::_=>x.1
 | _=>Rows.cfgTreeRow.func
theorem pow_global : Tryd.prog.globalNamed powName=some 1 := by kernel_rfl
theorem tabs_of {w:World} (h:laidMetH Tryd.prog rowLaid w):Tabs w:=by
 have h1:=(laidMetH_iff.1 h).1
 have hm:(powName,(Rows.laid_internal_strconv_uint64pow10:DataW Unit)) ∈ rowLaid.filter fun x=>x.2.handleName?.isNone:=List.mem_filter.2 ⟨.tail _ (.tail _ (.head _)),rfl⟩
 obtain ⟨g,t,cs,fuel,p,q1,q2,q3,q4⟩:=Lib.laidMet.reads h1 hm
 obtain rfl:=Option.some.inj (pow_global.symm.trans q1)
 obtain ⟨t0,ht0⟩ : ∃ t0,(Tryd.prog.globals[1]?).map (·.type)=some t0:=⟨_,rfl⟩
 obtain rfl:=Option.some.inj (ht0.symm.trans q2)
 cases ht0
 have hc:=Lib.cells_of_tab (zs:=Lib.pow10Tab) (k := .u64) (e := 146) (n:=20) (by kernel_rfl) (by kernel_rfl) (by kernel_rfl) (by kernel_rfl) q4
 have hcs:cs=powCells:=by apply Array.toList_inj.1; rw [hc]; rfl
 subst hcs
 unfold World.var? at q3
 rw [pow_global,Option.bind_some] at q3
 unfold Tabs
 split at q3
 ·rename_i a b c e
  cases q3
  exact ⟨b,c,e⟩
 ·cases q3
section
variable {P:Program} {t:Nat} {l:List Tr}
theorem fits_int {k:IntKind} (hu:P.underlying t=some (.int k)) (h:Fits P t l) : ∃ n,l=[.v (.int k n)]:=by
 cases h with
 | int n h=>rw [hu] at h; cases h; exact ⟨n,rfl⟩
 | bool b h=>rw [hu] at h; cases h
 | str s h=>rw [hu] at h; cases h
 | slice rows h=>rw [hu] at h; cases h
 | struct l h=>rw [hu] at h; cases h
theorem fits_str (hu:P.underlying t=some .string) (h:Fits P t l) : ∃ s,l=[.v (.string s)]:=by
 cases h with
 | int n h=>rw [hu] at h; cases h
 | bool b h=>rw [hu] at h; cases h
 | str s h=>exact ⟨s,rfl⟩
 | slice rows h=>rw [hu] at h; cases h
 | struct l h=>rw [hu] at h; cases h
theorem fits_slice {e n B:Nat} (hu:P.underlying t=some (.slice e)) (hn:P.cellsOf e=n) (hB:P.bytesOf e=B) (h:Fits P t l) : ∃ rows,l=[.lst n B rows]∧FitsR P e rows:=by
 cases h with
 | int n h=>rw [hu] at h; cases h
 | bool b h=>rw [hu] at h; cases h
 | str s h=>rw [hu] at h; cases h
 | slice rows h hr=>rw [hu] at h; cases h; rw [hn,hB]; exact ⟨rows,rfl,hr⟩
 | struct l h=>rw [hu] at h; cases h
theorem fits_struct {fs:Array Field} {ts:List Nat} (hu:P.underlying t=some (.struct fs)) (hts:fs.toList.map (·.type)=ts) (h:Fits P t l):FitsL P ts l:=by
 cases h with
 | int n h=>rw [hu] at h; cases h
 | bool b h=>rw [hu] at h; cases h
 | str s h=>rw [hu] at h; cases h
 | slice rows h=>rw [hu] at h; cases h
 | struct l h hl=>rw [hu] at h; cases h; rw [← hts]; exact hl
theorem fitsL_cons {ts:List Nat} (h:FitsL P (t::ts) l) : ∃ a b,l=a++b∧Fits P t a∧FitsL P ts b:=by
 cases h with
 | cons h1 h2=>exact ⟨_,_,rfl,h1,h2⟩
theorem fitsL_nil (h:FitsL P [] l):l=[]:=by cases h; rfl
theorem fitsR_all {e:Nat} {α:Type} {f:α→List Tr} (hf : ∀ r,Fits P e r → ∃ x,r=f x) : ∀ {rows:List (List Tr)},FitsR P e rows → ∃ l:List α,rows=l.map f
 | [],_=>⟨[],rfl⟩
 | r::rows,h=>by
  cases h with
  | cons h1 h2 =>
   obtain ⟨x,rfl⟩:=hf r h1
   obtain ⟨l,rfl⟩:=fitsR_all hf h2
   exact ⟨x::l,rfl⟩
end
noncomputable abbrev PP:Program := Tryd.prog
theorem arr_get {l:List Value} {i:Nat} {c:Value} (h:l.toArray[i]? = some c):l[i]? = some c:=by simpa using h
theorem agg_of {W:World} {cs:Array Value} {ts:List Tr} (h1:cs.size=ts.length) (h2 : ∀ (i:Nat) (c:Value) (t:Tr),cs[i]? = some c→ts[i]? = some t→RepT (okB gh0 W) W c t):Rep gh0 W (.agg cs) (.agg (ts.map .tr)):=by
 refine .agg (by rw [List.length_map]; exact h1) (fun a ha => ?_) (fun i c a e1 e2 => ?_)
 ·obtain ⟨t,_,rfl⟩:=List.mem_map.1 ha; rfl
 ·obtain ⟨t,ht,rfl⟩:=map_get e2
  exact .tr (h2 i c t e1 ht)
end Go.Proofs.YthboippafkcoiaaDoor.am
namespace Go.Proofs.YthboippafkcoiaaDoor.am
open Go Go.Proofs Go.RowKit
theorem decl_fits {l:List Tr} (h:Fits PP 91 l) : ∃ d:Decl,l=d.cells:=by
 obtain ⟨a,r1,rfl,h1,q1⟩:=fitsL_cons (fits_struct Tryd.underlying91 rfl h)
 obtain ⟨b,r2,rfl,h2,q2⟩:=fitsL_cons q1
 obtain ⟨c,r3,rfl,h3,q3⟩:=fitsL_cons q2
 obtain rfl:=fitsL_nil q3
 obtain ⟨s,rfl⟩:=fits_str Tryd.underlying9 h1
 obtain ⟨w,rfl⟩:=fits_int Tryd.underlying2 h2
 obtain ⟨n,rfl⟩:=fits_int Tryd.underlying3 h3
 exact ⟨⟨s,w,n⟩,rfl⟩
theorem decls_fits {l:List Tr} (h:Fits PP 22 l) : ∃ d:List Decl,l=[declsT d]:=by
 obtain ⟨rows,rfl,hr⟩:=fits_slice (n:=3) (B:=32) Tryd.underlying22 (by kernel_rfl) (by kernel_rfl) h
 obtain ⟨l,rfl⟩:=fitsR_all (fun r h=>decl_fits h) hr
 exact ⟨l,rfl⟩
theorem expr_fits : ∀ (n:Nat),(∀ (l:List Tr),SizeOf.sizeOf l<n→Fits PP 81 l → ∃ e:Expr,l=e.cells) ∧ ∀ (rows:List (List Tr)),SizeOf.sizeOf rows<n→FitsR PP 81 rows → ∃ e:List Expr,rows=Expr.rows e:=by
 intro n
 induction n with
 | zero=>exact ⟨fun l h=>by omega,fun l h=>by omega⟩
 | succ n ih =>
  refine ⟨fun l hn h => ?_,fun rows hn h => ?_⟩
  ·obtain ⟨a,r1,rfl,h1,q1⟩:=fitsL_cons (fits_struct Tryd.underlying81 rfl h)
   obtain ⟨b,r2,rfl,h2,q2⟩:=fitsL_cons q1
   obtain ⟨c,r3,rfl,h3,q3⟩:=fitsL_cons q2
   obtain ⟨d,r4,rfl,h4,q4⟩:=fitsL_cons q3
   obtain ⟨e,r5,rfl,h5,q5⟩:=fitsL_cons q4
   obtain ⟨f,r6,rfl,h6,q6⟩:=fitsL_cons q5
   obtain rfl:=fitsL_nil q6
   obtain ⟨x1,rfl⟩:=fits_int Tryd.underlying79 h1
   obtain ⟨x2,rfl⟩:=fits_int Tryd.underlying50 h2
   obtain ⟨x3,rfl⟩:=fits_int Tryd.underlying2 h3
   obtain ⟨x4,rfl⟩:=fits_str Tryd.underlying9 h4
   obtain ⟨rows,rfl,hr⟩:=fits_slice (n:=6) (B:=64) Tryd.underlying75 (by kernel_rfl) (by kernel_rfl) h5
   obtain ⟨x6,rfl⟩:=fits_int Tryd.underlying3 h6
   obtain ⟨x5,rfl⟩:=ih.2 rows (by simp at hn; omega) hr
   exact ⟨.mk x1 x2 x3 x4 x5 x6,rfl⟩
  ·cases h with
   | nil=>exact ⟨[],rfl⟩
   | cons h1 h2 =>
    simp at hn
    obtain ⟨e,rfl⟩:=ih.1 _ (by omega) h1
    obtain ⟨l,rfl⟩:=ih.2 _ (by omega) h2
    exact ⟨e::l,rfl⟩
theorem stmt_fits : ∀ (n:Nat),(∀ (l:List Tr),SizeOf.sizeOf l<n→Fits PP 77 l → ∃ e:Stmt,l=e.cells) ∧ ∀ (rows:List (List Tr)),SizeOf.sizeOf rows<n→FitsR PP 77 rows → ∃ e:List Stmt,rows=Stmt.rows e:=by
 intro n
 induction n with
 | zero=>exact ⟨fun l h=>by omega,fun l h=>by omega⟩
 | succ n ih =>
  refine ⟨fun l hn h => ?_,fun rows hn h => ?_⟩
  ·obtain ⟨a,r1,rfl,h1,q1⟩:=fitsL_cons (fits_struct Tryd.underlying77 rfl h)
   obtain ⟨b,r2,rfl,h2,q2⟩:=fitsL_cons q1
   obtain ⟨c,r3,rfl,h3,q3⟩:=fitsL_cons q2
   obtain ⟨d,r4,rfl,h4,q4⟩:=fitsL_cons q3
   obtain ⟨e,r5,rfl,h5,q5⟩:=fitsL_cons q4
   obtain ⟨f,r6,rfl,h6,q6⟩:=fitsL_cons q5
   obtain ⟨g,r7,rfl,h7,q7⟩:=fitsL_cons q6
   obtain rfl:=fitsL_nil q7
   obtain ⟨x1,rfl⟩:=fits_int Tryd.underlying74 h1
   obtain ⟨x2,rfl⟩:=fits_str Tryd.underlying9 h2
   obtain ⟨x3,rfl⟩:=fits_str Tryd.underlying9 h3
   obtain ⟨rows4,rfl,hr4⟩:=fits_slice (n:=6) (B:=64) Tryd.underlying75 (by kernel_rfl) (by kernel_rfl) h4
   obtain ⟨rows5,rfl,hr5⟩:=fits_slice (n:=7) (B:=120) Tryd.underlying35 (by kernel_rfl) (by kernel_rfl) h5
   obtain ⟨rows6,rfl,hr6⟩:=fits_slice (n:=7) (B:=120) Tryd.underlying35 (by kernel_rfl) (by kernel_rfl) h6
   obtain ⟨x7,rfl⟩:=fits_int Tryd.underlying3 h7
   obtain ⟨x4,rfl⟩:=(expr_fits _).2 rows4 (Nat.lt_succ_self _) hr4
   obtain ⟨x5,rfl⟩:=ih.2 rows5 (by simp at hn; omega) hr5
   obtain ⟨x6,rfl⟩:=ih.2 rows6 (by simp at hn; omega) hr6
   exact ⟨.mk x1 x2 x3 x4 x5 x6 x7,rfl⟩
  ·cases h with
   | nil=>exact ⟨[],rfl⟩
   | cons h1 h2 =>
    simp at hn
    obtain ⟨e,rfl⟩:=ih.1 _ (by omega) h1
    obtain ⟨l,rfl⟩:=ih.2 _ (by omega) h2
    exact ⟨e::l,rfl⟩
theorem thread_fits {l:List Tr} (h:Fits PP 37 l) : ∃ d:Thread,l=d.cells:=by
 obtain ⟨a,r1,rfl,h1,q1⟩:=fitsL_cons (fits_struct Tryd.underlying37 rfl h)
 obtain ⟨b,r2,rfl,h2,q2⟩:=fitsL_cons q1
 obtain ⟨c,r3,rfl,h3,q3⟩:=fitsL_cons q2
 obtain ⟨d,r4,rfl,h4,q4⟩:=fitsL_cons q3
 obtain rfl:=fitsL_nil q4
 obtain ⟨s,rfl⟩:=fits_str Tryd.underlying9 h1
 obtain ⟨ls,rfl⟩:=decls_fits h2
 obtain ⟨rows,rfl,hr⟩:=fits_slice (n:=7) (B:=120) Tryd.underlying35 (by kernel_rfl) (by kernel_rfl) h3
 obtain ⟨n,rfl⟩:=fits_int Tryd.underlying3 h4
 obtain ⟨b,rfl⟩:=(stmt_fits _).2 rows (Nat.lt_succ_self _) hr
 exact ⟨⟨s,ls,b,n⟩,rfl⟩
theorem prg_fits {l:List Tr} (h:Fits PP 25 l) : ∃ p:Prg,l=[declsT p.shared,declsT p.locks,threadsT p.threads]:=by
 obtain ⟨a,r1,rfl,h1,q1⟩:=fitsL_cons (fits_struct Tryd.underlying25 rfl h)
 obtain ⟨b,r2,rfl,h2,q2⟩:=fitsL_cons q1
 obtain ⟨c,r3,rfl,h3,q3⟩:=fitsL_cons q2
 obtain rfl:=fitsL_nil q3
 obtain ⟨x,rfl⟩:=decls_fits h1
 obtain ⟨y,rfl⟩:=decls_fits h2
 obtain ⟨rows,rfl,hr⟩:=fits_slice (n:=4) (B:=72) Tryd.underlying23 (by kernel_rfl) (by kernel_rfl) h3
 obtain ⟨z,rfl⟩:=fitsR_all (fun r h=>thread_fits h) hr
 exact ⟨⟨x,y,z⟩,rfl⟩
def progTypes:List Nat:=[25,22,23,91,9,2,3,37,35,77,74,75,81,79,50]
theorem prog_closed:closedB PP progTypes=true:=by kernel_rfl
set_option maxRecDepth 100000 in
theorem open_prog {H:Type} {enc:TypeId × Value→H} {W:World} {cs:Array Value} {d:DataW H} {ps:List MemPlace} (h:DataW.Trod enc PP W 0 (fun _=>true) true 25 (.agg cs) d ps)
  (hw:(d.weights PP 25).all (· ≤ reachBytes)=true) (hp : ∀ x ∈ ps,x.block<W.heap.size) : ∃ p:Prg,Rep gh0 W (.agg cs) p.av:=by
 obtain ⟨fuel,hf⟩:=h
 obtain ⟨trs,h1,h2⟩:=read (ok:=okB gh0 W) prog_closed (fun b hb=>gh0_ok hb) fuel _ _ _ _ (by decide) hf hw hp
 obtain ⟨p,rfl⟩:=prg_fits h1
 exact ⟨p,agg_of h2.1 fun i c t e1 e2=>h2.2 i c t (by simpa [Value.cells] using e1) e2⟩
end Go.Proofs.YthboippafkcoiaaDoor.am

/- What the rows read as instructions and objects are trees; what the row's list of variables gives. What the rows of chapter 06 read as a program is a tree. -/
import Derived.Test.YthboippafkcoiaaGreatDoorV7
import Derived.Test.YthboippafkcoiaaGreatDoorV8
import Derived.Test.YthboippafkcoiaaGreatDoorV10
import Derived.Test.YthboippafkcoiaaGreatDoorTie
import Derived.Lib.LaidU8
import Derived.LaidSub
import Derived.ProofKit
import Derived.OpenShut
set_option linter.all false
namespace Go.Proofs.YthboippafkcoiaaGreatDoor.am
open Go Go.Proofs Go.RowKit Go.ChangeShapes Go.WideShapes Go.ChangeAt
def lvlL:List Int:=[0,7,7,8,8,8,3,1,2,6,6,4,4,5,5,5,5,9,9]
def gh0:Gh:=⟨fun _ => .un,fun _=>False,[],fun _ _=>False⟩
theorem gh0_ok {w:World} {b:Nat} (h:b<w.heap.size):okB gh0 w b:=⟨h,id,fun _ ⟨_,e,_⟩=>by cases e⟩
def Tabs (w:World):Prop:=(∃ t fz,w.heap[1]? = some (.cells powCells t fz))∧sgnQ w.heap[0]?
theorem gh0_gl {w:World} (h:Tabs w):GL gh0 w:=by
 rintro b Q (⟨rfl,rfl⟩ | ⟨rfl,rfl⟩)
 ·obtain ⟨⟨t,fz,e⟩,_⟩:=h
  exact ⟨⟨(Array.getElem?_eq_some_iff.1 e).1,fun h ⟨_,e,_⟩=>by cases e⟩,t,fz,e⟩
 ·obtain ⟨_,hs⟩:=h
  obtain ⟨cs,t,fz,e,h2⟩:=hs
  exact ⟨⟨(Array.getElem?_eq_some_iff.1 e).1,fun h ⟨_,e,_⟩=>by cases e⟩,cs,t,fz,e,h2⟩
theorem gh0_mst {w:World} (h:Tabs w):MSt gh0 w (ofL []):=⟨fun h b e=>(by simp [ofL] at e),fun h h' b ⟨_,e,_⟩=>(by cases e),fun h b ⟨_,e,_⟩=>(by cases e),fun b (h:False)=>h.elim,fun h b ⟨_,e,_⟩=>(by cases e),gh0_gl h⟩
theorem gh0_below {g':Gh} {w w':World} (h:Grow gh0 w g' w'):Below w.heap.size w w':=⟨h.os,h.tape,h.output,h.size,fun k hk=>h.block k (gh0_ok hk)⟩
theorem K.calls {f:Nat} {args:List AV} {a:AV} (h:K f args [] (.ret a) []) (w:World) (hT:Tabs w) (vs:Array Value) (hsz:vs.size=args.length) (hv : ∀ (i:Nat) (v:Value) (a:AV),vs[i]? = some v→args[i]? = some a→Rep gh0 w v a) :
  Calls Tryz.prog f vs w fun e w'=>Below w.heap.size w w' ∧ ∃ v,e = .returned v ∧ ∃ g',Rep g' w' v a:=by
 refine (h.run gh0 w vs (fun _ _=>rfl) (gh0_mst hT) hsz hv).mono ?_
 rintro e w' ⟨g',hG,_,_,hR⟩
 cases e with
 | returned v=>exact ⟨gh0_below hG,v,rfl,g',hR⟩
 | _=>exact hR.elim
def rowLaid:List (String × DataW Unit):=Rows.cfgWalksRow.laid
def powName:String:=match rowLaid with
 | _::_::x::_=>x.1
 | _=>Rows.cfgWalksRow.func
theorem pow_global : Tryz.prog.globalNamed powName=some 1 := by kernel_rfl
theorem pow_of {w:World} (h:laidMetH Tryz.prog rowLaid w) : ∃ t fz,w.heap[1]? = some (.cells powCells t fz):=by
 have h1:=(laidMetH_iff.1 h).1
 have hm:(powName,(Rows.laid_internal_strconv_uint64pow10:DataW Unit)) ∈ rowLaid.filter fun x=>x.2.handleName?.isNone:=List.mem_filter.2 ⟨.tail _ (.tail _ (.head _)),rfl⟩
 obtain ⟨g,t,cs,fuel,p,q1,q2,q3,q4⟩:=Lib.laidMet.reads h1 hm
 obtain rfl:=Option.some.inj (pow_global.symm.trans q1)
 obtain ⟨t0,ht0⟩ : ∃ t0,(Tryz.prog.globals[1]?).map (·.type)=some t0:=⟨_,rfl⟩
 obtain rfl:=Option.some.inj (ht0.symm.trans q2)
 cases ht0
 have hc:=Lib.cells_of_tab (zs:=Lib.pow10Tab) (k := .u64) (e := 169) (n:=20) (by kernel_rfl) (by kernel_rfl) (by kernel_rfl) (by kernel_rfl) q4
 have hcs:cs=powCells:=by apply Array.toList_inj.1; rw [hc]; rfl
 subst hcs
 unfold World.var? at q3
 rw [pow_global,Option.bind_some] at q3
 split at q3
 ·rename_i a b c e
  cases q3
  exact ⟨b,c,e⟩
 ·cases q3
def signsName:String:=match rowLaid with
 | _::_::_::x::_=>x.1
 | _=>Rows.cfgWalksRow.func
theorem signs_global : Tryz.prog.globalNamed signsName=some 0 := by kernel_rfl
theorem signs_data {H:Type}:(Rows.laid_stile_words_signs:DataW H) = .agg ((List.range 19).map fun k => .agg [.lit (.string (sgnL.getD k [])),.lit (.int .i64 (lvlL.getD k 0))]):=rfl
theorem signs_und : Tryz.prog.underlying 211 = some (.array 19 210):=by kernel_rfl
theorem signs_cells : Tryz.prog.cellsOf 210 = 2:=by kernel_rfl
theorem str_cells : Tryz.prog.cellsOf 9 = 1:=by kernel_rfl
theorem signs_of {w:World} (h:laidMetH Tryz.prog rowLaid w):sgnQ w.heap[0]? := by
 have h1:=(laidMetH_iff.1 h).1
 have hm:(signsName,(Rows.laid_stile_words_signs:DataW Unit)) ∈ rowLaid.filter fun x=>x.2.handleName?.isNone:=List.mem_filter.2 ⟨.tail _ (.tail _ (.tail _ (.head _))),rfl⟩
 obtain ⟨g,t,cs,fuel,p,q1,q2,q3,hd⟩:=Lib.laidMet.reads h1 hm
 obtain rfl:=Option.some.inj (signs_global.symm.trans q1)
 have ht0:(Tryz.prog.globals[0]?).map (·.type)=some 211 := by kernel_rfl
 obtain rfl:=Option.some.inj (ht0.symm.trans q2)
 obtain ⟨xs,m,_,hx,hl,hxl,hi⟩:=DataW.trod_array signs_und hd
 have hxs:xs.map (·.1)=(List.range 19).map fun k=>DataW.agg [.lit (.string (sgnL.getD k [])),.lit (.int .i64 (lvlL.getD k 0))]:=by
  have:=congrArg Prod.fst hx
  simp only [signs_data,DataW.agg.injEq] at this
  exact this.symm
 have key : ∀ k,k<19→cs[k*2]? = some (.string (sgn k)):=by
  intro k hk
  have h1:=hi k hk
  have h2:xs[k]? = some (xs[k]'(by omega)):=List.getElem?_eq_getElem (by omega)
  rw [h2] at h1
  obtain ⟨y0,y1,n,hy,hlen,hf0,hf1⟩:=trod_struct2 Tryz.underlying210 h1
  have h3:(xs.map (·.1))[k]? = some (DataW.agg [y0.1,y1.1]):=by rw [List.getElem?_map,h2,hy]; rfl
  rw [hxs] at h3
  simp only [List.getElem?_map,List.getElem?_range hk,Option.map_some,Option.some.injEq,DataW.agg.injEq,List.cons.injEq,and_true] at h3
  obtain ⟨e0,e1⟩:=h3
  obtain ⟨s,hs,hy0,_⟩:=DataW.trod_string Tryz.underlying9 hf0
  rw [hy0] at e0
  simp only [DataW.lit.injEq,Lit.string.injEq] at e0
  have c0:=congrArg (·[0]?) hs
  simp only [signs_cells,str_cells,List.getElem?_take,List.getElem?_drop] at c0
  have:cs[k*2]? = some (.string s):=by simpa using c0
  rw [this]
  unfold sgn
  rw [e0]
 unfold World.var? at q3
 rw [signs_global,Option.bind_some] at q3
 split at q3
 ·rename_i a b c e
  cases q3
  exact ⟨_,b,c,e,key⟩
 ·cases q3
theorem tabs_of {w:World} (h:laidMetH Tryz.prog rowLaid w):Tabs w:=⟨pow_of h,signs_of h⟩
section
variable {P:Program} {t:Nat} {l:List Tr}
theorem fits_int {k:IntKind} (hu:P.underlying t=some (.int k)) (h:Fits P t l) : ∃ n,l=[.v (.int k n)]:=by
 cases h with
 | int n h=>rw [hu] at h; cases h; exact ⟨n,rfl⟩
 | bool b h=>rw [hu] at h; cases h
 | str s h=>rw [hu] at h; cases h
 | slice rows h=>rw [hu] at h; cases h
 | struct l h=>rw [hu] at h; cases h
theorem fits_bool (hu:P.underlying t=some .bool) (h:Fits P t l) : ∃ n,l=[.v (.bool n)]:=by
 cases h with
 | int n h=>rw [hu] at h; cases h
 | bool b h=>exact ⟨b,rfl⟩
 | str s h=>rw [hu] at h; cases h
 | slice rows h=>rw [hu] at h; cases h
 | struct l h=>rw [hu] at h; cases h
theorem fits_str (hu:P.underlying t=some .string) (h:Fits P t l) : ∃ s,l=[.v (.string s)]:=by
 cases h with
 | int n h=>rw [hu] at h; cases h
 | bool b h=>rw [hu] at h; cases h
 | str s h=>exact ⟨s,rfl⟩
 | slice rows h=>rw [hu] at h; cases h
 | struct l h=>rw [hu] at h; cases h
theorem fits_slice {e n B:Nat} (hu:P.underlying t=some (.slice e)) (hn:P.cellsOf e=n) (hB:P.bytesOf e=B) (h:Fits P t l) : ∃ rows,l=[.lst n B rows]∧FitsR P e rows:=by
 cases h with
 | int n h=>rw [hu] at h; cases h
 | bool b h=>rw [hu] at h; cases h
 | str s h=>rw [hu] at h; cases h
 | slice rows h hr=>rw [hu] at h; cases h; rw [hn,hB]; exact ⟨rows,rfl,hr⟩
 | struct l h=>rw [hu] at h; cases h
theorem fits_struct {fs:Array Field} {ts:List Nat} (hu:P.underlying t=some (.struct fs)) (hts:fs.toList.map (·.type)=ts) (h:Fits P t l):FitsL P ts l:=by
 cases h with
 | int n h=>rw [hu] at h; cases h
 | bool b h=>rw [hu] at h; cases h
 | str s h=>rw [hu] at h; cases h
 | slice rows h=>rw [hu] at h; cases h
 | struct l h hl=>rw [hu] at h; cases h; rw [← hts]; exact hl
theorem fitsL_cons {ts:List Nat} (h:FitsL P (t::ts) l) : ∃ a b,l=a++b∧Fits P t a∧FitsL P ts b:=by
 cases h with
 | cons h1 h2=>exact ⟨_,_,rfl,h1,h2⟩
theorem fitsL_nil (h:FitsL P [] l):l=[]:=by cases h; rfl
theorem fitsR_all {e:Nat} {α:Type} {f:α→List Tr} (hf : ∀ r,Fits P e r → ∃ x,r=f x) : ∀ {rows:List (List Tr)},FitsR P e rows → ∃ l:List α,rows=l.map f
 | [],_=>⟨[],rfl⟩
 | r::rows,h=>by
  cases h with
  | cons h1 h2 =>
   obtain ⟨x,rfl⟩:=hf r h1
   obtain ⟨l,rfl⟩:=fitsR_all hf h2
   exact ⟨x::l,rfl⟩
end
noncomputable abbrev PP:Program := Tryz.prog
theorem val_fits {l:List Tr} (h:Fits PP 73 l) : ∃ d:Val,l=[tb d.s,ti d.k,ti d.w]:=by
 obtain ⟨a1,r1,rfl,h1,q1⟩:=fitsL_cons (fits_struct Tryz.underlying73 rfl h)
 obtain ⟨a2,r2,rfl,h2,q2⟩:=fitsL_cons q1
 obtain ⟨a3,r3,rfl,h3,q3⟩:=fitsL_cons q2
 obtain rfl:=fitsL_nil q3
 obtain ⟨x1,rfl⟩:=fits_bool Tryz.underlying4 h1
 obtain ⟨x2,rfl⟩:=fits_int Tryz.underlying3 h2
 obtain ⟨x3,rfl⟩:=fits_int Tryz.underlying2 h3
 exact ⟨⟨x1,x2,x3⟩,rfl⟩
theorem nd_fits {l:List Tr} (h:Fits PP 75 l) : ∃ d:Nd,l=d.cells:=by
 obtain ⟨a1,r1,rfl,h1,q1⟩:=fitsL_cons (fits_struct Tryz.underlying75 rfl h)
 obtain ⟨a2,r2,rfl,h2,q2⟩:=fitsL_cons q1
 obtain ⟨a3,r3,rfl,h3,q3⟩:=fitsL_cons q2
 obtain ⟨a4,r4,rfl,h4,q4⟩:=fitsL_cons q3
 obtain ⟨a5,r5,rfl,h5,q5⟩:=fitsL_cons q4
 obtain ⟨a6,r6,rfl,h6,q6⟩:=fitsL_cons q5
 obtain ⟨a7,r7,rfl,h7,q7⟩:=fitsL_cons q6
 obtain ⟨a8,r8,rfl,h8,q8⟩:=fitsL_cons q7
 obtain ⟨a9,r9,rfl,h9,q9⟩:=fitsL_cons q8
 obtain rfl:=fitsL_nil q9
 obtain ⟨x1,rfl⟩:=fits_int Tryz.underlying51 h1
 obtain ⟨x2,rfl⟩:=fits_int Tryz.underlying71 h2
 obtain ⟨x3,rfl⟩:=fits_int Tryz.underlying3 h3
 obtain ⟨x4,rfl⟩:=fits_int Tryz.underlying3 h4
 obtain ⟨x7,rfl⟩:=fits_int Tryz.underlying3 h7
 obtain ⟨x8,rfl⟩:=fits_int Tryz.underlying3 h8
 obtain ⟨x9,rfl⟩:=fits_int Tryz.underlying3 h9
 obtain ⟨x5,rfl⟩:=val_fits h5
 obtain ⟨x6,rfl⟩:=val_fits h6
 exact ⟨⟨x1,x2,x3,x4,x5,x6,x7,x8,x9⟩,rfl⟩
theorem gr_fits {l:List Tr} (h:Fits PP 50 l) : ∃ d:Gr,l=d.cells:=by
 obtain ⟨a1,r1,rfl,h1,q1⟩:=fitsL_cons (fits_struct Tryz.underlying50 rfl h)
 obtain ⟨a2,r2,rfl,h2,q2⟩:=fitsL_cons q1
 obtain ⟨a3,r3,rfl,h3,q3⟩:=fitsL_cons q2
 obtain ⟨a4,r4,rfl,h4,q4⟩:=fitsL_cons q3
 obtain rfl:=fitsL_nil q4
 obtain ⟨s,rfl⟩:=fits_str Tryz.underlying9 h1
 obtain ⟨x2,rfl⟩:=fits_int Tryz.underlying3 h2
 obtain ⟨x3,rfl⟩:=fits_int Tryz.underlying3 h3
 obtain ⟨rows,rfl,hr⟩:=fits_slice (n:=13) (B:=96) Tryz.underlying48 (by kernel_rfl) (by kernel_rfl) h4
 obtain ⟨c,rfl⟩:=fitsR_all (fun r h=>nd_fits h) hr
 exact ⟨⟨s,x2,x3,c⟩,rfl⟩
def grTypes:List Nat:=[50,9,3,48,75,51,71,73,4,2]
theorem gr_closed:closedB PP grTypes=true:=by kernel_rfl
theorem arr_get {l:List Value} {i:Nat} {c:Value} (h:l.toArray[i]? = some c):l[i]? = some c:=by simpa using h
theorem agg_of {W:World} {cs:Array Value} {ts:List Tr} (h1:cs.size=ts.length) (h2 : ∀ (i:Nat) (c:Value) (t:Tr),cs[i]? = some c→ts[i]? = some t→RepT (okB gh0 W) W c t):Rep gh0 W (.agg cs) (.agg (ts.map .tr)):=by
 refine .agg (by rw [List.length_map]; exact h1) (fun a ha => ?_) (fun i c a e1 e2 => ?_)
 ·obtain ⟨t,_,rfl⟩:=List.mem_map.1 ha; rfl
 ·obtain ⟨t,ht,rfl⟩:=map_get e2
  exact .tr (h2 i c t e1 ht)
set_option maxRecDepth 100000 in
theorem open_graph {H:Type} {enc:TypeId × Value→H} {W:World} {cs:Array Value} {d:DataW H} {ps:List MemPlace} (h:DataW.Trod enc PP W 0 (fun _=>true) true 50 (.agg cs) d ps)
  (hw:(d.weights PP 50).all (· ≤ reachBytes)=true) (hp : ∀ x ∈ ps,x.block<W.heap.size) : ∃ p:Gr,Rep gh0 W (.agg cs) p.av:=by
 obtain ⟨fuel,hf⟩:=h
 obtain ⟨trs,h1,h2⟩:=read (ok:=okB gh0 W) gr_closed (fun b hb=>gh0_ok hb) fuel _ _ _ _ (by decide) hf hw hp
 obtain ⟨p,rfl⟩:=gr_fits h1
 exact ⟨p,agg_of h2.1 fun i c t e1 e2=>h2.2 i c t (by simpa [Value.cells] using e1) e2⟩
end Go.Proofs.YthboippafkcoiaaGreatDoor.am
namespace Go.Proofs.YthboippafkcoiaaGreatDoor.am
open Go Go.Proofs Go.RowKit
theorem decl_fits {l:List Tr} (h:Fits PP 77 l) : ∃ d:Decl,l=d.cells:=by
 obtain ⟨a,r1,rfl,h1,q1⟩:=fitsL_cons (fits_struct Tryz.underlying77 rfl h)
 obtain ⟨b,r2,rfl,h2,q2⟩:=fitsL_cons q1
 obtain ⟨c,r3,rfl,h3,q3⟩:=fitsL_cons q2
 obtain rfl:=fitsL_nil q3
 obtain ⟨s,rfl⟩:=fits_str Tryz.underlying9 h1
 obtain ⟨w,rfl⟩:=fits_int Tryz.underlying2 h2
 obtain ⟨n,rfl⟩:=fits_int Tryz.underlying3 h3
 exact ⟨⟨s,w,n⟩,rfl⟩
theorem decls_fits {l:List Tr} (h:Fits PP 22 l) : ∃ d:List Decl,l=[declsT d]:=by
 obtain ⟨rows,rfl,hr⟩:=fits_slice (n:=3) (B:=32) Tryz.underlying22 (by kernel_rfl) (by kernel_rfl) h
 obtain ⟨l,rfl⟩:=fitsR_all (fun r h=>decl_fits h) hr
 exact ⟨l,rfl⟩
theorem expr_fits : ∀ (n:Nat),(∀ (l:List Tr),SizeOf.sizeOf l<n→Fits PP 143 l → ∃ e:Expr,l=e.cells) ∧ ∀ (rows:List (List Tr)),SizeOf.sizeOf rows<n→FitsR PP 143 rows → ∃ e:List Expr,rows=Expr.rows e:=by
 intro n
 induction n with
 | zero=>exact ⟨fun l h=>by omega,fun l h=>by omega⟩
 | succ n ih =>
  refine ⟨fun l hn h => ?_,fun rows hn h => ?_⟩
  ·obtain ⟨a,r1,rfl,h1,q1⟩:=fitsL_cons (fits_struct Tryz.underlying143 rfl h)
   obtain ⟨b,r2,rfl,h2,q2⟩:=fitsL_cons q1
   obtain ⟨c,r3,rfl,h3,q3⟩:=fitsL_cons q2
   obtain ⟨d,r4,rfl,h4,q4⟩:=fitsL_cons q3
   obtain ⟨e,r5,rfl,h5,q5⟩:=fitsL_cons q4
   obtain ⟨f,r6,rfl,h6,q6⟩:=fitsL_cons q5
   obtain rfl:=fitsL_nil q6
   obtain ⟨x1,rfl⟩:=fits_int Tryz.underlying141 h1
   obtain ⟨x2,rfl⟩:=fits_int Tryz.underlying71 h2
   obtain ⟨x3,rfl⟩:=fits_int Tryz.underlying2 h3
   obtain ⟨x4,rfl⟩:=fits_str Tryz.underlying9 h4
   obtain ⟨rows,rfl,hr⟩:=fits_slice (n:=6) (B:=64) Tryz.underlying103 (by kernel_rfl) (by kernel_rfl) h5
   obtain ⟨x6,rfl⟩:=fits_int Tryz.underlying3 h6
   obtain ⟨x5,rfl⟩:=ih.2 rows (by simp at hn; omega) hr
   exact ⟨.mk x1 x2 x3 x4 x5 x6,rfl⟩
  ·cases h with
   | nil=>exact ⟨[],rfl⟩
   | cons h1 h2 =>
    simp at hn
    obtain ⟨e,rfl⟩:=ih.1 _ (by omega) h1
    obtain ⟨l,rfl⟩:=ih.2 _ (by omega) h2
    exact ⟨e::l,rfl⟩
theorem stmt_fits : ∀ (n:Nat),(∀ (l:List Tr),SizeOf.sizeOf l<n→Fits PP 105 l → ∃ e:Stmt,l=e.cells) ∧ ∀ (rows:List (List Tr)),SizeOf.sizeOf rows<n→FitsR PP 105 rows → ∃ e:List Stmt,rows=Stmt.rows e:=by
 intro n
 induction n with
 | zero=>exact ⟨fun l h=>by omega,fun l h=>by omega⟩
 | succ n ih =>
  refine ⟨fun l hn h => ?_,fun rows hn h => ?_⟩
  ·obtain ⟨a,r1,rfl,h1,q1⟩:=fitsL_cons (fits_struct Tryz.underlying105 rfl h)
   obtain ⟨b,r2,rfl,h2,q2⟩:=fitsL_cons q1
   obtain ⟨c,r3,rfl,h3,q3⟩:=fitsL_cons q2
   obtain ⟨d,r4,rfl,h4,q4⟩:=fitsL_cons q3
   obtain ⟨e,r5,rfl,h5,q5⟩:=fitsL_cons q4
   obtain ⟨f,r6,rfl,h6,q6⟩:=fitsL_cons q5
   obtain ⟨g,r7,rfl,h7,q7⟩:=fitsL_cons q6
   obtain rfl:=fitsL_nil q7
   obtain ⟨x1,rfl⟩:=fits_int Tryz.underlying102 h1
   obtain ⟨x2,rfl⟩:=fits_str Tryz.underlying9 h2
   obtain ⟨x3,rfl⟩:=fits_str Tryz.underlying9 h3
   obtain ⟨rows4,rfl,hr4⟩:=fits_slice (n:=6) (B:=64) Tryz.underlying103 (by kernel_rfl) (by kernel_rfl) h4
   obtain ⟨rows5,rfl,hr5⟩:=fits_slice (n:=7) (B:=120) Tryz.underlying39 (by kernel_rfl) (by kernel_rfl) h5
   obtain ⟨rows6,rfl,hr6⟩:=fits_slice (n:=7) (B:=120) Tryz.underlying39 (by kernel_rfl) (by kernel_rfl) h6
   obtain ⟨x7,rfl⟩:=fits_int Tryz.underlying3 h7
   obtain ⟨x4,rfl⟩:=(expr_fits _).2 rows4 (Nat.lt_succ_self _) hr4
   obtain ⟨x5,rfl⟩:=ih.2 rows5 (by simp at hn; omega) hr5
   obtain ⟨x6,rfl⟩:=ih.2 rows6 (by simp at hn; omega) hr6
   exact ⟨.mk x1 x2 x3 x4 x5 x6 x7,rfl⟩
  ·cases h with
   | nil=>exact ⟨[],rfl⟩
   | cons h1 h2 =>
    simp at hn
    obtain ⟨e,rfl⟩:=ih.1 _ (by omega) h1
    obtain ⟨l,rfl⟩:=ih.2 _ (by omega) h2
    exact ⟨e::l,rfl⟩
theorem thread_fits {l:List Tr} (h:Fits PP 41 l) : ∃ d:Thread,l=d.cells:=by
 obtain ⟨a,r1,rfl,h1,q1⟩:=fitsL_cons (fits_struct Tryz.underlying41 rfl h)
 obtain ⟨b,r2,rfl,h2,q2⟩:=fitsL_cons q1
 obtain ⟨c,r3,rfl,h3,q3⟩:=fitsL_cons q2
 obtain ⟨d,r4,rfl,h4,q4⟩:=fitsL_cons q3
 obtain rfl:=fitsL_nil q4
 obtain ⟨s,rfl⟩:=fits_str Tryz.underlying9 h1
 obtain ⟨ls,rfl⟩:=decls_fits h2
 obtain ⟨rows,rfl,hr⟩:=fits_slice (n:=7) (B:=120) Tryz.underlying39 (by kernel_rfl) (by kernel_rfl) h3
 obtain ⟨n,rfl⟩:=fits_int Tryz.underlying3 h4
 obtain ⟨b,rfl⟩:=(stmt_fits _).2 rows (Nat.lt_succ_self _) hr
 exact ⟨⟨s,ls,b,n⟩,rfl⟩
theorem prg_fits {l:List Tr} (h:Fits PP 25 l) : ∃ p:Prg,l=[declsT p.shared,declsT p.locks,threadsT p.threads]:=by
 obtain ⟨a,r1,rfl,h1,q1⟩:=fitsL_cons (fits_struct Tryz.underlying25 rfl h)
 obtain ⟨b,r2,rfl,h2,q2⟩:=fitsL_cons q1
 obtain ⟨c,r3,rfl,h3,q3⟩:=fitsL_cons q2
 obtain rfl:=fitsL_nil q3
 obtain ⟨x,rfl⟩:=decls_fits h1
 obtain ⟨y,rfl⟩:=decls_fits h2
 obtain ⟨rows,rfl,hr⟩:=fits_slice (n:=4) (B:=72) Tryz.underlying23 (by kernel_rfl) (by kernel_rfl) h3
 obtain ⟨z,rfl⟩:=fitsR_all (fun r h=>thread_fits h) hr
 exact ⟨⟨x,y,z⟩,rfl⟩
def progTypes:List Nat:=[25,22,23,77,9,2,3,41,39,105,102,103,143,141,71]
theorem prog_closed:closedB PP progTypes=true:=by kernel_rfl
set_option maxRecDepth 100000 in
theorem open_prog {H:Type} {enc:TypeId × Value→H} {W:World} {cs:Array Value} {d:DataW H} {ps:List MemPlace} (h:DataW.Trod enc PP W 0 (fun _=>true) true 25 (.agg cs) d ps)
  (hw:(d.weights PP 25).all (· ≤ reachBytes)=true) (hp : ∀ x ∈ ps,x.block<W.heap.size) : ∃ p:Prg,Rep gh0 W (.agg cs) p.av:=by
 obtain ⟨fuel,hf⟩:=h
 obtain ⟨trs,h1,h2⟩:=read (ok:=okB gh0 W) prog_closed (fun b hb=>gh0_ok hb) fuel _ _ _ _ (by decide) hf hw hp
 obtain ⟨p,rfl⟩:=prg_fits h1
 exact ⟨p,agg_of h2.1 fun i c t e1 e2=>h2.2 i c t (by simpa [Value.cells] using e1) e2⟩
end Go.Proofs.YthboippafkcoiaaGreatDoor.am

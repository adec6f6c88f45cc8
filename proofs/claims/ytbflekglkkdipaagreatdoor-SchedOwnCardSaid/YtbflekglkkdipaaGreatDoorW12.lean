/- What the rows read as instructions and objects are trees; what the row's list of variables gives. -/
import Derived.Test.YtbflekglkkdipaaGreatDoorW6
import Derived.Test.YtbflekglkkdipaaGreatDoorW7
import Derived.Test.YtbflekglkkdipaaGreatDoorW10
import Derived.Test.YtbflekglkkdipaaGreatDoorTie
import Derived.Lib.LaidU8
import Derived.LaidSub
set_option linter.all false
namespace Go.Proofs.YtbflekglkkdipaaGreatDoor.am
open Go Go.Proofs Go.RowKit
def gh0:Gh:=⟨fun _ => .un,fun _=>False,[],fun _ _=>False⟩
theorem gh0_ok {w:World} {b:Nat} (h:b<w.heap.size):okB gh0 w b:=⟨h,id,fun _ ⟨_,e,_⟩=>by cases e⟩
def Tabs (w:World):Prop := ∃ t fz,w.heap[0]? = some (.cells powCells t fz)
theorem gh0_gl {w:World} (h:Tabs w):GL gh0 w:=by
 rintro b Q ⟨rfl,rfl⟩
 obtain ⟨t,fz,e⟩:=h
 exact ⟨⟨(Array.getElem?_eq_some_iff.1 e).1,fun h ⟨_,e,_⟩=>by cases e⟩,t,fz,e⟩
theorem gh0_mst {w:World} (h:Tabs w):MSt gh0 w (ofL []):=⟨fun h b e=>(by simp [ofL] at e),fun h h' b ⟨_,e,_⟩=>(by cases e),fun h b ⟨_,e,_⟩=>(by cases e),fun b (h:False)=>h.elim,fun h b ⟨_,e,_⟩=>(by cases e),gh0_gl h⟩
theorem gh0_below {g':Gh} {w w':World} (h:Grow gh0 w g' w'):Below w.heap.size w w':=⟨h.os,h.tape,h.output,h.size,fun k hk=>h.block k (gh0_ok hk)⟩
theorem K.calls {f:Nat} {args:List AV} {a:AV} (h:K f args [] (.ret a) []) (w:World) (hT:Tabs w) (vs:Array Value) (hsz:vs.size=args.length) (hv : ∀ (i:Nat) (v:Value) (a:AV),vs[i]? = some v→args[i]? = some a→Rep gh0 w v a) :
  Calls Tryz.prog f vs w fun e w'=>Below w.heap.size w w' ∧ ∃ v,e = .returned v ∧ ∃ g',Rep g' w' v a:=by
 refine (h.run gh0 w vs (fun _ _=>rfl) (gh0_mst hT) hsz hv).mono ?_
 rintro e w' ⟨g',hG,_,_,hR⟩
 cases e with
 | returned v=>exact ⟨gh0_below hG,v,rfl,g',hR⟩
 | _=>exact hR.elim
def rowLaid:List (String × DataW Unit):=Rows.schedOwnRow.laid
def powName:String:=match rowLaid with
 | _::_::x::_=>x.1
 | _=>Rows.schedOwnRow.func
theorem pow_global : Tryz.prog.globalNamed powName=some 0 := by kernel_rfl
theorem tabs_of {w:World} (h:laidMetH Tryz.prog rowLaid w):Tabs w:=by
 have h1:=(laidMetH_iff.1 h).1
 have hm:(powName,(Rows.laid_internal_strconv_uint64pow10:DataW Unit)) ∈ rowLaid.filter fun x=>x.2.handleName?.isNone:=List.mem_filter.2 ⟨.tail _ (.tail _ (.head _)),rfl⟩
 obtain ⟨g,t,cs,fuel,p,q1,q2,q3,q4⟩:=Lib.laidMet.reads h1 hm
 obtain rfl:=Option.some.inj (pow_global.symm.trans q1)
 obtain ⟨t0,ht0⟩ : ∃ t0,(Tryz.prog.globals[0]?).map (·.type)=some t0:=⟨_,rfl⟩
 obtain rfl:=Option.some.inj (ht0.symm.trans q2)
 cases ht0
 have hc:=Lib.cells_of_tab (zs:=Lib.pow10Tab) (k := .u64) (e := 174) (n:=20) (by kernel_rfl) (by kernel_rfl) (by kernel_rfl) (by kernel_rfl) q4
 have hcs:cs=powCells:=by apply Array.toList_inj.1; rw [hc]; rfl
 subst hcs
 unfold World.var? at q3
 rw [pow_global,Option.bind_some] at q3
 unfold Tabs
 split at q3
 ·rename_i a b c e
  cases q3
  exact ⟨b,c,e⟩
 ·cases q3
section
variable {P:Program} {t:Nat} {l:List Tr}
theorem fits_int {k:IntKind} (hu:P.underlying t=some (.int k)) (h:Fits P t l) : ∃ n,l=[.v (.int k n)]:=by
 cases h with
 | int n h=>rw [hu] at h; cases h; exact ⟨n,rfl⟩
 | bool b h=>rw [hu] at h; cases h
 | str s h=>rw [hu] at h; cases h
 | slice rows h=>rw [hu] at h; cases h
 | struct l h=>rw [hu] at h; cases h
theorem fits_str (hu:P.underlying t=some .string) (h:Fits P t l) : ∃ s,l=[.v (.string s)]:=by
 cases h with
 | int n h=>rw [hu] at h; cases h
 | bool b h=>rw [hu] at h; cases h
 | str s h=>exact ⟨s,rfl⟩
 | slice rows h=>rw [hu] at h; cases h
 | struct l h=>rw [hu] at h; cases h
theorem fits_slice {e n B:Nat} (hu:P.underlying t=some (.slice e)) (hn:P.cellsOf e=n) (hB:P.bytesOf e=B) (h:Fits P t l) : ∃ rows,l=[.lst n B rows]∧FitsR P e rows:=by
 cases h with
 | int n h=>rw [hu] at h; cases h
 | bool b h=>rw [hu] at h; cases h
 | str s h=>rw [hu] at h; cases h
 | slice rows h hr=>rw [hu] at h; cases h; rw [hn,hB]; exact ⟨rows,rfl,hr⟩
 | struct l h=>rw [hu] at h; cases h
theorem fits_struct {fs:Array Field} {ts:List Nat} (hu:P.underlying t=some (.struct fs)) (hts:fs.toList.map (·.type)=ts) (h:Fits P t l):FitsL P ts l:=by
 cases h with
 | int n h=>rw [hu] at h; cases h
 | bool b h=>rw [hu] at h; cases h
 | str s h=>rw [hu] at h; cases h
 | slice rows h=>rw [hu] at h; cases h
 | struct l h hl=>rw [hu] at h; cases h; rw [← hts]; exact hl
theorem fitsL_cons {ts:List Nat} (h:FitsL P (t::ts) l) : ∃ a b,l=a++b∧Fits P t a∧FitsL P ts b:=by
 cases h with
 | cons h1 h2=>exact ⟨_,_,rfl,h1,h2⟩
theorem fitsL_nil (h:FitsL P [] l):l=[]:=by cases h; rfl
theorem fitsR_all {e:Nat} {α:Type} {f:α→List Tr} (hf : ∀ r,Fits P e r → ∃ x,r=f x) : ∀ {rows:List (List Tr)},FitsR P e rows → ∃ l:List α,rows=l.map f
 | [],_=>⟨[],rfl⟩
 | r::rows,h=>by
  cases h with
  | cons h1 h2 =>
   obtain ⟨x,rfl⟩:=hf r h1
   obtain ⟨l,rfl⟩:=fitsR_all hf h2
   exact ⟨x::l,rfl⟩
end
noncomputable abbrev PP:Program := Tryz.prog
theorem ins_fits {l:List Tr} (h:Fits PP 79 l) : ∃ d:Ins,l=d.cells:=by
 obtain ⟨a1,r1,rfl,h1,q1⟩:=fitsL_cons (fits_struct Tryz.underlying79 rfl h)
 obtain ⟨a2,r2,rfl,h2,q2⟩:=fitsL_cons q1
 obtain ⟨a3,r3,rfl,h3,q3⟩:=fitsL_cons q2
 obtain ⟨a4,r4,rfl,h4,q4⟩:=fitsL_cons q3
 obtain ⟨a5,r5,rfl,h5,q5⟩:=fitsL_cons q4
 obtain ⟨a6,r6,rfl,h6,q6⟩:=fitsL_cons q5
 obtain ⟨a7,r7,rfl,h7,q7⟩:=fitsL_cons q6
 obtain ⟨a8,r8,rfl,h8,q8⟩:=fitsL_cons q7
 obtain ⟨a9,r9,rfl,h9,q9⟩:=fitsL_cons q8
 obtain rfl:=fitsL_nil q9
 obtain ⟨x1,rfl⟩:=fits_int Tryz.underlying76 h1
 obtain ⟨x2,rfl⟩:=fits_int Tryz.underlying77 h2
 obtain ⟨x3,rfl⟩:=fits_int Tryz.underlying3 h3
 obtain ⟨x4,rfl⟩:=fits_int Tryz.underlying3 h4
 obtain ⟨x5,rfl⟩:=fits_int Tryz.underlying3 h5
 obtain ⟨x6,rfl⟩:=fits_int Tryz.underlying3 h6
 obtain ⟨x7,rfl⟩:=fits_int Tryz.underlying3 h7
 obtain ⟨x8,rfl⟩:=fits_int Tryz.underlying2 h8
 obtain ⟨x9,rfl⟩:=fits_int Tryz.underlying3 h9
 exact ⟨⟨x1,x2,x3,x4,x5,x6,x7,x8,x9⟩,rfl⟩
theorem core_fits {l:List Tr} (h:Fits PP 82 l) : ∃ d:Cor,l=d.cells:=by
 obtain ⟨a,r1,rfl,h1,q1⟩:=fitsL_cons (fits_struct Tryz.underlying82 rfl h)
 obtain ⟨b,r2,rfl,h2,q2⟩:=fitsL_cons q1
 obtain rfl:=fitsL_nil q2
 obtain ⟨s,rfl⟩:=fits_str Tryz.underlying9 h1
 obtain ⟨rows,rfl,hr⟩:=fits_slice (n:=9) (B:=64) Tryz.underlying80 (by kernel_rfl) (by kernel_rfl) h2
 obtain ⟨c,rfl⟩:=fitsR_all (fun r h=>ins_fits h) hr
 exact ⟨⟨s,c⟩,rfl⟩
theorem int_fits {l:List Tr} (h:Fits PP 2 l) : ∃ d:Int,l=irow d:=by
 obtain ⟨x,rfl⟩:=fits_int Tryz.underlying2 h
 exact ⟨x,rfl⟩
theorem obj_fits {l:List Tr} (h:Fits PP 25 l) : ∃ d:Ob,l=d.cells:=by
 obtain ⟨a1,r1,rfl,h1,q1⟩:=fitsL_cons (fits_struct Tryz.underlying25 rfl h)
 obtain ⟨a2,r2,rfl,h2,q2⟩:=fitsL_cons q1
 obtain ⟨a3,r3,rfl,h3,q3⟩:=fitsL_cons q2
 obtain ⟨a4,r4,rfl,h4,q4⟩:=fitsL_cons q3
 obtain ⟨a5,r5,rfl,h5,q5⟩:=fitsL_cons q4
 obtain rfl:=fitsL_nil q5
 obtain ⟨rows,rfl,hr⟩:=fits_slice (n:=1) (B:=8) Tryz.underlying22 (by kernel_rfl) (by kernel_rfl) h1
 obtain ⟨m,rfl⟩:=fitsR_all (fun r h=>int_fits h) hr
 obtain ⟨x2,rfl⟩:=fits_int Tryz.underlying3 h2
 obtain ⟨x3,rfl⟩:=fits_int Tryz.underlying3 h3
 obtain ⟨x4,rfl⟩:=fits_int Tryz.underlying3 h4
 obtain ⟨rows,rfl,hr⟩:=fits_slice (n:=2) (B:=40) Tryz.underlying23 (by kernel_rfl) (by kernel_rfl) h5
 obtain ⟨c,rfl⟩:=fitsR_all (fun r h=>core_fits h) hr
 exact ⟨⟨m,x2,x3,x4,c⟩,rfl⟩
def objTypes:List Nat:=[25,22,2,3,23,82,9,80,79,76,77]
theorem obj_closed:closedB PP objTypes=true:=by kernel_rfl
theorem arr_get {l:List Value} {i:Nat} {c:Value} (h:l.toArray[i]? = some c):l[i]? = some c:=by simpa using h
theorem agg_of {W:World} {cs:Array Value} {ts:List Tr} (h1:cs.size=ts.length) (h2 : ∀ (i:Nat) (c:Value) (t:Tr),cs[i]? = some c→ts[i]? = some t→RepT (okB gh0 W) W c t):Rep gh0 W (.agg cs) (.agg (ts.map .tr)):=by
 refine .agg (by rw [List.length_map]; exact h1) (fun a ha => ?_) (fun i c a e1 e2 => ?_)
 ·obtain ⟨t,_,rfl⟩:=List.mem_map.1 ha; rfl
 ·obtain ⟨t,ht,rfl⟩:=map_get e2
  exact .tr (h2 i c t e1 ht)
set_option maxRecDepth 100000 in
theorem open_obj {H:Type} {enc:TypeId × Value→H} {W:World} {cs:Array Value} {d:DataW H} {ps:List MemPlace} (h:DataW.Trod enc PP W 0 (fun _=>true) true 25 (.agg cs) d ps)
  (hw:(d.weights PP 25).all (· ≤ reachBytes)=true) (hp : ∀ x ∈ ps,x.block<W.heap.size) : ∃ p:Ob,Rep gh0 W (.agg cs) p.av:=by
 obtain ⟨fuel,hf⟩:=h
 obtain ⟨trs,h1,h2⟩:=read (ok:=okB gh0 W) obj_closed (fun b hb=>gh0_ok hb) fuel _ _ _ _ (by decide) hf hw hp
 obtain ⟨p,rfl⟩:=obj_fits h1
 exact ⟨p,agg_of h2.1 fun i c t e1 e2=>h2.2 i c t (by simpa [Value.cells] using e1) e2⟩
theorem steps_fits {l:List Tr} (h:Fits PP 34 l) : ∃ d:Stp,l=d.cells:=by
 obtain ⟨a0,r0,rfl,h0,q0⟩:=fitsL_cons (fits_struct Tryz.underlying34 rfl h)
 obtain ⟨a1,r1,rfl,h1,q1⟩:=fitsL_cons q0
 obtain rfl:=fitsL_nil q1
 obtain ⟨x0,rfl⟩:=fits_int Tryz.underlying32 h0
 obtain ⟨x1,rfl⟩:=fits_int Tryz.underlying3 h1
 exact ⟨⟨x0,x1⟩,rfl⟩
def stepsTypes:List Nat:=[26,34,32,3]
theorem steps_closed:closedB PP stepsTypes=true:=by kernel_rfl
set_option maxRecDepth 100000 in
theorem open_steps {H:Type} {enc:TypeId × Value→H} {W:World} {v:Value} {d:DataW H} {ps:List MemPlace} {base:Nat} (hv:Value.okWide Tryz.prog W .any base 26 v) (h:DataW.Trod enc PP W 0 (fun _=>true) true 26 v d ps)
  (hw:(d.weights PP 26).all (· ≤ reachBytes)=true) (hp : ∀ x ∈ ps,x.block<W.heap.size) : ∃ b:List Stp,Rep gh0 W v (.tr (stepsT b)):=by
 have hcells:v.cells = #[v]:=by
  cases v with
  | agg cs=>simp [Value.okWide,Cell.okWide,Cell.ok,Tryz.underlying26] at hv
  | _=>rfl
 obtain ⟨fuel,hf⟩:=h
 obtain ⟨trs,h1,h2⟩:=read (ok:=okB gh0 W) steps_closed (fun b hb=>gh0_ok hb) fuel _ _ _ _ (by decide) hf hw hp
 obtain ⟨rows,rfl,hr⟩:=fits_slice (n:=2) (B:=16) Tryz.underlying26 (by kernel_rfl) (by kernel_rfl) h1
 obtain ⟨l,rfl⟩:=fitsR_all (fun r h=>steps_fits h) hr
 exact ⟨l,.tr (h2.2 0 v _ (by rw [hcells]; rfl) rfl)⟩
theorem prints_fits {l:List Tr} (h:Fits PP 52 l) : ∃ d:Prn,l=d.row:=by
 obtain ⟨a0,r0,rfl,h0,q0⟩:=fitsL_cons (fits_struct Tryz.underlying52 rfl h)
 obtain ⟨a1,r1,rfl,h1,q1⟩:=fitsL_cons q0
 obtain rfl:=fitsL_nil q1
 obtain ⟨x0,rfl⟩:=fits_int Tryz.underlying3 h0
 obtain ⟨x1,rfl⟩:=fits_int Tryz.underlying2 h1
 exact ⟨⟨x0,x1⟩,rfl⟩
def printsTypes:List Nat:=[27,52,3,2]
theorem prints_closed:closedB PP printsTypes=true:=by kernel_rfl
set_option maxRecDepth 100000 in
theorem open_prints {H:Type} {enc:TypeId × Value→H} {W:World} {v:Value} {d:DataW H} {ps:List MemPlace} {base:Nat} (hv:Value.okWide Tryz.prog W .any base 27 v) (h:DataW.Trod enc PP W 0 (fun _=>true) true 27 v d ps)
  (hw:(d.weights PP 27).all (· ≤ reachBytes)=true) (hp : ∀ x ∈ ps,x.block<W.heap.size) : ∃ b:List Prn,Rep gh0 W v (.tr (prT b)):=by
 have hcells:v.cells = #[v]:=by
  cases v with
  | agg cs=>simp [Value.okWide,Cell.okWide,Cell.ok,Tryz.underlying27] at hv
  | _=>rfl
 obtain ⟨fuel,hf⟩:=h
 obtain ⟨trs,h1,h2⟩:=read (ok:=okB gh0 W) prints_closed (fun b hb=>gh0_ok hb) fuel _ _ _ _ (by decide) hf hw hp
 obtain ⟨rows,rfl,hr⟩:=fits_slice (n:=2) (B:=16) Tryz.underlying27 (by kernel_rfl) (by kernel_rfl) h1
 obtain ⟨l,rfl⟩:=fitsR_all (fun r h=>prints_fits h) hr
 exact ⟨l,.tr (h2.2 0 v _ (by rw [hcells]; rfl) rfl)⟩
end Go.Proofs.YtbflekglkkdipaaGreatDoor.am

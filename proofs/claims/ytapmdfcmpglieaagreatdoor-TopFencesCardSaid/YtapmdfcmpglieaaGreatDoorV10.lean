/- What the row's list of variables gives. -/
import Derived.Test.YtapmdfcmpglieaaGreatDoorV6
import Derived.Test.YtapmdfcmpglieaaGreatDoorV7
import Derived.Test.YtapmdfcmpglieaaGreatDoorTie
import Derived.Lib.LaidU8
import Derived.LaidSub
import Derived.ProofKit
import Derived.OpenShut
set_option linter.all false
namespace Go.Proofs.YtapmdfcmpglieaaGreatDoor.am
open Go Go.Proofs Go.RowKit Go.ChangeShapes Go.WideShapes Go.ChangeAt
def gh0:Gh:=⟨fun _=>.un,fun _=>False,[],fun _ _=>False⟩
theorem DT{w:World}{b:Nat}(h:b<w.heap.size):okB gh0 w b:=⟨h,id,fun _ ⟨_,e,_⟩=>by cases e⟩
def EV(w:World):Prop:=Fl w.heap[2]?/\tzQ w.heap[0]?
theorem Ez{w:World}(h:EV w):GL gh0 w:=by
 rintro b Q (⟨rfl,rfl⟩|⟨rfl,rfl⟩)
 ·obtain⟨⟨cs,t,fz,e,h2⟩,_⟩:=h;exact⟨⟨(GI.1 e).1,fun h ⟨_,e,_⟩=>by cases e⟩,cs,t,fz,e,h2⟩
 ·obtain⟨_,cs,t,fz,e,h2⟩:=h;exact⟨⟨(GI.1 e).1,fun h ⟨_,e,_⟩=>by cases e⟩,cs,t,fz,e,h2⟩
theorem Cg{w:World}(h:EV w):MSt gh0 w (ofL []):=⟨fun h b e=>(by simp[ofL] at e),fun h h' b ⟨_,e,_⟩=>(by cases e),fun h b ⟨_,e,_⟩=>(by cases e),fun b (h:False)=>h.elim,fun h b ⟨_,e,_⟩=>(by cases e),Ez h⟩
theorem xU{g':Gh}{w w':World}(h:Grow gh0 w g' w'):Below w.heap.size w w':=⟨h.os,h.tape,h.output,h.size,fun k hk=>h.block k (DT hk)⟩
theorem K.calls{f:Nat}{args:List AV}{a:AV}(h:K f args [] (.ret a) [])(w:World)(hT:EV w)(vs:Array Value)(hsz:vs.size=args.length)(hv:∀(i:Nat)(v:Value)(a:AV),vs[i]?=some v->args[i]?=some a->Rep gh0 w v a):
  Calls Tryz.prog f vs w fun e w'=>Below w.heap.size w w'/\∃v,e=.returned v/\∃g',Rep g' w' v a:=by
 refine(h.run gh0 w vs (fun _ _=>rfl) (Cg hT) hsz hv).mono ?_;rintro e w' ⟨g',hG,_,_,hR⟩;cases e with
 |returned v=>exact⟨xU hG,v,rfl,g',hR⟩
 |_=>exact hR.elim
def fS:List (String×DataW Unit):=Rows.topFencesRow.laid
def AD:String:=match fS with
 |x::_=>x.1
 |_=>Rows.topFencesRow.func
theorem nn:Tryz.prog.globalNamed AD=some 0:=JR
theorem Fb{w:World}(h:laidMetH Tryz.prog fS w):tzQ w.heap[0]? :=by
 have h1:=(laidMetH_iff.1 h).1;have hm:(AD,(Rows.laid_math_bits_deBruijn32tab:DataW Unit))∈fS.filter fun x=>x.2.handleName?.isNone:=HB.2 ⟨.head _,rfl⟩;obtain⟨g,t,cs,fuel,p,q1,q2,q3,q4⟩:=Lib.laidMet.reads h1 hm;obtain rfl:=vx (nn.symm.trans q1);obtain⟨t0,ht0⟩:∃t0,(Tryz.prog.globals[0]?).map (·.type)=some t0:=⟨_,rfl⟩;obtain rfl:=vx (ht0.symm.trans q2);cases ht0;have hc:=Lib.cells_of_tab (zs:=tzL) (k:=.u8) (e:=5) (n:=32) JR JR JR JR q4;have key:∀k,k<32->cs[k]?=some (.int .u8 (tzL.getD k 0)):=fun k hk=>by rw[<-Gx,hc,z5,t5];have hl:k<tzL.length:=hk;rw[ab hl];rfl
 unfold World.var? at q3;rw[nn,I1] at q3;split at q3
 ·rename_i a b c e;cases q3;exact⟨_,b,c,e,key⟩
 ·cases q3
def mX:String:=match fS with
 |_::x::_=>x.1
 |_=>Rows.topFencesRow.func
theorem ix:Tryz.prog.globalNamed mX=some 2:=JR
theorem tc{H:Type}:(Rows.laid_stile_words_signs:DataW H)=.agg ((List.range 19).map fun k=>.agg [.lit (.string (Fg.getD k [])),.lit (.int .i64 (Fc.getD k 0))]):=rfl
theorem vt:Tryz.prog.underlying 303=some (.array 19 302):=JR
theorem kh:Tryz.prog.cellsOf 302=2:=JR
theorem uq:Tryz.prog.cellsOf 3=1:=JR
theorem vv:Tryz.prog.cellsOf 9=1:=JR
theorem zn{w:World}(h:laidMetH Tryz.prog fS w):Fl w.heap[2]? :=by
 have h1:=(laidMetH_iff.1 h).1;have hm:(mX,(Rows.laid_stile_words_signs:DataW Unit))∈fS.filter fun x=>x.2.handleName?.isNone:=HB.2 ⟨.tail _ (.head _),rfl⟩;obtain⟨g,t,cs,fuel,p,q1,q2,q3,hd⟩:=Lib.laidMet.reads h1 hm;obtain rfl:=vx (ix.symm.trans q1);have ht0:(Tryz.prog.globals[2]?).map (·.type)=some 303:=JR;obtain rfl:=vx (ht0.symm.trans q2);obtain⟨xs,m,_,hx,hl,hxl,hi⟩:=DataW.trod_array vt hd;have hxs:xs.map (·.1)=(List.range 19).map fun k=>DataW.agg [.lit (.string (Fg.getD k [])),.lit (.int .i64 (Fc.getD k 0))]:=by have:=E8 Prod.fst hx;simp only[tc,DataW.agg.injEq] at this;exact this.symm
 have key:∀k,k<19->cs[k*2]?=some (.string (sgn k))/\cs[k*2+1]?=some (.int .i64 (lvl k)):=by
  intro k hk;have h1:=hi k hk;have h2:xs[k]?=some (xs[k]' JQ):=ab JQ;rw[h2] at h1;obtain⟨y0,y1,n,hy,hlen,hf0,hf1⟩:=trod_struct2 Tryz.underlying302 h1;have h3:(xs.map (·.1))[k]?=some (DataW.agg [y0.1,y1.1]):=by rw[z5,h2,hy];rfl
  rw[hxs] at h3;simp only[z5,GZ hk,G5,HG,DataW.agg.injEq,Jd,Ka] at h3;obtain⟨e0,e1⟩:=h3;obtain⟨s,hs,hy0,_⟩:=DataW.trod_string Tryz.underlying9 hf0;rw[hy0] at e0;simp only[DataW.lit.injEq,Lit.string.injEq] at e0;have c0:=E8 (·[0]?) hs;simp only[kh,vv,Ba,GA] at c0;have:cs[k*2]?=some (.string s):=by simpa using c0
  obtain⟨z,hz,hy1,_⟩:=DataW.trod_int Tryz.underlying3 hf1;rw[hy1] at e1;simp only[DataW.lit.injEq,Lit.int.injEq] at e1;have c1:=E8 (·[0]?) hz;simp only[kh,uq,Ba,GA] at c1;have w1:cs[k*2+1]?=some (.int .i64 z):=by simpa using c1
  refine⟨?_,?_⟩
  ·rw[this];unfold sgn;rw[e0]
  ·rw[w1];unfold lvl;rw[e1.2]
 unfold World.var? at q3;rw[ix,I1] at q3;split at q3
 ·rename_i a b c e;cases q3;exact⟨_,b,c,e,key⟩
 ·cases q3
theorem Cj{w:World}(h:laidMetH Tryz.prog fS w):EV w:=⟨zn h,Fb h⟩
theorem Cw{l:List Value}{i:Nat}{c:Value}(h:l.toArray[i]?=some c):l[i]?=some c:=by simpa using h
end Go.Proofs.YtapmdfcmpglieaaGreatDoor.am

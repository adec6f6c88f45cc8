/- The layings of the library's contracts (written by the kit's lay-shelf and lay-plain). Contracts of Go's library, and of reading and writing words, -/
import Derived.Shelf.Small.Strs
import Derived.Shelf.Strings.Search1
import Derived.Shelf.Strings.Search2
import Derived.Shelf.Strings.Search3
import Derived.Shelf.LaysM
import Derived.Shelf.Strings.Shaped
import Derived.Shelf.Strings.Prefix
import Derived.Test.YtapmdfcmpglieaaGreatDoorProg
import Derived.Test.YtapmdfcmpglieaaGreatDoorV7
import Derived.Test.YtapmdfcmpglieaaGreatDoorV4
import Derived.Test.YtapmdfcmpglieaaGreatDoorProg
import Derived.WalkLawsBesides
import Derived.Deep.WholeRow
import Derived.Lib.Hide
import Derived.Shelf.Spec.TrailingZeros
import Derived.Test.YtapmdfcmpglieaaGreatDoorV8
import Derived.Test.YtapmdfcmpglieaaGreatDoorV5
import Derived.Test.YtapmdfcmpglieaaGreatDoorV9
import Derived.Lib.SliceRun
set_option linter.all false
namespace Go.Proofs
open Go.Shelf
def Tryz.lays137_ren:Go.Shelf.Ren:=⟨fun|137=>130|217=>158|266=>167|n=>n,fun|9=>9|5=>5|3=>3|n=>n,fun|n=>n⟩
theorem Tryz.lays137:Go.Proofs.Lays.n137 Tryz.prog Tryz.lays137_ren:={
 mixed:=by kernel_rfl
 f137:=Tryz.func130.trans (congrArg some (by kernel_rfl))
 f217:=Tryz.func158.trans (congrArg some (by kernel_rfl))
 f266:=Tryz.func167.trans (congrArg some (by kernel_rfl))
 t3:=Tryz.underlying3
 a3:=Tryz.isAgg3
 z3:=Tryz.sizeOf3
 v3:=Tryz.zeroValue3
 t5:=Tryz.underlying5
 a5:=Tryz.isAgg5
 z5:=Tryz.sizeOf5
 v5:=Tryz.zeroValue5
 t9:=Tryz.underlying9
 a9:=Tryz.isAgg9
 z9:=Tryz.sizeOf9
 v9:=Tryz.zeroValue9 }
def Tryz.lays144_ren:Go.Shelf.Ren:=⟨fun|144=>159|143=>168|219=>174|217=>158|225=>185|224=>186|267=>187|266=>167|314=>195|n=>n,fun|9=>9|4=>4|3=>3|5=>5|46=>257|146=>300|51=>80|n=>n,fun|1=>1|n=>n⟩
theorem Tryz.lays144:Go.Proofs.Lays.n144 Tryz.prog Tryz.lays144_ren:={
 mixed:=by kernel_rfl
 f143:=Tryz.func168.trans (congrArg some (by kernel_rfl))
 f144:=Tryz.func159.trans (congrArg some (by kernel_rfl))
 f217:=Tryz.func158.trans (congrArg some (by kernel_rfl))
 f219:=Tryz.func174.trans (congrArg some (by kernel_rfl))
 f224:=Tryz.func186.trans (congrArg some (by kernel_rfl))
 f225:=Tryz.func185.trans (congrArg some (by kernel_rfl))
 f266:=Tryz.func167.trans (congrArg some (by kernel_rfl))
 f267:=Tryz.func187.trans (congrArg some (by kernel_rfl))
 f314:=Tryz.func195.trans (congrArg some (by kernel_rfl))
 t3:=Tryz.underlying3
 a3:=Tryz.isAgg3
 z3:=Tryz.sizeOf3
 v3:=Tryz.zeroValue3
 t4:=Tryz.underlying4
 a4:=Tryz.isAgg4
 z4:=Tryz.sizeOf4
 v4:=Tryz.zeroValue4
 t5:=Tryz.underlying5
 a5:=Tryz.isAgg5
 z5:=Tryz.sizeOf5
 v5:=Tryz.zeroValue5
 t9:=Tryz.underlying9
 a9:=Tryz.isAgg9
 z9:=Tryz.sizeOf9
 v9:=Tryz.zeroValue9
 t46:=Tryz.underlying257
 a46:=Tryz.isAgg257
 z46:=Tryz.sizeOf257
 v46:=Tryz.zeroValue257
 t51:=Tryz.underlying80
 a51:=Tryz.isAgg80
 z51:=Tryz.sizeOf80
 v51:=Tryz.zeroValue80
 t146:=Tryz.underlying300
 a146:=Tryz.isAgg300
 z146:=Tryz.sizeOf300
 v146:=Tryz.zeroValue300
 g1:=by kernel_rfl }
def Tryz.lays99_ren:Go.Shelf.Ren:=⟨fun|99=>129|206=>157|n=>n,fun|9=>9|4=>4|3=>3|n=>n,fun|n=>n⟩
theorem Tryz.lays99:Go.Proofs.Lays.n99 Tryz.prog Tryz.lays99_ren:={
 mixed:=by kernel_rfl
 f99:=Tryz.func129.trans (congrArg some (by kernel_rfl))
 f206:=Tryz.func157.trans (congrArg some (by kernel_rfl))
 t3:=Tryz.underlying3
 a3:=Tryz.isAgg3
 z3:=Tryz.sizeOf3
 v3:=Tryz.zeroValue3
 t4:=Tryz.underlying4
 a4:=Tryz.isAgg4
 z4:=Tryz.sizeOf4
 v4:=Tryz.zeroValue4
 t9:=Tryz.underlying9
 a9:=Tryz.isAgg9
 z9:=Tryz.sizeOf9
 v9:=Tryz.zeroValue9 }
end Go.Proofs
namespace Go.Proofs.YtapmdfcmpglieaaGreatDoor.am
open Go Go.Proofs Go.RowKit
theorem Ctr.ofCalls{f:Nat}{args:List AV}{a:AV}(hc:Callable Tryz.prog f) (h:∀(g:Gh)(w:World)(vs:Array Value),MSt g w (ofL [])->vs.size=args.length->(∀(i:Nat)(v:Value)(a:AV),vs[i]?=some v->args[i]?=some a->Rep g w v a) ->
  Calls Tryz.prog f vs w fun e w'=>∃v,e=.returned v/\Below w.heap.size w w'/\(Grow g w g w'->MSt g w' (km [])->Rep g w' v a)):K f args [] (.ret a) []:=by
 refine⟨hc,fun g w vs hun hm hsz hv=>(h g w vs hm hsz hv).mono ?_⟩;rintro e w' ⟨v,rfl,hb,hR⟩;have hG:Grow g w g w':=⟨hb.os,hb.tape,hb.output,hb.size,fun b hk=>hb.block b hk.1,fun b hk=>hb.block b (hm.xlt b hk),rfl,fun _ h=>h,fun _ _ h=>.inl h,fun k b e=>.inl ⟨k,e⟩⟩;have hM:MSt g w' (km []):=⟨fun h b e=>(by simp[km] at e),hm.inj,fun k b e=>Hb (hm.lt k b e) hb.size,fun b hk=>Hb (hm.xlt b hk) hb.size,hm.xl,hm.gl.grow hG⟩;exact⟨g,hG,hM,fun k _ l hl=>(by have:=hun k (x5 _);rw[this] at hl;cases hl),hR hG hM⟩
theorem jB{vs:Array Value}(h:vs.size=1):∃v,vs = #[v]:=by
 obtain⟨l⟩:=vs
 match l,h with
 |[v],_=>exact⟨v,rfl⟩
theorem o8{vs:Array Value}(h:vs.size=2):∃v u,vs = #[v,u]:=by
 obtain⟨l⟩:=vs
 match l,h with
 |[v,u],_=>exact⟨v,u,rfl⟩
def prefB(s p:ByteArray):Bool:=Lib.hasPrefix s.data.toList p.data.toList
theorem pR(s p:ByteArray):K 129 [.tr (ts s),.tr (ts p)] [] (.ret (.tr (tb (prefB s p)))) []:=by refine Ctr.ofCalls (fun _ _=>JR) fun g w vs hm hsz hv=>?_;obtain⟨v,u,rfl⟩:=o8 hsz;obtain⟨rfl,_⟩:=al (hv 0 v (.tr (ts s)) rfl rfl);obtain⟨rfl,_⟩:=al (hv 1 u (.tr (ts p)) rfl rfl);refine(Any.strings_HasPrefix Tryz.lays99 s p w).mono ?_;rintro e w' ⟨rfl,rfl⟩;exact⟨_,rfl,Below.refl _ _,fun _ _=>.tr (.v trivial)⟩
def vf(s:ByteArray)(c:Int):Int:=Lib.indexByte s.data.toList c.toNat.toUInt8
theorem dj:∀(l:List UInt8)(c:UInt8),Lib.indexByte l c<=l.length /\ -1<=Lib.indexByte l c
 |[],c=>⟨by simp[Lib.indexByte],by simp[Lib.indexByte]⟩
 |b::l,c=>by
  have:=dj l c;unfold Lib.indexByte;simp only[E0];split;·constructor<;>omega
  ·split<;>constructor<;>omega
theorem oY(s:ByteArray)(c:Int):K 130 [.tr (ts s),.tr (tu c)] [] (.ret (.tr (ti (vf s c)))) []:=by refine Ctr.ofCalls (fun _ _=>JR) fun g w vs hm hsz hv=>?_;obtain⟨v,u,rfl⟩:=o8 hsz;obtain⟨rfl,h1⟩:=al (hv 0 v (.tr (ts s)) rfl rfl);obtain⟨rfl,_⟩:=al (hv 1 u (.tr (tu c)) rfl rfl);have h1:s.size<=9223372036854775807:=h1;refine(Any.strings_IndexByte Tryz.lays137 s c w).mono ?_;rintro e w' ⟨rfl,rfl⟩;have:=dj s.data.toList c.toNat.toUInt8;have hl:s.data.toList.length=s.size:=JX;exact⟨_,rfl,Below.refl _ _,fun _ _=>.tr (.v ⟨Int.le_trans JS this.2,Int.le_trans this.1 (by rw[hl];exact Int.ofNat_le.2 h1)⟩)⟩
theorem pJ(s:ByteArray)(c:UInt8):K 159 [.tr (ts s),.tr (ts ⟨#[c]⟩)] [] (.ret (.tr (tb (decide (0<=Lib.indexByte s.data.toList c))))) []:=by refine Ctr.ofCalls (fun _ _=>JR) fun g w vs hm hsz hv=>?_;obtain⟨v,u,rfl⟩:=o8 hsz;obtain⟨rfl,_⟩:=al (hv 0 v (.tr (ts s)) rfl rfl);obtain⟨rfl,_⟩:=al (hv 1 u (.tr (ts ⟨#[c]⟩)) rfl rfl);refine(Any.strings_Contains_one Tryz.lays144 s c w).mono ?_;rintro e w' ⟨rfl,rfl⟩;exact⟨_,rfl,Below.refl _ _,fun _ _=>.tr (.v trivial)⟩
end Go.Proofs.YtapmdfcmpglieaaGreatDoor.am
set_option maxRecDepth 100000
set_option maxHeartbeats 4000000
namespace Go.Proofs.YtapmdfcmpglieaaGreatDoor.am
open Go Go.Proofs Go.RowKit
abbrev scB(S:ByteArray)(i:Nat)(a r:Int):Blk:=.cells 126 [.tr (ts S),.tr (ti i),.tr (ti a),.tr (ti r)]
def blankB(c:Int):Bool:=c==32||c==9||c==10||c==13
theorem B4(c:Int):K 128 [.tr (tu c)] [] (.ret (.tr (tb (blankB c)))) []:=by
 refine Ctr.of hT hmix Tryz.func128 rfl (fun _ _=>JR) rfl fun hok=>?_;conv=>whnf
 (repeat' (refine ah (fun _=>?_) (fun _=>?_)<;>conv=>whnf))<;>refine⟨Or.inl (E8 tb ?_),trivial⟩<;>(simp only[blankB, *]<;>rfl)
def restS(S:ByteArray)(i:Nat):ByteArray:=S.extract i S.size
theorem uc(S:ByteArray)(i:Nat):(restS S i).data.toList=S.data.toList.drop i:=by unfold restS;rw[ByteArray.data_extract,JM];simp only[List.extract];rw[vG];rw[Hu];simp
def remS(S:ByteArray)(i:Nat):Nat:=bif decide (vf (restS S i) 10<0) then S.size-i else(vf (restS S i) 10).toNat
def oV(S:ByteArray):Nat->Nat->Nat
 |0,i=>i
 |f+1,i=>bif decide (i<S.size) then bif blankB (chI S i) then oV S f (i+1) else bif prefB (restS S i) ⟨#[47,47]⟩ then oV S f (i+remS S i) else i else i
theorem pS{S:ByteArray}{i:Nat}(hi:i<S.size)(hp:prefB (restS S i) ⟨#[47,47]⟩=true):1<=remS S i/\i+remS S i<=S.size:=by
 have hl:=dj (restS S i).data.toList 10;have hs:(restS S i).data.toList.length=S.size-i:=by rw[uc,Hu];simp
 have h0:vf (restS S i) 10=Lib.indexByte (restS S i).data.toList 10:=rfl;have hne:vf (restS S i) 10≠0:=by
  rw[h0];intro e;unfold prefB Lib.hasPrefix at hp;generalize (restS S i).data.toList=l at *
  match l with
  |[]=>simp at hp
  |b::r=>
   have hb:(47:UInt8)=b:=by have:([47,47]:List UInt8).isPrefixOf (b::r)=true:=hp;simp only[List.isPrefixOf,t4,HH] at this;exact this.1
   unfold Lib.indexByte at e;rw[GN (by rw[<-hb];decide)] at e;split at e;·cases e
   ·rename_i h;exact h (by rw[(JQ:Lib.indexByte r 10=-1)];rfl)
 have hle:vf (restS S i) 10<=((S.size-i:Nat):Int) /\ -1<=vf (restS S i) 10:=by rw[h0];exact⟨by rw[<-hs];exact hl.1,hl.2⟩
 unfold remS;generalize vf (restS S i) 10=n at hne hle;cases hd:decide (n<0) with
 |true=>exact⟨by show 1<=S.size-i;omega,by show i+(S.size-i)<=_;omega⟩
 |false=>have:=ud hd;exact⟨by show 1<=n.toNat;omega,by show i+n.toNat<=_;omega⟩
theorem gQ{S:ByteArray}:∀(f g i:Nat),S.size-i<f->S.size-i<g->oV S f i=oV S g i
 |0,g,i,h,_=>JQ
 |_+1,0,i,_,h=>JQ
 |f+1,g+1,i,hf,hg=>by
  unfold oV;by_cases hi:i<S.size
  ·rw[GC hi,r7,r7];cases h1:blankB (chI S i) with
   |true=>exact gQ f g (i+1) JQ JQ
   |false=>
    cases h2:prefB (restS S i) ⟨#[47,47]⟩ with
    |true=>have:=pS hi h2;exact gQ f g _ JQ JQ
    |false=>rfl
  ·rw[Gz hi];rfl
def ovS(S:ByteArray)(i:Nat):Nat:=oV S (S.size+1) i
theorem lU{S:ByteArray}{i:Nat}:ovS S i=bif decide (i<S.size) then bif blankB (chI S i) then ovS S (i+1) else bif prefB (restS S i) ⟨#[47,47]⟩ then ovS S (i+remS S i) else i else i:=by have h:ovS S i=oV S (S.size+1+1) i:=gQ _ _ _ JQ JQ;rw[h];rfl
theorem qM{S:ByteArray}:∀(n i:Nat),S.size-i<=n->i<=S.size->i<=ovS S i/\ovS S i<=S.size
 |n,i,hn,hi=>by
  rw[lU];by_cases hlt:i<S.size
  ·rw[GC hlt,r7]
   match n with
   |0=>omega
   |n+1=>
    cases h1:blankB (chI S i) with
    |true=>have:=qM (S:=S) n (i+1) JQ JQ;exact⟨by rw[r7];omega,by rw[r7];omega⟩
    |false=>
     cases h2:prefB (restS S i) ⟨#[47,47]⟩ with
     |true=>have h3:=pS hlt h2;have:=qM (S:=S) n (i+remS S i) JQ JQ;exact⟨by rw[lh,r7];omega,by rw[lh,r7];omega⟩
     |false=>exact⟨t9 _,hi⟩
  ·rw[Gz hlt];exact⟨t9 _,hi⟩
theorem El(S:ByteArray)(i0:Nat)(a r:Int)(hS:S.size<=65536)(hi0:i0<=S.size):K 83 [.ptr 0 0] [scB S i0 a r] (.ret (.tup [])) [some (scB S (ovS S i0) a r)]:=by
 generalize hR:ovS S i0=R;refine Ctr.of hT hmix Tryz.func83 rfl (fun _ _=>JR) rfl fun hok=>?_;clear hok;conv=>whnf
 refine aq.by (fun i:Nat=>⟨[(0,.ptr 0 0)],[(0,scB S i a r)],10⟩) (fun i=>i<=S.size/\ovS S i=R) (fun i=>S.size-i) i0 [0] [] Sub.au ⟨hi0,hR⟩ ?_;clear hR hi0;rintro i ⟨hi,hR⟩ -
 conv=>whnf
 refine drT ?_;conv=>whnf
 refine ah (fun h1=>?_) (fun h1=>?_)
 ·replace h1:i<S.size:=by have:=of_decide_eq_true h1;omega
  rw[lU,GC h1,r7] at hR;conv=>whnf
  refine⟨JQ,JQ,fun b hb=>?_⟩;have hc:chI S i=b.toNat:=by unfold chI;rw[show S[i]?=some b from hb]
  rw[hc] at hR;conv=>whnf
  refine aa.pure _ (B4 b.toNat) rfl rfl ?_;conv=>whnf
  refine drT ?_;conv=>whnf
  refine ah (fun h2=>?_) (fun h2=>?_)
  ·rw[h2,r7] at hR;conv=>whnf
   exact⟨i+1,[0],[],Sub.mk' rfl aut ⟨⟨rfl,JZ,.inl (ak h1 JQ),aut⟩,J0⟩ rfl rfl,⟨h1,hR⟩,by show S.size-(i+1)<S.size-i;omega⟩
  ·rw[h2,lh] at hR;conv=>whnf
   refine⟨(JQ:(0:Int)<=(i:Int)),(JQ:(i:Int)<=(S.size:Int)),(JQ:(S.size:Int)<=(S.size:Int)),?_⟩;conv=>whnf
   refine aa.pure _ (pR (restS S i) ⟨#[47,47]⟩) rfl rfl ?_;conv=>whnf
   refine drT ?_;conv=>whnf
   refine ah (fun h3=>?_) (fun h3=>?_)
   ·rw[h3,r7] at hR;obtain⟨p1,p2⟩:=pS h1 h3;have hI:=dj (restS S i).data.toList 10;conv=>whnf
    refine⟨(JQ:(0:Int)<=(i:Int)),(JQ:(i:Int)<=(S.size:Int)),(JQ:(S.size:Int)<=(S.size:Int)),?_⟩;conv=>whnf
    refine aa.pure _ (oY (restS S i) 10) rfl rfl ?_;conv=>whnf
    refine drT ?_;conv=>whnf
    have hrm:remS S i=bif decide (vf (restS S i) 10<0) then S.size-i else(vf (restS S i) 10).toNat:=rfl;refine ah (fun h4=>?_) (fun h4=>?_)
    ·rw[h4,r7] at hrm;have hw:IntKind.i64.wrap ((S.size:Int)-(i:Int))=((remS S i:Nat):Int):=by rw[w64 JQ JQ];omega
     have hw2:IntKind.i64.wrap ((i:Int)+((remS S i:Nat):Int))=((i+remS S i:Nat):Int):=by rw[w64 JQ JQ];omega
     conv=>whnf
     refine drT ?_;conv=>whnf
     rw[hw,hw2];exact⟨i+remS S i,[0],[],Sub.au,⟨p2,hR⟩,by show S.size-(i+remS S i)<S.size-i;omega⟩
    ·rw[h4,lh] at hrm;have h4':=ud h4;have hw:vf (restS S i) 10=((remS S i:Nat):Int):=by rw[hrm];omega
     have hw2:IntKind.i64.wrap ((i:Int)+((remS S i:Nat):Int))=((i+remS S i:Nat):Int):=by rw[w64 JQ JQ];omega
     rw[hw];conv=>whnf
     rw[hw2];exact⟨i+remS S i,[0],[],Sub.au,⟨p2,hR⟩,by show S.size-(i+remS S i)<S.size-i;omega⟩
   ·rw[h3,lh] at hR;subst hR;conv=>whnf
    exact aut
 ·replace h1:¬ i<S.size:=by have:=ud h1;omega
  rw[lU,Gz h1,lh] at hR;subst hR;conv=>whnf
  refine exT ?_;conv=>whnf
  exact aut
end Go.Proofs.YtapmdfcmpglieaaGreatDoor.am
set_option maxRecDepth 100000
set_option maxHeartbeats 4000000
namespace Go.Proofs.YtapmdfcmpglieaaGreatDoor.am
open Go Go.Proofs Go.RowKit
def CF:Tok:=⟨0,⟨#[]⟩,0,0⟩
theorem fQ(S:ByteArray)(i:Nat)(a r p q:Int):K 132 [.ptr 0 0,.tr (ti p),.tr (ti q)] [scB S i a r] (.ret CF.av) [some (scB S i p q)]:=by
 refine Ctr.of hT hmix Tryz.func132 rfl (fun _ _=>JR) rfl fun hok=>?_;conv=>whnf
 exact aut
def mi(s:ByteArray):Bool:=seq s ⟨#[61,61]⟩||seq s ⟨#[33,61]⟩||seq s ⟨#[60,61]⟩||seq s ⟨#[62,61]⟩||seq s ⟨#[60,60]⟩||seq s ⟨#[62,62]⟩
def Ey:List UInt8->Bool
 |[c]=>decide (0<=Lib.indexByte [40,41,123,125,44,59,61,43,45,42,47,37,38,124,94,33,60,62] c)
 |_=>false
def signS(s:ByteArray):Bool:=mi s||Ey s.data.toList
theorem DY(s:ByteArray):K 131 [.tr (ts s)] [] (.ret (.tr (tb (signS s)))) []:=by
 refine Ctr.of hT hmix Tryz.func131 rfl (fun _ _=>JR) rfl fun hok=>?_;conv=>whnf
 cases h61_61:(s.toList==(⟨#[61,61]⟩:ByteArray).toList) with
 |true=>
  conv=>whnf
  exact⟨.inl (E8 tb (by simp only[signS,mi,seq, *]<;>rfl)),J0⟩
 |false=>
 conv=>whnf
 cases h33_61:(s.toList==(⟨#[33,61]⟩:ByteArray).toList) with
 |true=>
  conv=>whnf
  exact⟨.inl (E8 tb (by simp only[signS,mi,seq, *]<;>rfl)),J0⟩
 |false=>
 conv=>whnf
 cases h60_61:(s.toList==(⟨#[60,61]⟩:ByteArray).toList) with
 |true=>
  conv=>whnf
  exact⟨.inl (E8 tb (by simp only[signS,mi,seq, *]<;>rfl)),J0⟩
 |false=>
 conv=>whnf
 cases h62_61:(s.toList==(⟨#[62,61]⟩:ByteArray).toList) with
 |true=>
  conv=>whnf
  exact⟨.inl (E8 tb (by simp only[signS,mi,seq, *]<;>rfl)),J0⟩
 |false=>
 conv=>whnf
 cases h60_60:(s.toList==(⟨#[60,60]⟩:ByteArray).toList) with
 |true=>
  conv=>whnf
  exact⟨.inl (E8 tb (by simp only[signS,mi,seq, *]<;>rfl)),J0⟩
 |false=>
 conv=>whnf
 cases h62_62:(s.toList==(⟨#[62,62]⟩:ByteArray).toList) with
 |true=>
  conv=>whnf
  exact⟨.inl (E8 tb (by simp only[signS,mi,seq, *]<;>rfl)),J0⟩
 |false=>
 conv=>whnf
 have h2:mi s=false:=by simp only[mi,seq, *]<;>rfl
 clear h61_61 h33_61 h60_61 h62_61 h60_60 h62_62;cases h1:((s.size:Int)==1) with
 |false=>
  conv=>whnf
  refine⟨.inl (E8 tb ?_),J0⟩;unfold signS Ey;rw[h2,GU];split;·rename_i c h;exact absurd h1 (by rw[show s.size=s.data.toList.length from(BQ).symm,h];exact Bool.noConfusion)
  ·rfl
 |true=>
 obtain⟨c,rfl⟩:∃c,s=⟨#[c]⟩:=by
  have h3:s.data.toList.length=1:=by rw[BQ];have:=of_decide_eq_true h1;exact Int.ofNat.inj this
  match h4:s.data.toList,h3 with
  |[c],_=>exact⟨c,ByteArray.ext (Array.toList_inj.1 h4)⟩
 clear h1;conv=>whnf
 refine aa.pure _ (pJ ⟨#[40,41,123,125,44,59,61,43,45,42,47,37,38,124,94,33,60,62]⟩ c) rfl rfl fun _=>?_;conv=>whnf
 refine⟨.inl (E8 tb ?_),J0⟩;unfold signS;rw[h2];rfl
def aln(c:Int):Bool:=letB c||digB c
def wdL(S:ByteArray):Nat->Nat->Nat
 |0,i=>i
 |f+1,i=>bif decide ((i:Int)<(S.size:Int)) then bif aln (chI S i) then wdL S f (i+1) else i else i
def wdE(S:ByteArray)(i:Nat):Nat:=wdL S (S.size+1) i
theorem qI{S:ByteArray}:∀(f g i:Nat),S.size-i<f->S.size-i<g->wdL S f i=wdL S g i
 |0,g,i,h,_=>JQ
 |_+1,0,i,_,h=>JQ
 |f+1,g+1,i,hf,hg=>by
  unfold wdL;cases h:decide ((i:Int)<(S.size:Int)) with
  |true=>have:=of_decide_eq_true h;rw[qI f g (i+1) JQ JQ]
  |false=>rfl
theorem lS{S:ByteArray}{i:Nat}:wdE S i=bif decide ((i:Int)<(S.size:Int)) then bif aln (chI S i) then wdE S (i+1) else i else i:=by have h:wdE S i=wdL S (S.size+1+1) i:=qI _ _ _ JQ JQ;rw[h];rfl
def cutS(S:ByteArray)(i j:Nat):ByteArray:=S.extract i j
def Es(w:ByteArray)(i:Nat)(a r:Int):Tok×Int×Int:=
 bif wordB w then(⟨2,w,0,i⟩,a,r) else bif decide ((w.size:Int) > 32) then(CF,IntKind.i64.wrap ((i:Int)+32),2) else(⟨1,w,0,i⟩,a,r)
def wordT(S:ByteArray)(i:Nat)(a r:Int):Tok×Int×Int:=Es (cutS S i (wdE S i)) i a r
theorem Ev(S:ByteArray)(i0:Nat)(a r:Int)(hS:S.size<=65536)(hi0:i0<=S.size):K 85 [.ptr 0 0] [scB S i0 a r] (.ret (wordT S i0 a r).1.av) [some (scB S (wdE S i0) (wordT S i0 a r).2.1 (wordT S i0 a r).2.2)]:=by
 obtain⟨R,hR0⟩:∃R,wdE S i0=R:=⟨_,rfl⟩;obtain⟨W,hW⟩:∃W,wordT S i0 a r=W:=⟨_,rfl⟩;rw[hR0,hW];refine Ctr.cut [4] hT hmix Tryz.func85 rfl (fun _ _=>JR) rfl fun hok=>?_;clear hok;conv=>whnf
 refine bD.by (fun _:Unit=>⟨[(0,.ptr 0 0),(3,.tr (ti i0)),(2,.ptr 1 0)],[(0,scB S R a r),(1,.cells 60 [.tr (tu 0),.tr (ts ⟨#[]⟩),.tr (ti 0),.tr (ti 0)])],11⟩) (fun _=>i0<=R/\R<=S.size) ?_ ?_
 ·conv=>whnf
  refine aq.by (fun i:Nat=>⟨[(0,.ptr 0 0),(3,.tr (ti i0)),(2,.ptr 1 0)],[(0,scB S i a r),(1,.cells 60 [.tr (tu 0),.tr (ts ⟨#[]⟩),.tr (ti 0),.tr (ti 0)])],11⟩) (fun i=>i0<=i/\i<=S.size/\wdE S i=R) (fun i=>S.size-i) i0 [0,1] [] Sub.au ⟨t9 _,hi0,hR0⟩ ?_;rintro i ⟨hi,his,hR⟩ -
  rw[lS] at hR;conv=>whnf
  cases h1:decide ((i:Int)<(S.size:Int)) with
  |false=>
   rw[h1,lh] at hR;subst hR;conv=>whnf
   refine drT ?_;conv=>whnf
   refine exT ?_;conv=>whnf
   exact⟨(),[0,1],[],Sub.au,hi,his⟩
  |true=>
  rw[h1,r7] at hR
  replace h1:=of_decide_eq_true h1
  have hw:IntKind.i64.wrap ((i:Int)+1)=((i+1:Nat):Int):=by rw[w64 JQ JQ];omega
  conv=>whnf
  refine⟨JQ,h1,fun b hb=>?_⟩;have hc:chI S i=b.toNat:=by unfold chI;rw[show S[i]?=some b from hb]
  rw[hc] at hR;conv=>whnf
  refine aa.pure _ (k71 b.toNat) rfl rfl ?_;conv=>whnf
  cases h2:letB b.toNat with
  |true=>
   rw[show aln b.toNat=true by unfold aln;rw[h2];rfl,r7] at hR;conv=>whnf
   refine drT ?_;conv=>whnf
   rw[hw];exact⟨i+1,[0,1],[],Sub.au,⟨JQ,JQ,hR⟩,by show S.size-(i+1)<S.size-i;omega⟩
  |false=>
  conv=>whnf
  refine⟨JQ,h1,fun b' hb'=>?_⟩;obtain rfl:b=b':=vx (hb.symm.trans hb');conv=>whnf
  refine aa.pure _ (k69 b.toNat) rfl rfl ?_;conv=>whnf
  cases h3:digB b.toNat with
  |true=>
   rw[show aln b.toNat=true by unfold aln;rw[h2,h3];rfl,r7] at hR;conv=>whnf
   refine drT ?_;conv=>whnf
   rw[hw];exact⟨i+1,[0,1],[],Sub.au,⟨JQ,JQ,hR⟩,by show S.size-(i+1)<S.size-i;omega⟩
  |false=>
   rw[show aln b.toNat=false by unfold aln;rw[h2,h3];rfl,lh] at hR;subst hR;conv=>whnf
   refine drT ?_;conv=>whnf
   refine exT ?_;conv=>whnf
   exact⟨(),[0,1],[],Sub.au,hi,his⟩
 rintro - ⟨hi,his⟩ -
 conv=>whnf
 refine⟨(JQ:(0:Int)<=(i0:Int)),(JQ:(i0:Int)<=(R:Int)),(JQ:(R:Int)<=(S.size:Int)),?_⟩;conv=>whnf
 refine drT ?_;conv=>whnf
 generalize hw:S.extract ((some (i0:Int)).getD 0).toNat ((some (R:Int)).getD (S.size:Int)).toNat=w
 replace hw:cutS S i0 R=w:=hw
 refine aa.pure _ (k70 w) rfl rfl fun _=>?_;conv=>whnf
 unfold wordT Es at hW;rw[hR0,hw] at hW;cases h2:wordB w with
 |true=>
  rw[h2,r7] at hW;subst hW;conv=>whnf
  exact aut
 |false=>
 rw[h2,lh] at hW;conv=>whnf
 cases h3:decide ((w.size:Int) > 32) with
 |true=>
  rw[h3,r7] at hW;subst hW;conv=>whnf
  refine aa.au [0] [] (fQ S R a r (IntKind.i64.wrap ((i0:Int)+32)) 2) ?_;intro _;conv=>whnf
  exact aut
 |false=>
  rw[h3,lh] at hW;subst hW;conv=>whnf
  exact aut
structure Nm where
 i:Nat
 n:Int
 g:Bool
def Ep(c:Int):Int:=IntKind.u64.wrap (IntKind.u8.wrap (c-48))
def nmN(S:ByteArray)(m:Nm):Nm:=⟨m.i+1,IntKind.u64.wrap (IntKind.u64.wrap (m.n*10)+Ep (chI S m.i)),bif m.g then true else decide (m.n > IntKind.u64.wrap (Int.tdiv (IntKind.u64.wrap (9223372036854775807-Ep (chI S m.i))) 10))⟩
def nmL(S:ByteArray):Nat->Nm->Nm
 |0,m=>m
 |f+1,m=>bif decide ((m.i:Int)<(S.size:Int)) then bif digB (chI S m.i) then nmL S f (nmN S m) else m else m
theorem qE{S:ByteArray}:∀(f g:Nat)(m:Nm),S.size-m.i<f->S.size-m.i<g->nmL S f m=nmL S g m
 |0,g,i,h,_=>JQ
 |_+1,0,i,_,h=>JQ
 |f+1,g+1,m,hf,hg=>by
  unfold nmL;cases h:decide ((m.i:Int)<(S.size:Int)) with
  |true=>have:=of_decide_eq_true h;rw[qE f g (nmN S m) (by show S.size-(m.i+1)<f;omega) (by show S.size-(m.i+1)<g;omega)]
  |false=>rfl
def nmR(S:ByteArray)(m:Nm):Nm:=nmL S (S.size+1) m
theorem l6{S:ByteArray}{m:Nm}:nmR S m=bif decide ((m.i:Int)<(S.size:Int)) then bif digB (chI S m.i) then nmR S (nmN S m) else m else m:=by have h:nmR S m=nmL S (S.size+1+1) m:=qE _ _ _ JQ JQ;rw[h];rfl
def numG(S:ByteArray)(m:Nm)(i:Nat)(a r:Int):Tok×Int×Int:=
 bif (bif (bif decide ((m.i:Int) > IntKind.i64.wrap ((i:Int)+1)) then chI S i==48 else false) then true else m.g) then(CF,(i:Int),3)
 else bif (bif decide ((m.i:Int)<(S.size:Int)) then letB (chI S m.i) else false) then(CF,(m.i:Int),4) else(⟨3,cutS S i m.i,IntKind.i64.wrap m.n,i⟩,a,r)
theorem yA(S:ByteArray)(i0:Nat)(a r:Int)(hS:S.size<=65536)(hi0:i0<=S.size):K 86 [.ptr 0 0] [scB S i0 a r] (.ret (numG S (nmR S ⟨i0,0,false⟩) i0 a r).1.av) [some (scB S (nmR S ⟨i0,0,false⟩).i (numG S (nmR S ⟨i0,0,false⟩) i0 a r).2.1 (numG S (nmR S ⟨i0,0,false⟩) i0 a r).2.2)]:=by
 obtain⟨R,hR0⟩:∃R,nmR S ⟨i0,0,false⟩=R:=⟨_,rfl⟩;obtain⟨W,hW⟩:∃W,numG S R i0 a r=W:=⟨_,rfl⟩;rw[hR0,hW];refine Ctr.cut [9] hT hmix Tryz.func86 rfl (fun _ _=>JR) rfl fun hok=>?_;clear hok;conv=>whnf
 refine bD.by (fun _:Unit=>⟨[(0,.ptr 0 0),(3,.tr (ti i0)),(2,.ptr 1 0),(4,.tr (.v (.int .u64 R.n))),(5,.tr (tb R.g))],[(0,scB S R.i a r),(1,.cells 60 [.tr (tu 0),.tr (ts ⟨#[]⟩),.tr (ti 0),.tr (ti 0)])],11⟩) (fun _=>i0<=R.i/\R.i<=S.size) ?_ ?_
 ·conv=>whnf
  refine aq.by (fun m:Nm=>⟨[(0,.ptr 0 0),(3,.tr (ti i0)),(2,.ptr 1 0),(4,.tr (.v (.int .u64 m.n))),(5,.tr (tb m.g))],[(0,scB S m.i a r),(1,.cells 60 [.tr (tu 0),.tr (ts ⟨#[]⟩),.tr (ti 0),.tr (ti 0)])],11⟩) (fun m=>i0<=m.i/\m.i<=S.size/\nmR S m=R) (fun m=>S.size-m.i) ⟨i0,0,false⟩ [0,1] [] Sub.au ⟨t9 _,hi0,hR0⟩ ?_;rintro m ⟨hi,his,hR⟩ -
  rw[l6] at hR;conv=>whnf
  cases h1:decide ((m.i:Int)<(S.size:Int)) with
  |false=>
   rw[h1,lh] at hR;subst hR;conv=>whnf
   refine drT ?_;conv=>whnf
   refine exT ?_;conv=>whnf
   exact⟨(),[0,1],[],Sub.au,hi,his⟩
  |true=>
  rw[h1,r7] at hR
  replace h1:=of_decide_eq_true h1
  have hw:IntKind.i64.wrap ((m.i:Int)+1)=((m.i+1:Nat):Int):=by rw[w64 JQ JQ];omega
  conv=>whnf
  refine⟨JQ,h1,fun b hb=>?_⟩;have hc:chI S m.i=b.toNat:=by unfold chI;rw[show S[m.i]?=some b from hb]
  conv=>whnf
  refine aa.pure _ (k69 b.toNat) rfl rfl ?_;conv=>whnf
  cases h3:digB b.toNat with
  |false=>
   rw[hc,h3,lh] at hR;subst hR;conv=>whnf
   refine drT ?_;conv=>whnf
   refine exT ?_;conv=>whnf
   exact⟨(),[0,1],[],Sub.au,hi,his⟩
  |true=>
   rw[hc,h3,r7] at hR;conv=>whnf
   refine drT ?_;conv=>whnf
   refine⟨JQ,h1,fun b' hb'=>?_⟩;obtain rfl:b=b':=vx (hb.symm.trans hb');conv=>whnf
   refine drT ?_;conv=>whnf
   cases h4:m.g with
   |true=>
    conv=>whnf
    rw[hw];have hn:nmN S m=⟨m.i+1,IntKind.u64.wrap (IntKind.u64.wrap (m.n*10)+Ep b.toNat),true⟩:=by unfold nmN;rw[hc,h4];rfl
    exact⟨nmN S m,[0,1],[],hn ▸ Sub.au,⟨by rw[hn];show i0<=m.i+1;omega,by rw[hn];show m.i+1<=S.size;omega,hR⟩,by rw[hn];show S.size-(m.i+1)<S.size-m.i;omega⟩
   |false=>
   conv=>whnf
   refine⟨JS,?_⟩;conv=>whnf
   rw[hw];have hn:nmN S m=⟨m.i+1,IntKind.u64.wrap (IntKind.u64.wrap (m.n*10)+Ep b.toNat),decide (m.n > IntKind.u64.wrap (Int.tdiv (IntKind.u64.wrap (9223372036854775807-Ep b.toNat)) 10))⟩:=by unfold nmN;rw[hc,h4];rfl
   exact⟨nmN S m,[0,1],[],hn ▸ Sub.au,⟨by rw[hn];show i0<=m.i+1;omega,by rw[hn];show m.i+1<=S.size;omega,hR⟩,by rw[hn];show S.size-(m.i+1)<S.size-m.i;omega⟩
 rintro - ⟨hi,his⟩ -
 obtain⟨m,hm⟩:∃m,R=m:=⟨_,rfl⟩;rw[hm] at hi his hW;subst hm;generalize R=m at *
 clear hR0;unfold numG at hW;conv=>whnf
 cases h1:decide ((m.i:Int) > IntKind.i64.wrap ((i0:Int)+1)) with
 |true=>
  have h1':=of_decide_eq_true h1;rw[w64 JQ JQ] at h1';rw[h1,r7] at hW;conv=>whnf
  refine⟨(JQ:(0:Int)<=(i0:Int)),(JQ:(i0:Int)<(S.size:Int)),fun b hb=>?_⟩;have hc:chI S i0=b.toNat:=by unfold chI;rw[show S[i0]?=some b from hb]
  rw[hc] at hW;conv=>whnf
  cases h2:((b.toNat:Int)==48) with
  |true=>
   rw[h2,r7,r7] at hW;subst hW;conv=>whnf
   refine aa.au [0] [] (fQ S m.i a r i0 3) ?_;intro _;conv=>whnf
   exact aut
  |false=>
  rw[h2,lh] at hW;conv=>whnf
  cases h4:m.g with
  |true=>
   rw[h4,r7] at hW;subst hW;conv=>whnf
   refine aa.au [0] [] (fQ S m.i a r i0 3) ?_;intro _;conv=>whnf
   exact aut
  |false=>
  rw[h4,lh] at hW;conv=>whnf
  cases h5:decide ((m.i:Int)<(S.size:Int)) with
  |false=>
   rw[h5,lh,lh] at hW;subst hW;conv=>whnf
   refine drT ?_;conv=>whnf
   refine⟨(JQ:(0:Int)<=(i0:Int)),(JQ:(i0:Int)<=(m.i:Int)),(JQ:(m.i:Int)<=(S.size:Int)),?_⟩;conv=>whnf
   refine drT ?_;conv=>whnf
   exact aut
  |true=>
  rw[h5,r7] at hW
  replace h5:=of_decide_eq_true h5
  conv=>whnf
  refine⟨JQ,h5,fun b hb=>?_⟩;have hc:chI S m.i=b.toNat:=by unfold chI;rw[show S[m.i]?=some b from hb]
  rw[hc] at hW;conv=>whnf
  refine aa.pure _ (k71 b.toNat) rfl rfl ?_;conv=>whnf
  cases h6:letB b.toNat with
  |true=>
   rw[h6,r7] at hW;subst hW;conv=>whnf
   refine drT ?_;conv=>whnf
   refine aa.au [0] [] (fQ S m.i a r m.i 4) ?_;intro _;conv=>whnf
   exact aut
  |false=>
  rw[h6,lh] at hW;subst hW;conv=>whnf
  refine drT ?_;conv=>whnf
  refine⟨(JQ:(0:Int)<=(i0:Int)),(JQ:(i0:Int)<=(m.i:Int)),(JQ:(m.i:Int)<=(S.size:Int)),?_⟩;conv=>whnf
  refine drT ?_;conv=>whnf
  exact aut
 |false=>
 rw[h1,lh,lh] at hW;conv=>whnf
 cases h4:m.g with
 |true=>
  rw[h4,r7] at hW;subst hW;conv=>whnf
  refine aa.au [0] [] (fQ S m.i a r i0 3) ?_;intro _;conv=>whnf
  exact aut
 |false=>
 rw[h4,lh] at hW;conv=>whnf
 cases h5:decide ((m.i:Int)<(S.size:Int)) with
 |false=>
  rw[h5,lh,lh] at hW;subst hW;conv=>whnf
  refine drT ?_;conv=>whnf
  refine⟨(JQ:(0:Int)<=(i0:Int)),(JQ:(i0:Int)<=(m.i:Int)),(JQ:(m.i:Int)<=(S.size:Int)),?_⟩;conv=>whnf
  refine drT ?_;conv=>whnf
  exact aut
 |true=>
 rw[h5,r7] at hW
 replace h5:=of_decide_eq_true h5
 conv=>whnf
 refine⟨JQ,h5,fun b hb=>?_⟩;have hc:chI S m.i=b.toNat:=by unfold chI;rw[show S[m.i]?=some b from hb]
 rw[hc] at hW;conv=>whnf
 refine aa.pure _ (k71 b.toNat) rfl rfl ?_;conv=>whnf
 cases h6:letB b.toNat with
 |true=>
  rw[h6,r7] at hW;subst hW;conv=>whnf
  refine drT ?_;conv=>whnf
  refine aa.au [0] [] (fQ S m.i a r m.i 4) ?_;intro _;conv=>whnf
  exact aut
 |false=>
 rw[h6,lh] at hW;subst hW;conv=>whnf
 refine drT ?_;conv=>whnf
 refine⟨(JQ:(0:Int)<=(i0:Int)),(JQ:(i0:Int)<=(m.i:Int)),(JQ:(m.i:Int)<=(S.size:Int)),?_⟩;conv=>whnf
 refine drT ?_;conv=>whnf
 exact aut
end Go.Proofs.YtapmdfcmpglieaaGreatDoor.am
set_option maxRecDepth 100000
set_option maxHeartbeats 4000000
namespace Go.Proofs.YtapmdfcmpglieaaGreatDoor.am
open Go Go.Proofs Go.RowKit
structure Sc where
 t:Tok
 i:Nat
 a:Int
 r:Int
def signW(S:ByteArray)(i:Nat)(a r:Int):Nat->Sc
 |0=>⟨CF,i,i,1⟩
 |n+1=>bif (bif decide (((i+(n+1):Nat):Int)<=(S.size:Int)) then signS (cutS S i (i+(n+1))) else false) then⟨⟨4,cutS S i (i+(n+1)),0,i⟩,i+(n+1),a,r⟩ else signW S i a r n
theorem EL(S:ByteArray)(i:Nat)(a r:Int)(hS:S.size<=65536)(hi:i<=S.size):K 84 [.ptr 0 0] [scB S i a r] (.ret (signW S i a r 2).t.av) [some (scB S (signW S i a r 2).i (signW S i a r 2).a (signW S i a r 2).r)]:=by
 obtain⟨W,hW⟩:∃W,signW S i a r 2=W:=⟨_,rfl⟩;rw[hW];refine Ctr.of hT hmix Tryz.func84 rfl (fun _ _=>JR) rfl fun hok=>?_;clear hok;conv=>whnf
 refine aq.by (fun n:Nat=>⟨[(0,.ptr 0 0),(3,.tr (ti n)),(2,.ptr 1 0)],[(0,scB S i a r),(1,.cells 60 [.tr (tu 0),.tr (ts ⟨#[]⟩),.tr (ti 0),.tr (ti 0)])],11⟩) (fun n=>n<=2/\signW S i a r n=W) (fun n=>n) 2 [0,1] [] Sub.au ⟨t9 _,hW⟩ ?_;clear hW;rintro n ⟨hn,hW⟩ -
 conv=>whnf
 match n,hn,hW with
 |0,hn,hW=>
  subst hW;conv=>whnf
  refine exT ?_;conv=>whnf
  refine aa.au [0] [] (fQ S i a r i 1) ?_;intro _;conv=>whnf
  exact aut
 |n+1,hn,hW=>
 have hw:IntKind.i64.wrap ((i:Int)+((n+1:Nat):Int))=((i+(n+1):Nat):Int):=by rw[w64 JQ JQ];omega
 have hw':IntKind.i64.wrap (((i+(n+1):Nat):Int)-((n+1:Nat):Int))=(i:Int):=by rw[w64 JQ JQ];omega
 unfold signW at hW;cases hp:decide (((n+1:Nat):Int) > 0) with
 |false=>exact absurd (ud hp) JQ
 |true=>
 conv=>whnf
 rw[hw];cases h1:decide (((i+(n+1):Nat):Int)<=(S.size:Int)) with
 |false=>
  rw[h1,lh,lh] at hW;have hd:IntKind.i64.wrap (((n+1:Nat):Int)-1)=(n:Int):=by rw[w64 JQ JQ];omega
  conv=>whnf
  refine drT ?_;conv=>whnf
  rw[hd];exact⟨n,[0,1],[],Sub.au,⟨JQ,hW⟩,Hh n⟩
 |true=>
  rw[h1,r7] at hW
  replace h1:=of_decide_eq_true h1
  conv=>whnf
  rw[hw];refine⟨(JQ:(0:Int)<=(i:Int)),(JQ:(i:Int)<=((i+(n+1):Nat):Int)),h1,?_⟩;conv=>whnf
  generalize hv:S.extract ((some (i:Int)).getD 0).toNat ((some (((i+(n+1):Nat):Int))).getD (S.size:Int)).toNat=w
  replace hv:cutS S i (i+(n+1))=w:=hv
  rw[hv] at hW;refine aa.pure _ (DY w) rfl rfl ?_;conv=>whnf
  cases h2:signS w with
  |false=>
   rw[h2,lh] at hW;have hd:IntKind.i64.wrap (((n+1:Nat):Int)-1)=(n:Int):=by rw[w64 JQ JQ];omega
   conv=>whnf
   refine drT ?_;conv=>whnf
   rw[hd];exact⟨n,[0,1],[],Sub.au,⟨JQ,hW⟩,Hh n⟩
  |true=>
  rw[h2,r7] at hW;subst hW;conv=>whnf
  refine drT ?_;conv=>whnf
  rw[hw,hw'];refine⟨(JQ:(0:Int)<=(i:Int)),(JQ:(i:Int)<=((i+(n+1):Nat):Int)),h1,?_⟩;conv=>whnf
  refine drT ?_;conv=>whnf
  rw[hw'];subst hv;exact aut
def FU(S:ByteArray)(i:Nat)(a r:Int):Sc:=⟨(wordT S i a r).1,wdE S i,(wordT S i a r).2.1,(wordT S i a r).2.2⟩
def Gg(S:ByteArray)(i:Nat)(a r:Int):Sc:=
 let m:=nmR S ⟨i,0,false⟩
 ⟨(numG S m i a r).1,m.i,(numG S m i a r).2.1,(numG S m i a r).2.2⟩
def oH(S:ByteArray)(i:Nat)(a r:Int):Sc:=bif letB (chI S i) then FU S i a r else bif digB (chI S i) then Gg S i a r else signW S i a r 2
def nextC(S:ByteArray)(i:Nat)(a r:Int):Sc×Bool:=bif decide ((ovS S i:Int)>=(S.size:Int)) then(⟨CF,ovS S i,a,r⟩,false) else(oH S (ovS S i) a r,(oH S (ovS S i) a r).r==0)
theorem wL(S:ByteArray)(i:Nat)(a r:Int)(hS:S.size<=65536)(hi:i<=S.size):K 36 [.ptr 0 0] [scB S i a r] (.ret (.tup [(nextC S i a r).1.t.av,.tr (tb (nextC S i a r).2)])) [some (scB S (nextC S i a r).1.i (nextC S i a r).1.a (nextC S i a r).1.r)]:=by
 obtain⟨W,hW⟩:∃W,nextC S i a r=W:=⟨_,rfl⟩;rw[hW];unfold nextC at hW;obtain⟨ho1,ho2⟩:=qM (S:=S) (S.size-i) i (t9 _) hi;refine Ctr.of hT hmix Tryz.func36 rfl (fun _ _=>JR) rfl fun hok=>?_;clear hok;conv=>whnf
 refine aa.au [0] [] (El S i a r hS hi) ?_;intro _;conv=>whnf
 generalize ovS S i=j at *
 cases h1:decide ((j:Int)>=(S.size:Int)) with
 |true=>
  rw[h1,r7] at hW;subst hW;conv=>whnf
  refine drT ?_;conv=>whnf
  exact aut
 |false=>
 rw[h1,lh] at hW
 replace h1:=ud h1
 conv=>whnf
 refine drT ?_;conv=>whnf
 refine⟨(JQ:(0:Int)<=(j:Int)),(JQ:(j:Int)<(S.size:Int)),fun b hb=>?_⟩;have hc:chI S j=b.toNat:=by unfold chI;rw[show S[j]?=some b from hb]
 unfold oH at hW;rw[hc] at hW;conv=>whnf
 refine drT ?_;conv=>whnf
 refine aa.pure _ (k71 b.toNat) rfl rfl fun _=>?_;conv=>whnf
 cases h2:letB b.toNat with
 |true=>
  rw[h2,r7] at hW;subst hW;conv=>whnf
  refine⟨JS,JS,?_⟩;conv=>whnf
  refine aa.au [0] [] (Ev S j a r hS JQ) ?_;intro _;conv=>whnf
  refine drT ?_;conv=>whnf
  exact aut
 |false=>
 rw[h2,lh] at hW;conv=>whnf
 refine aa.pure _ (k69 b.toNat) rfl rfl fun _=>?_;conv=>whnf
 cases h3:digB b.toNat with
 |true=>
  rw[h3,r7] at hW;subst hW;conv=>whnf
  refine⟨JS,JS,?_⟩;conv=>whnf
  refine aa.au [0] [] (yA S j a r hS JQ) ?_;intro _;conv=>whnf
  refine drT ?_;conv=>whnf
  exact aut
 |false=>
 rw[h3,lh] at hW;subst hW;conv=>whnf
 refine⟨JS,JS,?_⟩;conv=>whnf
 refine aa.au [0] [] (EL S j a r hS JQ) ?_;intro _;conv=>whnf
 refine drT ?_;conv=>whnf
 exact aut
end Go.Proofs.YtapmdfcmpglieaaGreatDoor.am
set_option maxRecDepth 100000
set_option maxHeartbeats 4000000
namespace Go.Proofs.YtapmdfcmpglieaaGreatDoor.am
open Go Go.Proofs Go.RowKit
theorem A3{S:ByteArray}:∀(n i:Nat),S.size-i<=n->i<=S.size->i<=wdE S i/\wdE S i<=S.size
 |n,i,hn,hi=>by
  rw[lS];cases h1:decide ((i:Int)<(S.size:Int)) with
  |false=>exact⟨t9 _,hi⟩
  |true=>
   have h1':=of_decide_eq_true h1;cases h2:aln (chI S i) with
   |false=>exact⟨t9 _,hi⟩
   |true=>
    match n with
    |0=>omega
    |n+1=>have:=A3 (S:=S) n (i+1) JQ JQ;exact⟨by show i<=wdE S (i+1);omega,this.2⟩
theorem AA{S:ByteArray}:∀(n:Nat)(m:Nm),S.size-m.i<=n->m.i<=S.size->m.i<=(nmR S m).i/\(nmR S m).i<=S.size
 |n,m,hn,hi=>by
  rw[l6];cases h1:decide ((m.i:Int)<(S.size:Int)) with
  |false=>exact⟨t9 _,hi⟩
  |true=>
   have h1':=of_decide_eq_true h1;cases h2:digB (chI S m.i) with
   |false=>exact⟨t9 _,hi⟩
   |true=>
    match n with
    |0=>omega
    |n+1=>
     have hn':(nmN S m).i=m.i+1:=rfl;have:=AA (S:=S) n (nmN S m) JQ JQ;exact⟨by show m.i<=(nmR S (nmN S m)).i;omega,this.2⟩
theorem lF{S:ByteArray}{i:Nat}{a r:Int}(hi:i<=S.size):∀n,i<=(signW S i a r n).i/\(signW S i a r n).i<=S.size/\((signW S i a r n).r=0->i<(signW S i a r n).i)
 |0=>⟨t9 _,hi,fun h=>absurd h (by show¬ (1:Int)=0;decide)⟩
 |n+1=>by
  unfold signW;cases h1:decide (((i+(n+1):Nat):Int)<=(S.size:Int)) with
  |false=>exact lF hi n
  |true=>
   have h1':=of_decide_eq_true h1;rw[r7];cases h2:signS (cutS S i (i+(n+1))) with
   |false=>exact lF hi n
   |true=>exact⟨by show i<=i+(n+1);omega,by show i+(n+1)<=S.size;omega,fun _=>by show i<i+(n+1);omega⟩
theorem rH{S:ByteArray}{i:Nat}{a r:Int}(hi:i<=S.size):i<=(nextC S i a r).1.i/\(nextC S i a r).1.i<=S.size/\((nextC S i a r).2=true->i<(nextC S i a r).1.i):=by
 unfold nextC;obtain⟨o1,o2⟩:=qM (S:=S) (S.size-i) i (t9 _) hi;generalize ovS S i=j at *
 cases h1:decide ((j:Int)>=(S.size:Int)) with
 |true=>exact⟨o1,o2,fun h=>Bool.noConfusion h⟩
 |false=>
  have hj:j<S.size:=by have:=ud h1;omega
  rw[lh];show i<=(oH S j a r).i/\(oH S j a r).i<=S.size/\(((oH S j a r).r==0)=true->i<(oH S j a r).i);unfold oH;cases h2:letB (chI S j) with
  |true=>
   rw[r7];have hw:wdE S j=wdE S (j+1):=by rw[lS,GC (by omega:(j:Int)<(S.size:Int)),show aln (chI S j)=true by unfold aln;rw[h2];rfl];rfl
   have:=A3 (S:=S) (S.size-(j+1)) (j+1) (t9 _) hj;show i<=wdE S j/\wdE S j<=S.size/\(_->i<wdE S j);rw[hw];exact⟨JQ,this.2,fun _=>JQ⟩
  |false=>
   rw[lh];cases h3:digB (chI S j) with
   |true=>
    rw[r7];have hw:nmR S ⟨j,0,false⟩=nmR S (nmN S ⟨j,0,false⟩):=by rw[l6,GC (by show(j:Int)<(S.size:Int);omega),show digB (chI S (Nm.mk j 0 false).i)=true from h3];rfl
    have:=AA (S:=S) (S.size-(j+1)) (nmN S ⟨j,0,false⟩) (t9 _) hj;have hn:(nmN S ⟨j,0,false⟩).i=j+1:=rfl;show i<=(nmR S ⟨j,0,false⟩).i/\(nmR S ⟨j,0,false⟩).i<=S.size/\(_->i<(nmR S ⟨j,0,false⟩).i);rw[hw];exact⟨JQ,this.2,fun _=>JQ⟩
   |false=>
    rw[lh];obtain⟨s1,s2,s3⟩:=lF (S:=S) (i:=j) (a:=a) (r:=r) o2 2;exact⟨JQ,s2,fun h=>by have:=s3 (of_decide_eq_true h);omega⟩
structure ScR where
 l:List Tok
 i:Nat
 a:Int
 r:Int
def sT(S:ByteArray):Nat->ScR->ScR
 |0,x=>x
 |f+1,x=>bif (nextC S x.i x.a x.r).2 then sT S f ⟨x.l++[(nextC S x.i x.a x.r).1.t],(nextC S x.i x.a x.r).1.i,(nextC S x.i x.a x.r).1.a,(nextC S x.i x.a x.r).1.r⟩ else⟨x.l,(nextC S x.i x.a x.r).1.i,(nextC S x.i x.a x.r).1.a,(nextC S x.i x.a x.r).1.r⟩
def scanR(S:ByteArray):ScR:=sT S (S.size+1) ⟨[],0,0,0⟩
def scanS(S:ByteArray):List Tok×Int×Int×Int:=
 bif decide ((S.size:Int) > 65536) then([],4,0,0) else bif (scanR S).r != 0 then([],20,(scanR S).a,(scanR S).r) else((scanR S).l,0,0,0)
theorem nf(S:ByteArray):∀(f:Nat)(x:ScR),x.l.length<=x.i->x.i<=S.size->(sT S f x).l.length<=S.size
 |0,x,h1,h2=>GB h1 h2
 |f+1,x,h1,h2=>by
  unfold sT;obtain⟨n1,n2,n3⟩:=rH (a:=x.a) (r:=x.r) h2;cases hc:(nextC S x.i x.a x.r).2 with
  |false=>exact GB h1 h2
  |true=>exact nf S f _ (by show(x.l++[_]).length<=(nextC S x.i x.a x.r).1.i;rw[uR,Io];have:=n3 hc;omega) n2
theorem xm(S:ByteArray):(scanS S).1.length<=65536:=by
 unfold scanS;cases h:decide ((S.size:Int) > 65536) with
 |true=>exact x5 _
 |false=>
  have hS:S.size<=65536:=by have:=ud h;omega
  rw[lh];cases (scanR S).r != 0 with
  |true=>exact x5 _
  |false=>exact GB (nf S (S.size+1) ⟨[],0,0,0⟩ (t9 _) (x5 _)) hS
theorem ww(out:List Tok)(d:Tok):(out.map Tok.cells).take out.length++[d.cells]=(out++[d]).map Tok.cells:=by rw[vG (Ee (ad ..)),FP];rfl
theorem Gp(l:List Tok):l.length<=(l.map Tok.cells).length/\zZ l=.lst 4 40 ((l.map Tok.cells).take l.length):=
 ⟨Ee (ad ..).symm,E8 (Tr.lst 4 40) (vG (Ee (ad ..))).symm⟩
abbrev By(a r:Int):AV:=.agg [.tr (ti a),.tr (ti r)]
theorem u4(S:ByteArray):K 13 [.tr (ts S)] [] (.ret (.tup [.tr (zZ (scanS S).1),.tr (ti (scanS S).2.1),By (scanS S).2.2.1 (scanS S).2.2.2])) []:=by
 obtain⟨W,hW⟩:∃W,scanS S=W:=⟨_,rfl⟩;rw[hW];unfold scanS at hW;refine Ctr.of hT hmix Tryz.func13 rfl (fun _ _=>JR) rfl fun hok=>?_;clear hok;conv=>whnf
 cases h0:decide ((S.size:Int) > 65536) with
 |true=>
  rw[h0,r7] at hW;subst hW;conv=>whnf
  exact⟨⟨.inr ⟨rfl,_,_,rfl⟩,JZ,aut,J0⟩,J0⟩
 |false=>
 rw[h0,lh] at hW;have hS:S.size<=65536:=by have:=ud h0;omega
 obtain⟨R,hR⟩:∃R,scanR S=R:=⟨_,rfl⟩;rw[hR] at hW;conv=>whnf
 refine aq.by (fun x:Nat×ScR=>⟨[(0,.tr (ts S)),(5,.ptr 0 0),(4,.ptr 1 0),(6,.sl 2 x.2.l.length)],[(0,scB S x.2.i x.2.a x.2.r),(1,.cells 54 [.tr (ti 0),.tr (ti 0)]),(2,.vec 60 4 40 (x.2.l.map Tok.cells))],11⟩)
  (fun x=>S.size+1<=x.1+x.2.i/\x.2.l.length<=x.2.i/\x.2.i<=S.size/\sT S x.1 x.2=R) (fun x=>x.1)
  (S.size+1,⟨[],0,0,0⟩) [_,_] [2] (Sub.mk' rfl ⟨.inl rfl,⟨rfl,rfl⟩,⟨rfl,rfl⟩,⟨rfl,rfl,rfl,rfl⟩,trivial⟩ ⟨⟨rfl,.inl rfl,.inl rfl,.inl rfl,.inl rfl,trivial⟩,⟨rfl,.inl rfl,.inl rfl,trivial⟩,⟨rfl,60,4,40,rfl,JQ⟩,trivial⟩ rfl rfl) ⟨t9 _,t9 _,x5 _,hR⟩ ?_
 rintro⟨f,x⟩ ⟨j1,j2,j3,j4⟩ -
 simp only at j1 j2 j3 j4;obtain⟨f,rfl⟩:∃g,f=g+1:=⟨f-1,JQ⟩;obtain⟨n1,n2,n3⟩:=rH (a:=x.a) (r:=x.r) j3;have hol:(x.l.map Tok.cells).length=x.l.length:=ad ..;unfold sT at j4;have hk:=wL S x.i x.a x.r hS j3;generalize nextC S x.i x.a x.r=N at *
 obtain⟨⟨⟨tk,tx,tw,tp⟩,i2,a2,r2⟩,ok⟩:=N;simp only at n1 n2 n3;conv=>whnf
 refine aa.au [0] [] (hk) ?_;intro _;conv=>whnf
 cases ok with
 |true=>
  have n3:x.i<i2:=n3 rfl;conv=>whnf
  refine⟨rfl,rfl,rfl,Ee hol.symm,by show(x.l.length+1)*40<=150000000000000;omega,neL rfl,?_⟩;conv=>whnf
  exact⟨(f,⟨x.l++[Tok.mk tk tx tw tp],i2,a2,r2⟩),[_,_,_],[],Sub.mk' rfl ⟨JZ,JY,JY,⟨rfl,by show x.l.length+1=(x.l++[_]).length;rw[uR];rfl⟩,J0⟩ ⟨⟨rfl,JZ,JZ,JZ,JZ,J0⟩,⟨rfl,JZ,JZ,J0⟩,⟨rfl,rfl,rfl,ww x.l (Tok.mk tk tx tw tp)⟩,J0⟩ rfl rfl,
   ⟨by show S.size+1<=f+i2;omega,by show(x.l++[_]).length<=i2;rw[uR,Io];omega,n2,j4⟩,Hh f⟩
 |false=>
 subst j4;change(bif ((r2:Int) != 0) then(([]:List Tok),(20:Int),a2,r2) else(x.l,0,0,0))=W at hW;conv=>whnf
 refine⟨fun h=>absurd h JS,fun _=>?_⟩;conv=>whnf
 refine exT ?_;conv=>whnf
 cases h1:((r2:Int) != 0) with
 |true=>
  rw[h1,r7] at hW;subst hW;conv=>whnf
  refine drT ?_;conv=>whnf
  exact⟨⟨.inr ⟨rfl,_,_,rfl⟩,JZ,aut,J0⟩,J0⟩
 |false=>
 rw[h1,lh] at hW;subst hW;conv=>whnf
 exact⟨⟨⟨rfl,Gp _⟩,JZ,aut,J0⟩,J0⟩
end Go.Proofs.YtapmdfcmpglieaaGreatDoor.am
set_option maxRecDepth 100000
set_option maxHeartbeats 4000000
namespace Go.Proofs.YtapmdfcmpglieaaGreatDoor.am
open Go Go.Proofs Go.RowKit
abbrev pB(l:List Tok)(i:Nat)(e:Int):Blk:=.cells 183 [.tr (zZ l),.tr (ti i),.tr (ti e)]
def atP(l:List Tok)(i:Nat)(e:Int):Int:=match l[i]? with
 |some t=>t.at_
 |none=>e
def hereP(l:List Tok)(i:Nat):Tok:=match l[i]? with
 |some t=>t
 |none=>CF
theorem F7(l:List Tok)(i:Nat)(e:Int)(hl:l.length<=65536)(hi:i<=l.length):K 139 [.ptr 0 0] [pB l i e] (.ret (.tr (ti (atP l i e)))) [some (pB l i e)]:=by
 refine Ctr.of hT hmix Tryz.func139 rfl (fun _ _=>JR) rfl fun hok=>?_;clear hok;have hol:(l.map Tok.cells).length=l.length:=ad ..;conv=>whnf
 cases h1:decide ((i:Int)<((l.map Tok.cells).length:Int)) with
 |true=>
  replace h1:=of_decide_eq_true h1
  conv=>whnf
  refine drT ?_;conv=>whnf
  refine⟨rfl,JQ,h1,fun row hrow=>?_⟩;obtain⟨t,ht,rfl⟩:=aC hrow;have ht:l[i]?=some t:=ht;conv=>whnf
  refine drT ?_;conv=>whnf
  unfold atP;rw[ht];exact aut
 |false=>
  replace h1:=ud h1
  conv=>whnf
  refine drT ?_;conv=>whnf
  unfold atP;rw[yB JQ];exact aut
theorem jc(l:List Tok)(i:Nat)(e:Int)(hl:l.length<=65536)(hi:i<=l.length):K 135 [.ptr 0 0] [pB l i e] (.ret (hereP l i).av) [some (pB l i e)]:=by
 refine Ctr.of hT hmix Tryz.func135 rfl (fun _ _=>JR) rfl fun hok=>?_;clear hok;have hol:(l.map Tok.cells).length=l.length:=ad ..;conv=>whnf
 cases h1:decide ((i:Int)<((l.map Tok.cells).length:Int)) with
 |true=>
  replace h1:=of_decide_eq_true h1
  conv=>whnf
  refine drT ?_;conv=>whnf
  refine⟨rfl,JQ,h1,fun row hrow=>?_⟩;obtain⟨t,ht,rfl⟩:=aC hrow;have ht:l[i]?=some t:=ht;conv=>whnf
  refine drT ?_;conv=>whnf
  unfold hereP;rw[ht];exact aut
 |false=>
  replace h1:=ud h1
  conv=>whnf
  refine drT ?_;conv=>whnf
  unfold hereP;rw[yB JQ];exact aut
def isP(l:List Tok)(i:Nat)(s:ByteArray):Bool:=bif seq (hereP l i).text s then(bif (hereP l i).kind==2 then true else(hereP l i).kind==4) else false
theorem cX{l:List Tok}{i:Nat}(h:(hereP l i).kind≠0):i<l.length:=by
 unfold hereP at h;by_cases hi:i<l.length;·exact hi
 ·rw[yB JQ] at h;exact absurd rfl h
theorem di{l:List Tok}{i:Nat}{s:ByteArray}(h:isP l i s=true):i<l.length:=by
 apply cX;intro e;unfold isP at h;rw[e] at h;cases h1:seq (hereP l i).text s with
 |true=>rw[h1] at h;exact absurd h JS
 |false=>rw[h1] at h;exact absurd h JS
theorem sO(l:List Tok)(i:Nat)(e:Int)(s:ByteArray)(hl:l.length<=65536)(hi:i<=l.length):K 93 [.ptr 0 0,.tr (ts s)] [pB l i e] (.ret (.tr (tb (isP l i s)))) [some (pB l i e)]:=by
 refine Ctr.of hT hmix Tryz.func93 rfl (fun _ _=>JR) rfl fun hok=>?_;clear hok;conv=>whnf
 refine aa.au [0] [] (jc l i e hl hi) ?_;intro _;conv=>whnf
 unfold isP;generalize hereP l i=t;cases h1:(t.text.toList==s.toList) with
 |false=>
  rw[show seq t.text s=false from h1];conv=>whnf
  exact aut
 |true=>
 rw[show seq t.text s=true from h1];conv=>whnf
 cases h2:(t.kind==2) with
 |true=>
  conv=>whnf
  exact aut
 |false=>
 conv=>whnf
 exact aut
theorem eM(l:List Tok)(i:Nat)(e:Int)(s:ByteArray)(hl:l.length<=65536)(hi:i<=l.length):K 89 [.ptr 0 0,.tr (ts s)] [pB l i e] (.ret (.tr (tb (isP l i s)))) [some (pB l (bif isP l i s then i+1 else i) e)]:=by
 refine Ctr.of hT hmix Tryz.func89 rfl (fun _ _=>JR) rfl fun hok=>?_;clear hok;have hw:=fun h:isP l i s=true=>(show IntKind.i64.wrap ((i:Int)+1)=((i+1:Nat):Int) by have:=di h;rw[w64 JQ JQ];omega);conv=>whnf
 refine aa.au [0] [] (sO l i e s hl hi) ?_;intro _;conv=>whnf
 cases h1:isP l i s with
 |false=>
  conv=>whnf
  exact aut
 |true=>
 replace hw:=hw h1
 conv=>whnf
 rw[hw];exact aut
theorem jO(l:List Tok)(i:Nat)(e:Int)(hl:l.length<=65536)(hi:i<l.length):K 136 [.ptr 0 0] [pB l i e] (.ret (hereP l i).av) [some (pB l (i+1) e)]:=by
 refine Ctr.of hT hmix Tryz.func136 rfl (fun _ _=>JR) rfl fun hok=>?_;clear hok;have hw:IntKind.i64.wrap ((i:Int)+1)=((i+1:Nat):Int):=by rw[w64 JQ JQ];omega
 conv=>whnf
 refine aa.au [0] [] (jc l i e hl (Ke hi)) ?_;intro _;conv=>whnf
 rw[hw];exact aut
abbrev cj(a r:Int):AV:=.ifc 136 (.agg [.tr (ti a),.tr (ti r)])
theorem iw(l:List Tok)(i:Nat)(e r:Int)(hl:l.length<=65536)(hi:i<=l.length):K 95 [.ptr 0 0,.tr (ti r)] [pB l i e] (.pan (cj (atP l i e) r)) [some (pB l i e)]:=by
 refine Ctr.of hT hmix Tryz.func95 rfl (fun _ _=>JR) rfl fun hok=>?_;clear hok;conv=>whnf
 refine aa.au [0] [] (F7 l i e hl hi) ?_;intro _;conv=>whnf
 exact aut
def nameP(l:List Tok)(i:Nat):Bool:=(hereP l i).kind != 1
theorem jv(l:List Tok)(i:Nat)(e:Int)(hl:l.length<=65536)(hi:i<=l.length):K 137 [.ptr 0 0] [pB l i e] (bif nameP l i then .pan (cj (atP l i e) 2) else .ret (hereP l i).av) [some (pB l (bif nameP l i then i else i+1) e)]:=by
 unfold nameP;refine Ctr.of hT hmix Tryz.func137 rfl (fun _ _=>JR) rfl fun hok=>?_;clear hok;have hlt:=cX (l:=l) (i:=i);have hn:=jO l i e hl;conv=>whnf
 refine aa.au [0] [] (jc l i e hl hi) ?_;intro _;conv=>whnf
 generalize hereP l i=t at *
 cases h1:(t.kind != 1) with
 |true=>
  conv=>whnf
  refine aa.au [0] [] (iw l i e 2 hl hi) ?_;intro _;conv=>whnf
  exact aut
 |false=>
 have h2:i<l.length:=hlt (by intro h;rw[h] at h1;exact absurd h1 JS);conv=>whnf
 refine aa.au [0] [] (hn h2) ?_;intro _;conv=>whnf
 exact aut
def wantP(l:List Tok)(i:Nat):List ByteArray->Nat×Bool
 |[]=>(i,true)
 |s::r=>bif isP l i s then wantP l (i+1) r else(i,false)
theorem bO(l:List Tok):∀(L:List ByteArray)(i:Nat),i<=l.length->i<=(wantP l i L).1/\(wantP l i L).1<=l.length
 |[],i,h=>⟨t9 _,h⟩
 |s::r,i,h=>by
  unfold wantP;cases h1:isP l i s with
  |false=>exact⟨t9 _,h⟩
  |true=>have:=bO l r (i+1) (di h1);exact⟨by show i<=(wantP l (i+1) r).1;omega,this.2⟩
abbrev AG(L:List ByteArray):Tr:=.lst 1 16 (L.map fun s=>[ts s])
theorem dL(l:List Tok)(i0:Nat)(e:Int)(L:List ByteArray)(hl:l.length<=65536)(hi:i0<=l.length)(hL:L.length<=8):K 134 [.ptr 0 0,.tr (AG L)] [pB l i0 e] (bif (wantP l i0 L).2 then .ret (.tup []) else .pan (cj (atP l (wantP l i0 L).1 e) 2)) [some (pB l (wantP l i0 L).1 e)]:=by
 obtain⟨W,hW⟩:∃W,wantP l i0 L=W:=⟨_,rfl⟩;rw[hW];refine Ctr.of hT hmix Tryz.func134 rfl (fun _ _=>JR) rfl fun hok=>?_;clear hok;have hol:(L.map fun s=>[ts s]).length=L.length:=ad ..;conv=>whnf
 refine aq.by (fun x:Nat×Nat=>⟨[(0,.ptr 0 0),(6,.tr (AG L)),(7,.tr (ti L.length)),(8,.tr (ti x.1))],[(0,pB l x.2 e)],11⟩) (fun x=>x.1<=L.length/\x.2<=l.length/\wantP l x.2 (L.drop x.1)=W) (fun x=>L.length-x.1) (0,i0) [0] [] (Sub.mk' rfl ⟨JY,JZ,.inl (by rw[hol]),aut⟩ aut rfl rfl) ⟨x5 _,hi,hW⟩ ?_;clear hi hW;rintro⟨x1,x2⟩ ⟨hn,hi,hW⟩ -
 dsimp only at hn hi hW |-
 conv=>whnf
 cases h1:decide ((x1:Int)<(L.length:Int)) with
 |false=>
  have h1':=ud h1;rw[GK JQ] at hW;subst hW;conv=>whnf
  refine exT ?_;conv=>whnf
  exact aut
 |true=>
 replace h1:=of_decide_eq_true h1
 have hlt:x1<L.length:=JQ;have hw:IntKind.i64.wrap ((x1:Int)+1)=((x1+1:Nat):Int):=by rw[w64 JQ JQ];omega
 rw[HN hlt] at hW;unfold wantP at hW;conv=>whnf
 refine⟨rfl,JQ,(by rw[hol];exact h1),fun row hrow=>?_⟩;obtain⟨s,hs,rfl⟩:=aC hrow;have hs:L[x1]?=some s:=hs;obtain rfl:L[x1]=s:=vx ((ab hlt).symm.trans hs);generalize L[x1]=s at *
 conv=>whnf
 refine aa.au [0] [] (eM l x2 e s hl hi) ?_;intro _;conv=>whnf
 cases h2:isP l x2 s with
 |false=>
  rw[h2,lh] at hW;subst hW;conv=>whnf
  refine aa.au [0] [] (iw l x2 e 2 hl hi) ?_;intro _;conv=>whnf
  exact aut
 |true=>
 rw[h2,r7] at hW;conv=>whnf
 rw[hw];exact⟨(x1+1,x2+1),[0],[],Sub.au,⟨hlt,di h2,hW⟩,by show L.length-(x1+1)<L.length-x1;omega⟩
end Go.Proofs.YtapmdfcmpglieaaGreatDoor.am
set_option maxRecDepth 100000
set_option maxHeartbeats 4000000
namespace Go.Proofs.YtapmdfcmpglieaaGreatDoor.am
open Go Go.Proofs Go.RowKit
abbrev KE(f:Nat)(args:List AV)(bin:List Blk)(QQ:QE):Prop:=cp Tryz.prog f args bin QQ
def PE(l:List Tok)(e:Int)(lo:Nat)(ok:AV->Prop):QE:=fun r b=>∃j,j<=l.length/\b=[some (pB l j e)]/\((∃a,r=.ret a/\ok a/\lo<=j)\/∃x y,r=.pan (cj x y))
def t6(a:AV):Prop:=∃d:Decl,a=d.av
theorem vJ(l:List Tok)(i:Nat)(e:Int)(hl:l.length<=65536)(hi:i<=l.length):K 92 [.ptr 0 0] [pB l i e] (bif nameP l i then .pan (cj (atP l i e) 2) else .ret (Decl.mk (hereP l i).text 0 (hereP l i).at_).av) [some (pB l (bif nameP l i then i else i+1) e)]:=by
 refine Ctr.of hT hmix Tryz.func92 rfl (fun _ _=>JR) rfl fun hok=>?_;clear hok;have hn:=jv l i e hl hi;generalize hereP l i=t at *
 conv=>whnf
 cases h1:nameP l i with
 |true=>
  rw[h1] at hn;refine aa.au [0] [] (hn) ?_;intro _;conv=>whnf
  exact aut
 |false=>
 rw[h1] at hn;refine aa.au [0] [] (hn) ?_;intro _;conv=>whnf
 exact aut
theorem gX{l:List Tok}{i:Nat}(h:nameP l i=false):i<l.length:=by apply cX;intro e;unfold nameP at h;rw[e] at h;exact absurd h JS
theorem Af(l:List Tok)(i:Nat)(e:Int)(hl:l.length<=65536)(hi:i<=l.length):KE 92 [.ptr 0 0] [pB l i e] (PE l e (i+1) t6):=by
 have h:=vJ l i e hl hi;cases h1:nameP l i with
 |true=>rw[h1] at h;exact h.toE ⟨i,hi,rfl,.inr ⟨_,_,rfl⟩⟩
 |false=>rw[h1] at h;exact h.toE ⟨i+1,gX h1,rfl,.inl ⟨_,rfl,⟨_,rfl⟩,t9 _⟩⟩
theorem lJ{l:List Tok}{i:Nat}{s:ByteArray}(hi:i<=l.length):(bif isP l i s then i+1 else i)<=l.length/\i<=(bif isP l i s then i+1 else i):=by
 cases h:isP l i s with
 |true=>exact⟨di h,Kt i⟩
 |false=>exact⟨hi,t9 i⟩
theorem wu(l:List Tok)(i:Nat)(e:Int)(hl:l.length<=65536)(hi:i<=l.length):KE 91 [.ptr 0 0] [pB l i e] (PE l e (i+1) t6):=by
 refine cp.new [] hT hmix Tryz.func91 rfl (fun _ _=>JR) rfl fun hok=>?_;clear hok;have hn:=vJ l i e hl hi;generalize hereP l i=t at *
 conv=>whnf
 cases h1:nameP l i with
 |true=>
  rw[h1] at hn;refine aa.au [0] [] (hn) ?_;intro _;conv=>whnf
  exact⟨.pan (cj (atP l i e) 2),_,⟨i,hi,rfl,.inr ⟨_,_,rfl⟩⟩,[0],rfl,rfl,aut⟩
 |false=>
 rw[h1] at hn;have hi1:i+1<=l.length:=gX h1;refine aa.au [0] [] (hn) ?_;intro _;conv=>whnf
 refine aa.au [0] [] (eM l (i+1) e ⟨#[61]⟩ hl hi1) ?_;intro _;conv=>whnf
 obtain⟨t1,t2⟩:=lJ (s:=⟨#[61]⟩) hi1;generalize (bif isP l (i+1) ⟨#[61]⟩ then i+1+1 else i+1)=j at *
 cases h2:isP l (i+1) ⟨#[61]⟩ with
 |false=>
  conv=>whnf
  exact⟨.ret (Decl.mk t.text 0 t.at_).av,_,⟨j,t1,rfl,.inl ⟨_,rfl,⟨_,rfl⟩,t2⟩⟩,[0],rfl,rfl,aut⟩
 |true=>
 conv=>whnf
 refine aa.au [0] [] (eM l j e ⟨#[45]⟩ hl t1) ?_;intro _;conv=>whnf
 obtain⟨u1,u2⟩:=lJ (s:=⟨#[45]⟩) t1;generalize (bif isP l j ⟨#[45]⟩ then j+1 else j)=k at *
 refine aa.au [0] [] (jc l k e hl u1) ?_;intro _;conv=>whnf
 have hx:=jO l k e hl;have hlt:=cX (l:=l) (i:=k);generalize hereP l k=u at *
 cases h3:(u.kind != 3) with
 |true=>
  conv=>whnf
  refine aa.au [0] [] (iw l k e 2 hl u1) ?_;intro _;conv=>whnf
  exact⟨.pan (cj (atP l k e) 2),_,⟨k,u1,rfl,.inr ⟨_,_,rfl⟩⟩,[0],rfl,rfl,aut⟩
 |false=>
 have hk:k<l.length:=hlt (by intro h;rw[h] at h3;exact absurd h3 JS);conv=>whnf
 refine aa.au [0] [] (hx hk) ?_;intro _;conv=>whnf
 cases h4:isP l j ⟨#[45]⟩ with
 |true=>
  conv=>whnf
  exact⟨.ret (Decl.mk t.text (IntKind.i64.wrap (0-u.word)) t.at_).av,_,⟨k+1,hk,rfl,.inl ⟨_,rfl,⟨_,rfl⟩,JQ⟩⟩,[0],rfl,rfl,aut⟩
 |false=>
  conv=>whnf
  exact⟨.ret (Decl.mk t.text u.word t.at_).av,_,⟨k+1,hk,rfl,.inl ⟨_,rfl,⟨_,rfl⟩,JQ⟩⟩,[0],rfl,rfl,aut⟩
theorem vU(out:List Decl)(d:Decl):(out.map Decl.cells).take out.length++[d.cells]=(out++[d]).map Decl.cells:=by rw[vG (Ee (ad ..)),FP];rfl
theorem DO(l:List Decl):l.length<=(l.map Decl.cells).length/\ae l=.lst 3 32 ((l.map Decl.cells).take l.length):=
 ⟨Ee (ad ..).symm,E8 (Tr.lst 3 32) (vG (Ee (ad ..))).symm⟩
theorem xg(g:Nat)(l:List Tok)(i0:Nat)(e:Int)(hl:l.length<=65536)(hi:i0<=l.length)(hg:∀i,i<=l.length->KE g [.ptr 0 0] [pB l i e] (PE l e (i+1) t6))(hgb:(Nat.ble HMod (HMod+g)&&Nat.blt (HMod+g) (2*HMod))=true)(hgs:HMod+g-HMod=g):
  KE 90 [.ptr 0 0,.ifc (HMod+g) (.ptr 0 0)] [pB l i0 e] (PE l e (i0+1) fun a=>∃d:List Decl,a=.tr (ae d)/\d.length<=65536):=by
 refine cp.new [2000001,2000003] hT hmix Tryz.func90 rfl (fun _ _=>JR) rfl fun hok=>?_;clear hok;conv=>whnf
 refine af hT 1 ?_;conv=>whnf
 rw[hgb,hgs];refine aj.by [0] [] (hg i0 hi) ?_;rintro res bout ⟨j,hj,rfl,⟨a,rfl,⟨d,rfl⟩,hlo⟩|⟨x,y,rfl⟩⟩
 ·refine⟨rfl,?_⟩;conv=>whnf
  intro _;conv=>whnf
  have hlo:i0+1<=j:=hlo;refine aq.by (fun x:Nat×List Decl=>⟨[(0,.ptr 0 0),(1,.ifc (HMod+g) (.ptr 0 0)),(5,.sl 1 x.2.length)],[(0,pB l x.1 e),(1,.vec 200 3 32 (x.2.map Decl.cells))],11⟩) (fun x=>i0+1<=x.1/\x.1<=l.length/\x.2.length<=x.1) (fun x=>l.length-x.1) (j,[d]) [0,_] [] Sub.aw ⟨hlo,hj,by show 1<=j;omega⟩ ?_;clear hlo hj;rintro⟨j,out⟩ ⟨hlo,hj,hout⟩ -
  dsimp only at hlo hj hout;have hol:(out.map Decl.cells).length=out.length:=ad ..;conv=>whnf
  refine aa.au [0] [] (eM l j e ⟨#[44]⟩ hl hj) ?_;intro _;conv=>whnf
  obtain⟨t1,t2⟩:=lJ (s:=⟨#[44]⟩) hj;generalize (bif isP l j ⟨#[44]⟩ then j+1 else j)=k at *
  cases h2:isP l j ⟨#[44]⟩ with
  |true=>
   conv=>whnf
   refine af hT 2 ?_;conv=>whnf
   rw[hgb,hgs];refine aj.by [0] [] (hg k t1) ?_;rintro res bout ⟨m,hm,rfl,⟨a,rfl,⟨d,rfl⟩,hlo2⟩|⟨x,y,rfl⟩⟩
   ·refine⟨rfl,?_⟩;conv=>whnf
    intro _;conv=>whnf
    refine⟨rfl,rfl,rfl,Ee hol.symm,by show(out.length+1)*32<=150000000000000;omega,neL rfl,?_⟩;conv=>whnf
    have hlo2:k+1<=m:=hlo2;exact⟨(m,out++[d]),[0,_],[],Sub.mk' rfl ⟨JY,⟨rfl,rfl,rfl⟩,⟨rfl,by show out.length+1=(out++[d]).length;rw[uR];rfl⟩,J0⟩ ⟨⟨rfl,JZ,JZ,JZ,J0⟩,⟨rfl,rfl,rfl,vU out d⟩,J0⟩ rfl rfl,⟨by show i0+1<=m;omega,hm,by show(out++[d]).length<=m;rw[uR];show out.length+1<=m;omega⟩,by show l.length-m<l.length-j;omega⟩
   ·refine⟨rfl,?_⟩;conv=>whnf
    intro _;conv=>whnf
    exact⟨.pan (cj x y),_,⟨m,hm,rfl,.inr ⟨_,_,rfl⟩⟩,[0],rfl,rfl,aut⟩
  |false=>
   conv=>whnf
   refine exT ?_;conv=>whnf
   have hw:=dL l k e [⟨#[59]⟩] hl t1 JS;obtain⟨v1,v2⟩:=bO l [⟨#[59]⟩] k t1;generalize wantP l k [⟨#[59]⟩]=W at *
   obtain⟨m,ok⟩:=W;cases ok with
   |false=>
    refine aa.au [0] [14] (hw) ?_;intro _;conv=>whnf
    exact⟨.pan (cj (atP l m e) 2),_,⟨m,v2,rfl,.inr ⟨_,_,rfl⟩⟩,[0],rfl,rfl,aut⟩
   |true=>
    refine aa.au [0] [14] (hw) ?_;intro _;conv=>whnf
    exact⟨.ret (.tr (ae out)),_,⟨m,v2,rfl,.inl ⟨_,rfl,⟨out,rfl,JQ⟩,by have:k<=m:=v1;omega⟩⟩,[0],rfl,rfl,⟨⟨rfl,DO out⟩,aut,J0⟩⟩
 ·refine⟨rfl,?_⟩;conv=>whnf
  intro _;conv=>whnf
  exact⟨.pan (cj x y),_,⟨j,hj,rfl,.inr ⟨_,_,rfl⟩⟩,[0],rfl,rfl,aut⟩
end Go.Proofs.YtapmdfcmpglieaaGreatDoor.am
set_option maxRecDepth 100000
set_option maxHeartbeats 4000000
namespace Go.Proofs.YtapmdfcmpglieaaGreatDoor.ws
open Go Go.RowKit
theorem B5(x k idx:Nat)(w:World)(hx0:((x:Int)==0)=false)
  (key:bits BinOp.and IntKind.u32 (x:Int) (-(x:Int) % 4294967296)*125613361 % 4294967296 / 134217728=(idx:Int))
  (hi:idx<32) (hk:k<32) (hcell:w.cell? ⟨0,idx,none⟩=some (.int .u8 k)) :
  Calls Tryz.prog 120 #[.int .u32 x] w fun e w'=>e=.returned (.int .i64 k)/\w=w':=by
 go_enter Tryz.func120,Tryz.ntmps120
 go_wp2_with (simp only[key])
 go_ret
 exact JY
theorem tz_any(x:Nat)(hx:x<4294967296)(hx0:x≠0)(w:World)(hT:∀j,j<32->w.cell? ⟨0,j,none⟩=some (.int .u8 (Lib.deBruijn32tab.getD j 0:Nat))):
  Calls Tryz.prog 120 #[.int .u32 x] w fun e w'=>e=.returned (.int .i64 (Lib.ctz 32 x))/\w=w':=by
 obtain⟨hlow,hk⟩:=Lib.lowest_bit 32 x hx0 hx;obtain⟨hi,htab⟩:=Lib.deBruijn32_at _ hk;have hcell:=hT _ hi;rw[htab] at hcell;exact B5 x _ _ w (by simp;omega) (Go.Proofs.tz32_key x _ hx hx0 hlow) hi hk hcell
end Go.Proofs.YtapmdfcmpglieaaGreatDoor.ws
namespace Go.Proofs.YtapmdfcmpglieaaGreatDoor.am
open Go Go.Proofs Go.RowKit
attribute [local irreducible] aj
abbrev tw(x:Int):Tr:=.v (.int .u32 x)
theorem ES(j:Nat)(h:j<32):tzL.getD j 0=((Lib.deBruijn32tab.getD j 0:Nat):Int):=by have:∀j,j<32->tzL.getD j 0=((Lib.deBruijn32tab.getD j 0:Nat):Int):=JS;exact this j h
theorem Gm(x:Nat)(hx:x<4294967296)(hx0:x≠0):K 120 [.tr (tw x)] [] (.ret (.tr (ti (Lib.ctz 32 x)))) []:=by refine Ctr.ofCalls (fun _ _=>JR) fun g w vs hm hsz hv=>?_;obtain⟨v,rfl⟩:=jB hsz;obtain⟨rfl,h1,h2⟩:=al (hv 0 v (.tr (tw x)) rfl rfl);obtain⟨_,cs,t,fz,e,hk⟩:=hm.gl _ _ (.inr ⟨rfl,rfl⟩);refine(ws.tz_any x hx hx0 w fun j hj=>by rw[aD e,<-ES j hj];exact hk j hj).mono ?_;rintro e w' ⟨rfl,rfl⟩;have:=(Lib.lowest_bit 32 x hx0 hx).2;exact⟨_,rfl,Jb _ _,fun _ _=>.tr (.v ⟨by show(-9223372036854775808:Int)<=((Lib.ctz 32 x:Nat):Int);omega,by show((Lib.ctz 32 x:Nat):Int)<=9223372036854775807;omega⟩)⟩
theorem and_lt(x:Nat)(h:x≠0):bits .and .u32 (x:Int) (IntKind.u32.wrap ((x:Int)-1))=((x &&& (x-1):Nat):Int)\/4294967296<=x:=by
 by_cases hx:x<4294967296
 ·left;rw[show IntKind.u32.wrap ((x:Int)-1)=((x-1:Nat):Int) by rw[Go.Proofs.wrap_u32'];omega];exact Go.Proofs.bits_and_u32_nat x (x-1) hx JQ
 ·right;omega
theorem Ay(x0:Nat)(hx0:x0<4294967296):KE 53 [.tr (tw x0)] [] (fun r b=>b=[]/\∃L:List Int,r=.ret (.tr (az L))/\(x0≠0->1<=L.length)):=by
 refine cp.new [] hT hmix Tryz.func53 rfl (fun _ _=>JR) rfl fun hok=>?_;clear hok;conv=>whnf
 refine aq.by (fun x:Nat×List Int=>⟨[(0,.tr (tw x.1)),(3,.sl 0 x.2.length)],[(0,.vec 3 1 8 (x.2.map irow))],11⟩) (fun x=>x.1<4294967296/\x.2.length+x.1<=x0/\(x0≠0->x.1=0->1<=x.2.length)) (fun x=>x.1) (x0,[]) [] [0] (Sub.mk' rfl aut ⟨⟨rfl,3,1,8,rfl,JQ⟩,J0⟩ rfl rfl) ⟨hx0,by show 0+x0<=x0;omega,fun h h2=>absurd h2 h⟩ ?_;rintro⟨x,out⟩ ⟨hx,ho,hz⟩ -
 dsimp only at hx ho hz;have hol:(out.map irow).length=out.length:=ad ..;conv=>whnf
 cases h1:((x:Int) != 0) with
 |false=>
  conv=>whnf
  refine exT ?_;conv=>whnf
  have h0:x=0:=by by_cases h:x=0;exact h;exact absurd h1 (by simp[bne];omega)
  exact⟨.ret (.tr (az out)),[],⟨rfl,out,rfl,fun h=>hz h h0⟩,[],rfl,rfl,⟨⟨rfl,Ee hol.symm,E8 (Tr.lst 1 8) (vG (Ee hol)).symm⟩,J0⟩⟩
 |true=>
 have hxn:x≠0:=by intro h;subst h;exact absurd h1 JS
 have hle:x &&& (x-1)<=x-1:=Nat.and_le_right;have hb:bits .and .u32 (x:Int) (IntKind.u32.wrap ((x:Int)-1))=((x &&& (x-1):Nat):Int):=by rcases and_lt x hxn with h|h;exact h;omega
 conv=>whnf
 refine aa.pure _ (Gm x hx hxn) rfl rfl fun _=>?_;conv=>whnf
 refine⟨rfl,rfl,rfl,Ee hol.symm,by show(out.length+1)*8<=150000000000000;omega,neL rfl,?_⟩;conv=>whnf
 exact⟨(x &&& (x-1),out++[(Lib.ctz 32 x:Int)]),[_],[],Sub.mk' rfl ⟨.inl (E8 tw hb),⟨rfl,by show out.length+1=(out++[_]).length;rw[uR];rfl⟩,J0⟩ ⟨⟨rfl,rfl,rfl,by show(out.map irow).take out.length++_=(out++[_]).map irow;rw[vG (Ee hol),FP];rfl⟩,J0⟩ rfl rfl,⟨by show x &&& (x-1)<4294967296;omega,by show(out++[_]).length+(x &&& (x-1))<=x0;rw[uR];show out.length+1+(x &&& (x-1))<=x0;omega,fun _ _=>by show 1<=(out++[_]).length;rw[uR];exact Nat.le_add_left _ _⟩,by show x &&& (x-1)<x;omega⟩
def uj(k t l:Int):List Tr:=[tu k,ti t,ti l]
def kindU(threads guards:Nat):Int:=bif threads==0 then 0 else bif threads &&& (threads-1)==0 then 1 else bif guards != 0 then 2 else 3
theorem uA(th gu:Nat)(ht:th<4294967296)(hg:gu<4294967296):KE 22 [.agg [.tr (tw th),.tr (tw gu)]] [] (fun r b=>b=[]/\∃t l:Int,r=.ret (.agg ((uj (kindU th gu) t l).map .tr))):=by
 obtain⟨K,hK⟩:∃K,kindU th gu=K:=⟨_,rfl⟩;rw[hK];unfold kindU at hK;refine cp.new [2000004,2000006] hT hmix Tryz.func22 rfl (fun _ _=>JR) rfl fun hok=>?_;clear hok;conv=>whnf
 cases h1:((th:Int)==0) with
 |true=>
  rw[show(th==0)=true from(by have:th=0:=(by simpa using h1);rw[this];rfl),r7] at hK;conv=>whnf
  exact⟨.ret (.agg ((uj 0 0 0).map .tr)),[],⟨rfl,_,_,E8 (fun z=>AE.ret (.agg ((uj z 0 0).map .tr))) hK⟩,[],rfl,rfl,aut⟩
 |false=>
 have hth:th≠0:=by intro h;subst h;exact absurd h1 JS
 rw[show(th==0)=false by simp[hth],lh] at hK;have hb:bits .and .u32 (th:Int) (IntKind.u32.wrap ((th:Int)-1))=((th &&& (th-1):Nat):Int):=by rcases and_lt th hth with h|h;exact h;omega
 have hb':IntKind.u32.wrap (((BitVec.ofInt IntKind.u32.bits (th:Int) &&& BitVec.ofInt IntKind.u32.bits (IntKind.u32.wrap ((th:Int)-1))).toNat:Nat):Int)=((th &&& (th-1):Nat):Int):=hb;have hdec:∀n:Nat,((n:Int)==0)=(n==0):=fun n=>by cases n<;>rfl
 conv=>whnf
 rw[hb',hdec];cases h2:((th &&& (th-1))==0) with
 |true=>
  rw[h2,r7] at hK;conv=>whnf
  refine af hT 2 ?_;conv=>whnf
  refine aj.by [] [] (Ay th ht) ?_;rintro res bout ⟨rfl,L,rfl,hL⟩;have hL:=hL hth;refine⟨rfl,?_⟩;conv=>whnf
  intro _;have hol:(L.map irow).length=L.length:=ad ..;conv=>whnf
  refine⟨rfl,JS,(by show(0:Int)<((L.map irow).length:Int);omega),fun row hrow=>?_⟩;obtain⟨v,hv,rfl⟩:=aC hrow;conv=>whnf
  exact⟨.ret (.agg ((uj 1 v 0).map .tr)),[],⟨rfl,_,_,E8 (fun z=>AE.ret (.agg ((uj z v 0).map .tr))) hK⟩,[],rfl,rfl,aut⟩
 |false=>
 rw[h2,lh] at hK;conv=>whnf
 cases h3:((gu:Int) != 0) with
 |true=>
  have hgu:gu≠0:=by intro h;subst h;exact absurd h3 JS
  rw[show(gu != 0)=true by simp[hgu],r7] at hK;conv=>whnf
  refine af hT 2 ?_;conv=>whnf
  refine aj.by [] [] (Ay gu hg) ?_;rintro res bout ⟨rfl,L,rfl,hL⟩;have hL:=hL hgu;refine⟨rfl,?_⟩;conv=>whnf
  intro _;have hol:(L.map irow).length=L.length:=ad ..;conv=>whnf
  refine⟨rfl,JS,(by show(0:Int)<((L.map irow).length:Int);omega),fun row hrow=>?_⟩;obtain⟨v,hv,rfl⟩:=aC hrow;conv=>whnf
  exact⟨.ret (.agg ((uj 2 0 v).map .tr)),[],⟨rfl,_,_,E8 (fun z=>AE.ret (.agg ((uj z 0 v).map .tr))) hK⟩,[],rfl,rfl,aut⟩
 |false=>
 rw[show(gu != 0)=false from(by have:gu=0:=(by simpa using h3);rw[this];rfl),lh] at hK;conv=>whnf
 exact⟨.ret (.agg ((uj 3 0 0).map .tr)),[],⟨rfl,_,_,E8 (fun z=>AE.ret (.agg ((uj z 0 0).map .tr))) hK⟩,[],rfl,rfl,aut⟩
end Go.Proofs.YtapmdfcmpglieaaGreatDoor.am
set_option maxRecDepth 100000
set_option maxHeartbeats 4000000
namespace Go.Proofs.YtapmdfcmpglieaaGreatDoor.am
open Go Go.Proofs Go.RowKit
attribute [local irreducible] aj
def tchB(n:Nd):Bool:=bif n.kind==2 then true else bif n.kind==3 then true else n.kind==4
theorem wC(n:Nd):K 119 [n.av] [] (.ret (.tr (tb (tchB n)))) []:=by
 unfold tchB;refine Ctr.of hT hmix Tryz.func119 rfl (fun _ _=>JR) rfl fun hok=>?_;clear hok;conv=>whnf
 cases h1:(n.kind==2) with
 |true=>
  conv=>whnf
  exact aut
 |false=>
 conv=>whnf
 cases h2:(n.kind==3) with
 |true=>
  conv=>whnf
  exact aut
 |false=>
 conv=>whnf
 exact aut
theorem Cf(g:Gr)(hW:cm g=true):K 166 [g.av] [] (.ret (.tup [.tr (heT (heldR g).1),.tr (tb (decide ((heldR g).2<0)))])) []:=by
 have h1:=lX g;rw[hW] at h1;have h2:=vy g (aT hW);generalize heldR g=H at *
 obtain⟨name,locals,slots,nodes⟩:=g;refine Ctr.of hT hmix Tryz.func166 rfl (fun _ _=>JR) rfl fun hok=>?_;clear hok;conv=>whnf
 refine aa.au [] [] (h1) ?_;intro _;conv=>whnf
 refine aa.au [] [] (h2) ?_;intro _;conv=>whnf
 exact aut
end Go.Proofs.YtapmdfcmpglieaaGreatDoor.am
set_option maxRecDepth 100000
set_option maxHeartbeats 4000000
namespace Go.Proofs.YtapmdfcmpglieaaGreatDoor.am
open Go Go.Proofs Go.RowKit
attribute [local irreducible] aj
def mrow(m:Int):List Tr:=[tw m]
abbrev Bu(l:List Int):Tr:=.lst 1 4 (l.map mrow)
def orU(m k:Int):Int:=bits .or .u32 m (IntKind.u32.wrap (1*2^min k.toNat IntKind.u32.bits))
def jt(o:Option (List Int)):Int:=(o.getD []).foldl orU 0
theorem tP{α:Type}(P:List α)(m:α)(R:List α):(P++m::R)[P.length]?=some m:=JX
theorem Cm{α:Type}(P:List α)(m x:α)(R:List α):(P++m::R).set P.length x=P++x::R:=JX
theorem su{α β:Type}(f:β->α->β)(b:β){l:List α}{j:Nat}{x:α}(h:l[j]?=some x):(l.take (j+1)).foldl f b=f ((l.take j).foldl f b) x:=by rw[aN h,IV];rfl
def nY(H:List (Option (List Int)))(n:Nat):List Int:=H.map jt++List.replicate (n-H.length) 0
theorem zf(g:Gr)(hW:cm g=true)(hlen:(heldR g).1.length<=g.nodes.length)(hks:∀(i:Nat) l,(heldR g).1[i]?=some (some l)->l.length<=8192/\∀k∈l,0<=k/\k<32):
  K 156 [g.av] [] (.ret (.agg [.tr (bh (rchL (fol g) (-1) g.nodes.length)),.tr (Bu (nY (heldR g).1 g.nodes.length))])) []:=by
 have h1:=jE g hW;have h2:=Cf g hW;generalize hRL:rchL (fol g) (-1) g.nodes.length=RL at *
 generalize heldR g=H at *
 have hW':=aT hW;have hm:g.nodes.length<=4096:=hW'.most;obtain⟨name,locals,slots,nodes⟩:=g;have hol:(nodes.map Nd.cells).length=nodes.length:=ad ..;have hm:nodes.length<=4096:=hm;have hlen:H.1.length<=nodes.length:=hlen;obtain⟨H,fl⟩:=H;dsimp only at hlen hks;have hoH:(H.map hrow).length=H.length:=ad ..;refine Ctr.of hT hmix Tryz.func156 rfl (fun _ _=>JR) rfl fun hok=>?_;clear hok;conv=>whnf
 refine aa.pure _ (h1) rfl rfl ?_;conv=>whnf
 refine⟨HF _,Hd _,by show((nodes.map Nd.cells).length:Int)*4<=140737488351232;omega,?_⟩;conv=>whnf
 refine drT ?_;conv=>whnf
 refine aa.pure _ (h2) rfl rfl fun _=>?_;conv=>whnf
 refine aq.by (fun i:Nat=>⟨[(2,.ptr 0 0),(3,.ptr 1 0),(22,.tr (heT H)),(23,.tr (ti H.length)),(24,.tr (ti i))],[(0,.cells 254 [.tr (.v (.slice none 0 0)),.tr (.v (.slice none 0 0))]),(1,.cells 254 [.tr (bh RL),.sl 2 nodes.length]),(2,.vec 81 1 4 (((H.take i).map jt++List.replicate (nodes.length-i) 0).map mrow))],11⟩) (fun i=>i<=H.length) (fun i=>H.length-i) 0 [_,_,_] [] (Sub.mk' rfl ⟨JY,JY,JZ,.inl (by rw[hoH]),JZ,J0⟩ ⟨⟨rfl,JZ,JZ,J0⟩,⟨rfl,JZ,⟨rfl,hol⟩,J0⟩,⟨rfl,rfl,rfl,by rw[FP,H9];show _=[]++_;rw[HA,Kf,<-hol];rfl⟩,J0⟩ rfl rfl) (x5 _) ?_;intro i hi _;have hPl:((H.take i).map jt).length=i:=by rw[ad,DK,Hf hi]
 conv=>whnf
 cases h3:decide ((i:Int)<(H.length:Int)) with
 |false=>
  have hi2:i=H.length:=by have:=ud h3;omega
  conv=>whnf
  refine exT ?_;conv=>whnf
  have hL:(((H.take i).map jt++List.replicate (nodes.length-i) 0).map mrow).length=nodes.length:=by rw[ad,uR,hPl,GE];omega
  exact⟨⟨JZ,⟨rfl,by rw[hL];exact t9 _,by rw[vG (by rw[hL];exact t9 _)];unfold nY;rw[hi2,Hi]⟩,J0⟩,J0⟩
 |true=>
 have hi2:i<H.length:=by have:=of_decide_eq_true h3;omega
 have hwi:IntKind.i64.wrap ((i:Int)+1)=((i+1:Nat):Int):=by rw[w64 JQ JQ];omega
 conv=>whnf
 refine⟨rfl,JQ,(by rw[hoH];omega),fun row hrow=>?_⟩;obtain⟨d,hd,rfl⟩:=iO hrow;have hd:H[i]?=some d:=hd;have htk:(H.take (i+1)).map jt=(H.take i).map jt++[jt d]:=by rw[aN hd,FP];rfl
 obtain⟨r,hr⟩:∃r,nodes.length-i=r+1:=⟨nodes.length-i-1,JQ⟩;cases d with
 |none=>
  conv=>whnf
  refine .inl ⟨1,?_⟩;conv=>whnf
  refine exT ?_;conv=>whnf
  rw[hwi];exact⟨i+1,[0,1,2],[],Sub.mk' rfl aut ⟨aut,aut,⟨rfl,rfl,rfl,by rw[htk,hr,(JQ:nodes.length-(i+1)=r),GH];rfl⟩,J0⟩ rfl rfl,hi2,JQ⟩
 |some li=>
 obtain⟨hll,hlk⟩:=hks i li hd;have hol:(li.map irow).length=li.length:=ad ..;conv=>whnf
 refine aq.by (fun j:Nat=>⟨[(2,.ptr 0 0),(3,.ptr 1 0),(22,.tr (heT H)),(23,.tr (ti H.length)),(24,.tr (ti i)),(6,.tr (ti i)),(29,.tr (az li)),(30,.tr (ti li.length)),(31,.tr (ti j))],[(0,.cells 254 [.tr (.v (.slice none 0 0)),.tr (.v (.slice none 0 0))]),(1,.cells 254 [.tr (bh RL),.sl 2 nodes.length]),(2,.vec 81 1 4 (((H.take i).map jt++(li.take j).foldl orU 0::List.replicate r 0).map mrow))],11⟩) (fun j=>j<=li.length) (fun j=>li.length-j) 0 [0,1,2] [] (Sub.mk' rfl ⟨JY,JY,JZ,JZ,JZ,JZ,JZ,.inl (by rw[hol]),aut⟩ ⟨aut,aut,⟨rfl,rfl,rfl,by rw[hr];rfl⟩,J0⟩ rfl rfl) (x5 _) ?_;intro j hj _;conv=>whnf
 cases h4:decide ((j:Int)<(li.length:Int)) with
 |false=>
  have hj2:j=li.length:=by have:=ud h4;omega
  conv=>whnf
  refine exT ?_;conv=>whnf
  rw[hwi];exact⟨i+1,[0,1,2],[],Sub.mk' rfl aut ⟨aut,aut,⟨rfl,rfl,rfl,by rw[htk,(JQ:nodes.length-(i+1)=r),GH,hj2,Hi];rfl⟩,J0⟩ rfl rfl,hi2,JQ⟩
 |true=>
 have hj2:j<li.length:=by have:=of_decide_eq_true h4;omega
 have hwj:IntKind.i64.wrap ((j:Int)+1)=((j+1:Nat):Int):=by rw[w64 JQ JQ];omega
 conv=>whnf
 refine⟨rfl,JQ,(by rw[hol];omega),fun row hrow=>?_⟩;obtain⟨k,hk,rfl⟩:=aC hrow;have hk:li[j]?=some k:=hk;obtain⟨hk0,hk1⟩:=hlk k (i3 hk);rw[FP,GO];have hPr:(((H.take i).map jt).map mrow).length=i:=by rw[ad,hPl]
 generalize hM:(li.take j).foldl orU 0=M at *
 generalize hP:((H.take i).map jt).map mrow=P at *
 conv=>whnf
 refine⟨rfl,(JQ:(0:Int)<=(i:Int)),(JQ:(i:Int)<(nodes.length:Int)),?_⟩;conv=>whnf
 refine⟨rfl,(by show i<(P++mrow M::(List.replicate r 0).map mrow).length;rw[uR,hPr];show i<i+(_+1);omega),fun row hrow=>?_⟩;obtain rfl:mrow M=row:=by have:=tP P (mrow M) ((List.replicate r 0).map mrow);rw[hPr] at this;exact vx (this.symm.trans hrow)
 conv=>whnf
 refine⟨(by show 0<1;decide),fun t ht=>?_⟩;obtain rfl:tw M=t:=vx ht;conv=>whnf
 refine⟨hk0,?_⟩;conv=>whnf
 refine⟨rfl,(JQ:(0:Int)<=(i:Int)),(JQ:(i:Int)<(nodes.length:Int)),?_⟩;conv=>whnf
 refine⟨rfl,rfl,(by show i<(P++mrow M::(List.replicate r 0).map mrow).length;rw[uR,hPr];show i<i+(_+1);omega),fun row hrow=>?_⟩;obtain rfl:mrow M=row:=by have:=tP P (mrow M) ((List.replicate r 0).map mrow);rw[hPr] at this;exact vx (this.symm.trans hrow)
 conv=>whnf
 refine⟨(by show 1<=1;decide),?_⟩;conv=>whnf
 refine drT ?_;conv=>whnf
 rw[hwj];have hset:(P++mrow M::(List.replicate r 0).map mrow).set i (mrow (orU M k))=(((H.take i).map jt++(li.take (j+1)).foldl orU 0::List.replicate r 0).map mrow):=by have:=Cm P (mrow M) (mrow (orU M k)) ((List.replicate r 0).map mrow);rw[hPr] at this;rw[this,FP,GO,hP,su orU 0 hk,hM]
 exact⟨j+1,[0,1,2],[],Sub.mk' rfl aut ⟨aut,aut,⟨rfl,rfl,rfl,hset⟩,J0⟩ rfl rfl,hj2,JQ⟩
end Go.Proofs.YtapmdfcmpglieaaGreatDoor.am
set_option maxRecDepth 100000
set_option maxHeartbeats 4000000
namespace Go.Proofs.YtapmdfcmpglieaaGreatDoor.am
open Go Go.Proofs Go.RowKit
attribute [local irreducible] aj
structure Us where
 v:Int
 th:Int
 gu:Int
def Us.av(x:Us):AV:=.agg [.tr (tw x.th),.tr (tw x.gu)]
def esU(M:List Us):List (MK×AV):=M.map fun x=>(.ki .i64 x.v,x.av)
def getU:List Us->Int->Option Us
 |[],_=>none
 |x::r,v=>bif v==x.v then some x else getU r v
def DM:List Us->Us->List Us
 |[],y=>[y]
 |x::r,y=>bif y.v==x.v then y::r else x::DM r y
theorem pi:∀(M:List Us)(v:Int),ew (esU M) (.ki .i64 v)=(getU M v).map Us.av
 |[],_=>rfl
 |x::r,v=>by
  show(bif v==x.v then some x.av else ew (esU r) (.ki .i64 v))=_;unfold getU;cases v==x.v with
  |true=>rfl
  |false=>exact pi r v
theorem wD:∀(M:List Us)(y:Us),mput (esU M) (.ki .i64 y.v) y.av=esU (DM M y)
 |[],_=>rfl
 |x::r,y=>by
  show(bif y.v==x.v then(MK.ki .i64 y.v,y.av)::esU r else(MK.ki .i64 x.v,x.av)::mput (esU r) (.ki .i64 y.v) y.av)=_;unfold DM;cases y.v==x.v with
  |true=>rfl
  |false=>rw[lh,lh,wD r y];rfl
theorem iA{m:Mem}{ρ nl:List Nat}{S:Nat->Bool}:∀(M:List Us),cvP m ρ nl S (esU M) (esU M)
 |[]=>trivial
 |x::r=>⟨rfl,aut,iA r⟩
theorem xL{m:Mem}{ρ nl:List Nat}{S:Nat->Bool}(M:List Us)(y:Us):cvP m ρ nl S (mput (esU M) (.ki .i64 y.v) y.av) (esU (DM M y)):=by rw[wD];exact iA _
theorem Bv(ρ:List Nat):∀(M:List Us),x4 ρ (esU M)=esU M
 |[]=>rfl
 |x::r=>E8 (((MK.ki .i64 x.v,x.av):MK×AV) :: ·) (Bv ρ r)
def EZ(a b:Int):Int:=bits .and .u32 a b
def wl(M:List Us)(t:Int)(n:Nd)(held:Int):List Us:=
 bif tchB n then(match getU M n.thing with
  |some x=>DM M ⟨n.thing,orU x.th t,EZ x.gu held⟩
  |none=>DM M ⟨n.thing,orU 0 t,EZ 65535 held⟩) else M
abbrev mvB:Blk:=.cells 164 [.mp 1]
theorem CC(M:List Us)(t i:Int)(n:Nd)(held:Int)(ht:0<=t):
  K 118 [.agg [.tr (ti t),.tr (ti i)],n.av,.tr (tw held),.ptr 0 0] [mvB,.mpa (.int .i64) (esU M)] (.ret (.tup [])) [some mvB,some (.mpa (.int .i64) (esU (wl M t n held)))]:=by
 have hk:=wC n;unfold wl;refine Ctr.of hT hmix Tryz.func118 rfl (fun _ _=>JR) rfl fun hok=>?_;clear hok;conv=>whnf
 refine aa.au [] [] (hk) ?_;intro _;conv=>whnf
 cases h1:tchB n with
 |false=>
  conv=>whnf
  exact⟨J0,aut,⟨rfl,iA M⟩,J0⟩
 |true=>
 rw[r7];conv=>whnf
 rw[pi];cases h2:getU M n.thing with
 |none=>
  conv=>whnf
  refine⟨ht,?_⟩;conv=>whnf
  refine drT ?_;conv=>whnf
  exact⟨J0,aut,⟨rfl,xL M ⟨n.thing,orU 0 t,EZ 65535 held⟩⟩,J0⟩
 |some x=>
 conv=>whnf
 refine⟨ht,?_⟩;conv=>whnf
 refine drT ?_;conv=>whnf
 exact⟨J0,aut,⟨rfl,xL M ⟨n.thing,orU x.th t,EZ x.gu held⟩⟩,J0⟩
end Go.Proofs.YtapmdfcmpglieaaGreatDoor.am
set_option maxRecDepth 100000
set_option maxHeartbeats 4000000
namespace Go.Proofs.YtapmdfcmpglieaaGreatDoor.am
open Go Go.Proofs Go.RowKit
attribute [local irreducible] aj
theorem BH(k:Nat):∀(M:List Us),((esU M).all fun p=>p.2.lowH k)=true
 |[]=>rfl
 |x::r=>BH k r
theorem AH(M:List Us):cF 2 [some mvB,some (.mpa (.int .i64) (esU M))]=true:=by show(Blk.lowH 2 mvB&&(((esU M).all fun p=>p.2.lowH 2)&&true))=true;rw[BH 2 M];rfl
theorem pH{m:Mem}{ρ nl:List Nat}{S:Nat->Bool}(r:List Nat)(M:List Us):cvP m ρ nl S (x4 r (esU M)) (esU M):=by rw[Bv];exact iA M
abbrev Lk:=List Bool×List Int
def lkrow(x:Lk):List Tr:=[bh x.1,Bu x.2]
abbrev qW(L:List Lk):Tr:=.lst 2 48 (L.map lkrow)
def sR(t:Int)(x:Lk):Nat->List Nd->List Us->List Us
 |_,[],M=>M
 |i,n::r,M=>sR t x (i+1) r (bif x.1.getD i false then wl M t n (x.2.getD i 0) else M)
def eachS(L:List Lk):Nat->List Gr->List Us->List Us
 |_,[],M=>M
 |t,g::r,M=>eachS L (t+1) r (sR t (L.getD t ([],[])) 0 g.nodes M)
theorem yf{t:Int}{x:Lk}{l:List Nd}{i:Nat}{n:Nd}{M:List Us}(h:l[i]?=some n):sR t x i (l.drop i) M=sR t x (i+1) (l.drop (i+1)) (bif x.1.getD i false then wl M t n (x.2.getD i 0) else M):=by rw[aG h];rfl
theorem yG{L:List Lk}{l:List Gr}{t:Nat}{g:Gr}{M:List Us}(h:l[t]?=some g):eachS L t (l.drop t) M=eachS L (t+1) (l.drop (t+1)) (sR t (L.getD t ([],[])) 0 g.nodes M):=by rw[aG h];rfl
theorem D1(u:Un)(L:List Lk)(M0:List Us)(hL:u.graphs.length<=L.length)(hgl:u.graphs.length<=4096)(hn:∀(t:Nat) g x,u.graphs[t]?=some g->L[t]?=some x->g.nodes.length<=4096/\x.1.length=g.nodes.length/\x.2.length=g.nodes.length):
  K 117 [u.av,.tr (qW L),.fn 118 [.ptr 0 0]] [mvB,.mpa (.int .i64) (esU M0)] (.ret (.tup [])) [some mvB,some (.mpa (.int .i64) (esU (eachS L 0 u.graphs M0)))]:=by
 obtain⟨R,hR⟩:∃R,eachS L 0 u.graphs M0=R:=⟨_,rfl⟩;rw[hR];obtain⟨shared,lks,graphs⟩:=u;dsimp only at hL hgl hn hR;refine Ctr.of hT hmix Tryz.func117 rfl (fun _ _=>JR) rfl fun hok=>?_;clear hok;have hoG:(graphs.map Gr.cells).length=graphs.length:=ad ..;conv=>whnf
 refine aq.by (fun x:Nat×List Us=>⟨[(1,.tr (qW L)),(2,.fn 118 [.ptr 0 0]),(11,.tr (bt graphs)),(12,.tr (ti graphs.length)),(13,.tr (ti x.1))],[(0,mvB),(1,.mpa (.int .i64) (esU x.2))],11⟩) (fun x=>x.1<=graphs.length/\eachS L x.1 (graphs.drop x.1) x.2=R) (fun x=>graphs.length-x.1) (0,M0) [0,1] [] (Sub.mk' rfl ⟨JZ,aut,JZ,.inl (by rw[hoG]),aut⟩ ⟨aut,⟨rfl,iA _⟩,J0⟩ rfl rfl) ⟨x5 _,hR⟩ ?_;clear hR;rintro⟨t,M⟩ ⟨ht,hR⟩ -
 dsimp only at ht hR;conv=>whnf
 cases h1:decide ((t:Int)<(graphs.length:Int)) with
 |false=>
  have h1':=ud h1;rw[GK JQ] at hR;subst hR;conv=>whnf
  refine exT ?_;conv=>whnf
  exact⟨J0,aut,⟨rfl,iA _⟩,J0⟩
 |true=>
 have h1':t<graphs.length:=by have:=of_decide_eq_true h1;omega
 conv=>whnf
 refine⟨rfl,JQ,(by rw[hoG];omega),fun row hrow=>?_⟩;obtain⟨⟨gn,gl,gs,nodes⟩,hg,rfl⟩:=aC hrow;have hg:graphs[t]?=some ⟨gn,gl,gs,nodes⟩:=hg;obtain⟨⟨X,Y⟩,hx⟩:∃x,L[t]?=some x:=⟨_,ab (Hb h1' hL)⟩;obtain⟨hnm,hX,hY⟩:=hn t _ _ hg hx;dsimp only at hnm hX hY;rw[yG hg,show L.getD t ([],[])=(X,Y) by rw[t5,hx];rfl] at hR;dsimp only at hR;have hoN:(nodes.map Nd.cells).length=nodes.length:=ad ..;have hoX:(X.map brow).length=X.length:=ad ..;have hoY:(Y.map mrow).length=Y.length:=ad ..;have hoL:(L.map lkrow).length=L.length:=ad ..;conv=>whnf
 refine aq.by (fun x:Nat×List Us=>⟨[(1,.tr (qW L)),(2,.fn 118 [.ptr 0 0]),(11,.tr (bt graphs)),(12,.tr (ti graphs.length)),(13,.tr (ti t)),(6,.tr (ti t)),(19,.tr (aO nodes)),(20,.tr (ti nodes.length)),(21,.tr (ti x.1))],[(0,mvB),(1,.mpa (.int .i64) (esU x.2))],11⟩) (fun x=>x.1<=nodes.length/\eachS L (t+1) (graphs.drop (t+1)) (sR t (X,Y) x.1 (nodes.drop x.1) x.2)=R) (fun x=>nodes.length-x.1) (0,M) [0,1] [] (Sub.mk' rfl ⟨JZ,aut,JZ,JZ,JZ,JZ,JZ,.inl (by rw[hoN]),aut⟩ ⟨aut,⟨rfl,iA _⟩,J0⟩ rfl rfl) ⟨x5 _,hR⟩ ?_;clear hR;rintro⟨i,M⟩ ⟨hi,hR⟩ -
 dsimp only at hi hR;have hwt:IntKind.i64.wrap ((t:Int)+1)=((t+1:Nat):Int):=by rw[w64 JQ JQ];omega
 conv=>whnf
 cases h2:decide ((i:Int)<(nodes.length:Int)) with
 |false=>
  have h2':=ud h2;rw[show nodes.drop i=[] from GK JQ] at hR;conv=>whnf
  refine exT ?_;conv=>whnf
  rw[hwt];exact⟨(t+1,M),[0,1],[],Sub.mk' rfl aut ⟨aut,⟨rfl,iA _⟩,J0⟩ rfl rfl,⟨h1',hR⟩,by show graphs.length-(t+1)<graphs.length-t;omega⟩
 |true=>
 have h2':i<nodes.length:=by have:=of_decide_eq_true h2;omega
 have hwi:IntKind.i64.wrap ((i:Int)+1)=((i+1:Nat):Int):=by rw[w64 JQ JQ];omega
 conv=>whnf
 refine⟨rfl,JQ,(by rw[hoN];omega),fun row hrow=>?_⟩;obtain⟨n,hnd,rfl⟩:=aC hrow;have hnd:nodes[i]?=some n:=hnd;rw[yf hnd] at hR;conv=>whnf
 refine⟨rfl,JQ,(by rw[hoL];omega),fun row hrow=>?_⟩;obtain rfl:lkrow (X,Y)=row:=by obtain⟨x,q1,q2⟩:=aC hrow;have q1:L[t]?=some x:=q1;rw[<-q2,vx (hx.symm.trans q1)]
 obtain⟨bx,hbx⟩:∃b,X[i]?=some b:=⟨_,ab JQ⟩;obtain⟨my,hmy⟩:∃m,Y[i]?=some m:=⟨_,ab JQ⟩;rw[show X.getD i false=bx by rw[t5,hbx];rfl,show Y.getD i 0=my by rw[t5,hmy];rfl] at hR;conv=>whnf
 refine⟨rfl,(JQ:(0:Int)<=(i:Int)),(JQ:(i:Int)<((X.map brow).length:Int)),fun row hrow=>?_⟩;obtain rfl:brow bx=row:=by obtain⟨x,q1,q2⟩:=aC hrow;have q1:X[i]?=some x:=q1;rw[<-q2,vx (hbx.symm.trans q1)]
 conv=>whnf
 cases bx with
 |false=>
  rw[lh] at hR;conv=>whnf
  rw[hwi];exact⟨(i+1,M),[0,1],[],Sub.mk' rfl aut ⟨aut,⟨rfl,iA _⟩,J0⟩ rfl rfl,⟨h2',hR⟩,by show nodes.length-(i+1)<nodes.length-i;omega⟩
 |true=>
 rw[r7] at hR;conv=>whnf
 refine⟨rfl,JQ,(by rw[hoL];omega),fun row hrow=>?_⟩;obtain rfl:lkrow (X,Y)=row:=by obtain⟨x,q1,q2⟩:=aC hrow;have q1:L[t]?=some x:=q1;rw[<-q2,vx (hx.symm.trans q1)]
 conv=>whnf
 refine⟨rfl,(JQ:(0:Int)<=(i:Int)),(JQ:(i:Int)<((Y.map mrow).length:Int)),fun row hrow=>?_⟩;obtain rfl:mrow my=row:=by obtain⟨x,q1,q2⟩:=aC hrow;have q1:Y[i]?=some x:=q1;rw[<-q2,vx (hmy.symm.trans q1)]
 conv=>whnf
 refine aa.au [0,1] [] (CC M t i n my (HF t)) ?_ (h6:=⟨aut,⟨rfl,iA _⟩,J0⟩) (h4:=AH _);conv=>whnf
 refine drT ?_;conv=>whnf
 rw[hwi];exact⟨(i+1,wl M t n my),[0,1],[],Sub.mk' rfl aut ⟨aut,⟨rfl,pH _ _⟩,J0⟩ rfl rfl,⟨h2',hR⟩,by show nodes.length-(i+1)<nodes.length-i;omega⟩
end Go.Proofs.YtapmdfcmpglieaaGreatDoor.am
set_option maxRecDepth 100000
set_option maxHeartbeats 4000000
namespace Go.Proofs.YtapmdfcmpglieaaGreatDoor.am
open Go Go.Proofs Go.RowKit
attribute [local irreducible] aj
noncomputable def kw(g:Gr):Lk:=(rchL (fol g) (-1) g.nodes.length,nY (heldR g).1 g.nodes.length)
structure Dx(u:Un):Prop where
 chk:gj u=(0,0,0)
 few:u.graphs.length<=4096
 whole:∀g∈u.graphs,cm g=true
 len:∀g∈u.graphs,(heldR g).1.length<=g.nodes.length
 locks:∀g∈u.graphs,∀(i:Nat) l,(heldR g).1[i]?=some (some l)->l.length<=8192/\∀k∈l,0<=k/\k<32
theorem Dg(u:Un)(hu:Dx u):K 116 [u.av] [] (.ret (.tup [.tr (qW (u.graphs.map kw)),.tr (ti 0)])) []:=by
 have hc:=jZ u;rw[hu.chk] at hc;have hgl:=hu.few;have hlk:=fun g hg=>zf g (hu.whole g hg) (hu.len g hg) (hu.locks g hg);obtain⟨shared,lks,graphs⟩:=u;dsimp only at hgl hlk;have hoG:(graphs.map Gr.cells).length=graphs.length:=ad ..;refine Ctr.of hT hmix Tryz.func116 rfl (fun _ _=>JR) rfl fun hok=>?_;clear hok hu;conv=>whnf
 refine aa.au [] [] (hc) ?_;intro _;conv=>whnf
 refine aq.by (fun t:Nat=>⟨[(7,.sl 0 t),(20,.tr (bt graphs)),(21,.tr (ti graphs.length)),(22,.tr (ti t))],[(0,.vec 254 2 48 (((graphs.take t).map kw).map lkrow))],11⟩) (fun t=>t<=graphs.length) (fun t=>graphs.length-t) 0 [] [0] (Sub.mk' rfl ⟨aut,JZ,.inl (by rw[hoG]),aut⟩ ⟨⟨rfl,254,2,48,rfl,JQ⟩,J0⟩ rfl rfl) (x5 _) ?_;intro t ht _;have hol:(((graphs.take t).map kw).map lkrow).length=t:=by rw[ad,ad,DK,Hf ht]
 conv=>whnf
 cases h1:decide ((t:Int)<(graphs.length:Int)) with
 |false=>
  have h1':t=graphs.length:=by have:=ud h1;omega
  conv=>whnf
  refine exT ?_;conv=>whnf
  exact⟨⟨⟨rfl,Ee hol.symm,by rw[vG (Ee hol),h1',Hi]⟩,JZ,J0⟩,J0⟩
 |true=>
 have h1':t<graphs.length:=by have:=of_decide_eq_true h1;omega
 have hwt:IntKind.i64.wrap ((t:Int)+1)=((t+1:Nat):Int):=by rw[w64 JQ JQ];omega
 conv=>whnf
 refine⟨rfl,JQ,(by rw[hoG];omega),fun row hrow=>?_⟩;obtain⟨g,hg,rfl⟩:=aC hrow;have hg:graphs[t]?=some g:=hg;have hk:=hlk g (i3 hg);have htk:(graphs.take (t+1)).map kw=(graphs.take t).map kw++[kw g]:=by rw[aN hg,FP];rfl
 conv=>whnf
 refine aa.au [] [] (hk) ?_;intro _;conv=>whnf
 refine⟨rfl,rfl,rfl,Ee hol.symm,by show(t+1)*48<=150000000000000;omega,neL rfl,?_⟩;conv=>whnf
 rw[hwt];exact⟨t+1,[_],[],Sub.mk' rfl ⟨JY,JZ,JZ,JZ,J0⟩ ⟨⟨rfl,rfl,rfl,by rw[htk,FP];show(((graphs.take t).map kw).map lkrow).take t++_=_;rw[vG (Ee hol)];rfl⟩,J0⟩ rfl rfl,h1',JQ⟩
noncomputable def td(u:Un):List Us:=eachS (u.graphs.map kw) 0 u.graphs []
theorem tT{u:Un}(hu:Dx u):∀(t:Nat) g x,u.graphs[t]?=some g->(u.graphs.map kw)[t]?=some x->g.nodes.length<=4096/\x.1.length=g.nodes.length/\x.2.length=g.nodes.length:=by
 intro t g x hg hx;rw[z5,hg] at hx;cases hx;have hm:=i3 hg;refine⟨(aT (hu.whole g hm)).most,?_,?_⟩
 ·show(rchL (fol g) (-1) g.nodes.length).length=_;exact dl
 ·show(nY (heldR g).1 g.nodes.length).length=_;have:=hu.len g hm;unfold nY;rw[uR,ad,GE];omega
theorem CA(u:Un)(hu:Dx u):K 52 [u.av] [] (.ret (.tup [.mp 0,.tr (ti 0)])) [some (.mpa (.int .i64) (esU (td u)))]:=by
 have ha:=Dg u hu;have he:=D1 u (u.graphs.map kw) [] (by rw[ad];exact t9 _) hu.few (tT hu);change K _ _ _ _ [some mvB,some (.mpa (.int .i64) (esU (td u)))] at he;generalize td u=M at *
 obtain⟨shared,lks,graphs⟩:=u;refine Ctr.new [] hT hmix Tryz.func52 rfl (fun _ _=>JR) rfl fun hok=>?_;clear hok;conv=>whnf
 refine aa.au [] [] (ha) ?_;intro _;conv=>whnf
 refine aa.au [13,12] [] he ?_ (h6:=aut) (h4:=AH _);intro _;conv=>whnf
 exact⟨[12],rfl,rfl,⟨aut,⟨rfl,pH _ _⟩,J0⟩⟩
end Go.Proofs.YtapmdfcmpglieaaGreatDoor.am
set_option maxRecDepth 100000
set_option maxHeartbeats 4000000
namespace Go.Proofs.YtapmdfcmpglieaaGreatDoor.am
open Go Go.Proofs Go.RowKit
attribute [local irreducible] aj
theorem rz(th gu:Int):KE 22 [.agg [.tr (tw th),.tr (tw gu)]] [] (fun r b=>b=[]/\∃t l:Int,r=.ret (.agg ((uj (kindU th.toNat gu.toNat) t l).map .tr))):=by
 refine⟨(uA 0 0 JS JS).callable,fun g w vs h1 h2 h3 h4=>?_⟩;obtain⟨v,rfl⟩:=jB h3;have hv:=h4 0 v _ rfl rfl;obtain⟨⟨a1,a2⟩,b1,b2⟩:(0<=th/\th<=4294967295)/\0<=gu/\gu<=4294967295:=by
  cases hv with
  |agg e1 e2 e3=>
   rename_i cs;have hs:cs.size=2:=by simpa using e1
   obtain⟨_,q1⟩:=al (e3 0 cs[0] (.tr (tw th)) (Iz JQ) rfl);obtain⟨_,q2⟩:=al (e3 1 cs[1] (.tr (tw gu)) (Iz JQ) rfl);exact⟨q1,q2⟩
 obtain⟨x,rfl⟩:∃x:Nat,th=x:=⟨th.toNat,JQ⟩;obtain⟨y,rfl⟩:∃y:Nat,gu=y:=⟨gu.toNat,JQ⟩;exact(uA x y JQ JQ).run g w _ h1 h2 h3 h4
def fZ(M:List Us)(v:Int):Int:=match getU M v with
 |some x=>kindU x.th.toNat x.gu.toNat
 |none=>kindU 0 0
structure Cls where
 k:Int
 t:Int
 l:Int
def Cls.cells(c:Cls):List Tr:=uj c.k c.t c.l
abbrev eg(L:List Cls):Tr:=.lst 3 24 (L.map Cls.cells)
theorem nH(out:List Cls)(x:Cls):(out.map Cls.cells).take out.length++[x.cells]=(out++[x]).map Cls.cells:=by rw[vG (Ee (ad ..)),FP];rfl
noncomputable def bJ(u:Un):List Int:=(List.range u.shared.length).map fun(v:Nat)=>fZ (td u) (v:Int)
theorem CD(k:Nat)(M:List Us):cF k [some (.mpa (.int .i64) (esU M))]=true:=by show(((esU M).all fun p=>p.2.lowH k)&&true)=true;rw[BH k M];rfl
theorem Em(u:Un)(hu:Dx u)(hs:u.shared.length<=65536):KE 21 [u.av,.fn 22 []] [] (fun r b=>b=[]/\∃L:List Cls,L.map Cls.k=bJ u/\r=.ret (.tup [.tr (eg L),.tr (ti 0)])):=by
 have hk:=CA u hu;have hK:bJ u=(List.range u.shared.length).map fun(v:Nat)=>fZ (td u) (v:Int):=rfl;generalize bJ u=KK at *
 generalize td u=M at *
 obtain⟨shared,lks,graphs⟩:=u;dsimp only at hs hK;have hoS:(shared.map Decl.cells).length=shared.length:=ad ..;refine cp.new [2000008] hT hmix Tryz.func21 rfl (fun _ _=>JR) rfl fun hok=>?_;clear hok hu;conv=>whnf
 refine aa.new [] [] _ _ _ _ hk rfl rfl rfl (CD _ M) aut aut rfl rfl ?_;conv=>whnf
 intro _;conv=>whnf
 refine aq.by (fun x:Nat×List Cls=>⟨[(1,.fn 22 []),(6,.mp 0),(8,.sl 1 x.1),(20,.tr (ti shared.length)),(21,.tr (ti x.1))],[(0,.mpa (.int .i64) (esU M)),(1,.vec 77 3 24 (x.2.map Cls.cells))],11⟩) (fun x=>x.1<=shared.length/\x.2.map Cls.k=(List.range x.1).map fun(v:Nat)=>fZ M (v:Int)) (fun x=>shared.length-x.1) (0,[]) [_] [1] (Sub.mk' rfl ⟨⟨rfl,J0⟩,rfl,⟨rfl,rfl,rfl,rfl⟩,.inl (by rw[hoS]),JZ,J0⟩ ⟨⟨rfl,pH _ _⟩,⟨rfl,77,3,24,rfl,JQ⟩,J0⟩ rfl rfl) ⟨x5 _,rfl⟩ ?_;rintro⟨v,out⟩ ⟨hv,ho⟩ -
 dsimp only at hv ho;have hlen:out.length=v:=by have:=E8 List.length ho;simpa using this
 have hol:(out.map Cls.cells).length=out.length:=ad ..;conv=>whnf
 cases h1:decide ((v:Int)<(shared.length:Int)) with
 |false=>
  have h1':v=shared.length:=by have:=ud h1;omega
  subst h1';conv=>whnf
  refine exT ?_;conv=>whnf
  exact⟨.ret (.tup [.tr (eg out),.tr (ti 0)]),[],⟨rfl,out,by rw[ho,hK],rfl⟩,[],rfl,rfl,⟨⟨⟨rfl,by rw[hol,hlen];exact t9 _,E8 (Tr.lst 3 24) (vG (by rw[hol,hlen];exact t9 _)).symm⟩,JZ,J0⟩,J0⟩⟩
 |true=>
 have h1':v<shared.length:=by have:=of_decide_eq_true h1;omega
 have hwv:IntKind.i64.wrap ((v:Int)+1)=((v+1:Nat):Int):=by rw[w64 JQ JQ];omega
 conv=>whnf
 refine af hT 5 ?_;conv=>whnf
 rw[pi];cases h2:getU M (v:Int) with
 |none=>
  conv=>whnf
  refine aj.by [] [] (rz 0 0) ?_;rintro res bout ⟨rfl,t,l,rfl⟩;refine⟨rfl,?_⟩;conv=>whnf
  intro _;conv=>whnf
  refine⟨rfl,rfl,rfl,(by rw[hol,hlen];exact t9 _),by show(v+1)*24<=150000000000000;omega,neL rfl,?_⟩;conv=>whnf
  rw[hwv];have hkd:fZ M (v:Int)=kindU (Int.toNat 0) (Int.toNat 0):=by unfold fZ;rw[h2];rfl
  exact⟨(v+1,out++[⟨kindU (Int.toNat 0) (Int.toNat 0),t,l⟩]),[0,_],[],Sub.mk' rfl ⟨⟨rfl,J0⟩,rfl,JY,JZ,JZ,J0⟩ ⟨⟨rfl,iA _⟩,⟨rfl,rfl,rfl,by rw[<-nH,hlen];rfl⟩,J0⟩ rfl rfl,⟨h1',by rw[FP,ho,Hk,FP];exact E8 (fun z:Int=>(List.range v).map (fun(v:Nat)=>fZ M (v:Int))++[z]) hkd.symm⟩,by show shared.length-(v+1)<shared.length-v;omega⟩
 |some x=>
  conv=>whnf
  refine aj.by [] [] (rz x.th x.gu) ?_;rintro res bout ⟨rfl,t,l,rfl⟩;refine⟨rfl,?_⟩;conv=>whnf
  intro _;conv=>whnf
  refine⟨rfl,rfl,rfl,(by rw[hol,hlen];exact t9 _),by show(v+1)*24<=150000000000000;omega,neL rfl,?_⟩;conv=>whnf
  rw[hwv];have hkd:fZ M (v:Int)=kindU (Int.toNat x.th) (Int.toNat x.gu):=by unfold fZ;rw[h2]
  exact⟨(v+1,out++[⟨kindU (Int.toNat x.th) (Int.toNat x.gu),t,l⟩]),[0,_],[],Sub.mk' rfl ⟨⟨rfl,J0⟩,rfl,JY,JZ,JZ,J0⟩ ⟨⟨rfl,iA _⟩,⟨rfl,rfl,rfl,by rw[<-nH,hlen];rfl⟩,J0⟩ rfl rfl,⟨h1',by rw[FP,ho,Hk,FP];exact E8 (fun z:Int=>(List.range v).map (fun(v:Nat)=>fZ M (v:Int))++[z]) hkd.symm⟩,by show shared.length-(v+1)<shared.length-v;omega⟩
theorem jo(u:Un)(hu:Dx u)(hs:u.shared.length<=65536):KE 7 [u.av] [] (fun r b=>b=[]/\∃L:List Cls,L.map Cls.k=bJ u/\r=.ret (.tup [.tr (eg L),.tr (ti 0)])):=by
 have hk:=Em u hu hs;generalize bJ u=KK at *
 obtain⟨shared,lks,graphs⟩:=u;refine cp.new [2000001] hT hmix Tryz.func7 rfl (fun _ _=>JR) rfl fun hok=>?_;clear hok hu;conv=>whnf
 refine af hT 1 ?_;conv=>whnf
 refine aj.by [] [] hk ?_;rintro res bout ⟨rfl,L,hL,rfl⟩;refine⟨rfl,?_⟩;conv=>whnf
 intro _;conv=>whnf
 exact⟨.ret (.tup [.tr (eg L),.tr (ti 0)]),[],⟨rfl,L,hL,rfl⟩,[],rfl,rfl,aut⟩
end Go.Proofs.YtapmdfcmpglieaaGreatDoor.am
set_option maxRecDepth 100000
set_option maxHeartbeats 4000000
namespace Go.Proofs.YtapmdfcmpglieaaGreatDoor.am
open Go Go.Proofs Go.RowKit
attribute [local irreducible] aj
def folD(n:Nd):List Int:=bif n.kind==9 then[] else bif n.kind==8 then[n.next,n.els] else[n.next]
theorem r9(n:Nd):K 55 [n.av] [] (.ret (.tr (az (folD n)))) []:=by
 unfold folD;refine Ctr.of hT hmix Tryz.func55 rfl (fun _ _=>JR) rfl fun hok=>?_;clear hok;conv=>whnf
 cases h1:(n.kind==9) with
 |true=>
  conv=>whnf
  exact aut2
 |false=>
 conv=>whnf
 cases h2:(n.kind==8) with
 |true=>
  conv=>whnf
  exact aut
 |false=>
 conv=>whnf
 exact aut
def rE(n:Nd):Bool:=bif n.kind==4 then true else bif n.kind==5 then true else n.kind==7
theorem yD(n:Nd):K 63 [n.av] [] (.ret (.tr (tb (rE n)))) []:=by
 unfold rE;refine Ctr.of hT hmix Tryz.func63 rfl (fun _ _=>JR) rfl fun hok=>?_;clear hok;conv=>whnf
 cases h1:(n.kind==4) with
 |true=>
  conv=>whnf
  exact aut
 |false=>
 conv=>whnf
 cases h2:(n.kind==5) with
 |true=>
  conv=>whnf
  exact aut
 |false=>
 conv=>whnf
 exact aut
theorem qo(u:Un)(t:Int)(hc:gj u=(0,0,0))(h0:0<=t)(h1:t<u.graphs.length):K 24 [u.av,.tr (ti t)] [] (.ret (.tr (ti 0))) []:=by
 have hk:=jZ u;rw[hc] at hk;obtain⟨shared,lks,graphs⟩:=u;have hoG:(graphs.map Gr.cells).length=graphs.length:=ad ..;dsimp only at h1;refine Ctr.of hT hmix Tryz.func24 rfl (fun _ _=>JR) rfl fun hok=>?_;clear hok;conv=>whnf
 refine aa.au [] [] (hk) ?_;intro _;conv=>whnf
 rw[show decide (t<0)=false from Gz JQ];conv=>whnf
 rw[show decide (t>=((graphs.map Gr.cells).length:Int))=false from Gz JQ];conv=>whnf
 exact aut
def prevD(l:List Int):Nat->Int
 |0=>-1
 |i+1=>l.getD i 0
def Srt(N:Nat)(l:List Int):Prop:=∀(i:Nat) x,l[i]?=some x->prevD l i<x/\x<N
theorem Srt.le{N:Nat}{l:List Int}(h:Srt N l):∀(i:Nat) x,l[i]?=some x->(i:Int)<=x
 |0,x,hx=>by have:=(h 0 x hx).1;show(0:Int)<=x;have e:prevD l 0=-1:=rfl;omega
 |i+1,x,hx=>by
  have h1:=(h (i+1) x hx).1;have hi:i<l.length:=by have:=(a9.1 hx).1;omega
  have h2:=h.le i _ (ab hi);have e:prevD l (i+1)=l[i]:=by show l.getD i 0=_;rw[t5,ab hi];rfl
  omega
theorem Srt.few{N:Nat}{l:List Int}(h:Srt N l):l.length<=N:=by
 cases hl:l.length with
 |zero=>exact x5 _
 |succ n=>
  have hn:n<l.length:=JQ;have h1:=h.le n _ (ab hn);have h2:=(h n _ (ab hn)).2;omega
theorem qD(g:Gr)(l:List Int)(hN:g.nodes.length<=4096)(hs:Srt g.nodes.length l):K 23 [g.av,.tr (az l)] [] (.ret (.tr (tb true))) []:=by
 have hf:=hs.few;obtain⟨name,locals,slots,nodes⟩:=g;have hoN:(nodes.map Nd.cells).length=nodes.length:=ad ..;have hol:(l.map irow).length=l.length:=ad ..;dsimp only at hN hs hf;refine Ctr.of hT hmix Tryz.func23 rfl (fun _ _=>JR) rfl fun hok=>?_;clear hok;conv=>whnf
 refine aq.by (fun i:Nat=>⟨[(2,.ptr 0 0),(8,.tr (az l)),(9,.tr (ti l.length)),(10,.tr (ti i)),(5,.tr (ti (prevD l i)))],[(0,.cells 41 [.tr (ts name),.tr (ti locals),.tr (ti slots),.tr (aO nodes)])],11⟩) (fun i=>i<=l.length) (fun i=>l.length-i) 0 [_] [] (Sub.mk' rfl ⟨JY,JZ,.inl (by rw[hol]),JZ,JZ,J0⟩ ⟨⟨rfl,JZ,JZ,JZ,JZ,J0⟩,J0⟩ rfl rfl) (x5 _) ?_;intro i hi _;conv=>whnf
 cases h1:decide ((i:Int)<(l.length:Int)) with
 |false=>
  conv=>whnf
  refine exT ?_;conv=>whnf
  exact aut
 |true=>
 have h1':i<l.length:=by have:=of_decide_eq_true h1;omega
 have hwi:IntKind.i64.wrap ((i:Int)+1)=((i+1:Nat):Int):=by rw[w64 JQ JQ];omega
 conv=>whnf
 refine⟨rfl,JQ,(by rw[hol];omega),fun row hrow=>?_⟩;obtain⟨x,hx,rfl⟩:=aC hrow;have hx:l[i]?=some x:=hx;obtain⟨q1,q2⟩:=hs i x hx;conv=>whnf
 rw[show decide (x<=prevD l i)=false from Gz JQ];conv=>whnf
 rw[show decide (x>=((nodes.map Nd.cells).length:Int))=false from Gz JQ];conv=>whnf
 rw[hwi];have hp:prevD l (i+1)=x:=by show l.getD i 0=_;rw[t5,hx];rfl
 exact⟨i+1,[0],[],Sub.mk' rfl ⟨JY,JZ,JZ,JZ,.inl (by rw[hp]),J0⟩ aut rfl rfl,h1',JQ⟩
theorem zW(g:Gr)(l:List Int)(hN:g.nodes.length<=4096)(hs:Srt g.nodes.length l):K 56 [g.av,.tr (az l)] [] (.ret (.tr (tb true))) []:=by
 have hf:=hs.few;have hle:=hs.le;obtain⟨name,locals,slots,nodes⟩:=g;have hoN:(nodes.map Nd.cells).length=nodes.length:=ad ..;have hol:(l.map irow).length=l.length:=ad ..;dsimp only at hN hs hf;refine Ctr.of hT hmix Tryz.func56 rfl (fun _ _=>JR) rfl fun hok=>?_;clear hok;conv=>whnf
 refine aq.by (fun i:Nat=>⟨[(1,.tr (az l)),(2,.ptr 0 0),(7,.tr (az l)),(8,.tr (ti l.length)),(9,.tr (ti i))],[(0,.cells 41 [.tr (ts name),.tr (ti locals),.tr (ti slots),.tr (aO nodes)])],11⟩) (fun i=>i<=l.length) (fun i=>l.length-i) 0 [_] [] (Sub.mk' rfl ⟨JZ,JY,JZ,.inl (by rw[hol]),JZ,J0⟩ ⟨⟨rfl,JZ,JZ,JZ,JZ,J0⟩,J0⟩ rfl rfl) (x5 _) ?_;intro i hi _;conv=>whnf
 cases h1:decide ((i:Int)<(l.length:Int)) with
 |false=>
  conv=>whnf
  refine exT ?_;conv=>whnf
  exact aut
 |true=>
 have h1':i<l.length:=by have:=of_decide_eq_true h1;omega
 have hwi:IntKind.i64.wrap ((i:Int)+1)=((i+1:Nat):Int):=by rw[w64 JQ JQ];omega
 conv=>whnf
 refine⟨rfl,JQ,(by rw[hol];omega),fun row hrow=>?_⟩;obtain⟨x,hx,rfl⟩:=aC hrow;have hx:l[i]?=some x:=hx;obtain⟨q1,q2⟩:=hs i x hx;have q3:=hle i x hx;conv=>whnf
 rw[show decide (x<0)=false from Gz JQ];conv=>whnf
 rw[show decide (x>=((nodes.map Nd.cells).length:Int))=false from Gz JQ];conv=>whnf
 cases h2:decide ((i:Int) > 0) with
 |false=>
  conv=>whnf
  rw[hwi];exact⟨i+1,[0],[],Sub.au,h1',JQ⟩
 |true=>
 have h2':=of_decide_eq_true h2;have hwm:IntKind.i64.wrap ((i:Int)-1)=((i-1:Nat):Int):=by rw[w64 JQ JQ];omega
 have hp:l[i-1]?=some (prevD l i):=by obtain⟨j,rfl⟩:∃j,i=j+1:=⟨i-1,JQ⟩;show l[j]?=some (l.getD j 0);rw[t5,ab (by omega:j<l.length)];rfl
 conv=>whnf
 rw[hwm];refine⟨rfl,JQ,(by rw[hol];omega),fun row hrow=>?_⟩;obtain⟨y,hy,rfl⟩:=aC hrow;have hy:l[i-1]?=some y:=hy;obtain rfl:prevD l i=y:=vx (hp.symm.trans hy);conv=>whnf
 rw[show decide (x<=prevD l i)=false from Gz JQ];conv=>whnf
 rw[hwi];exact⟨i+1,[0],[],Sub.au,h1',JQ⟩
end Go.Proofs.YtapmdfcmpglieaaGreatDoor.am
set_option maxRecDepth 100000
set_option maxHeartbeats 4000000
namespace Go.Proofs.YtapmdfcmpglieaaGreatDoor.am
open Go Go.Proofs Go.RowKit
attribute [local irreducible] aj
structure Mk where
 s:Bool
 l:Bool
 d:Bool
 f:Bool
def Mk.cells(m:Mk):List Tr:=[tb m.s,tb m.l,tb m.d,tb m.f]
def Mk.av(m:Mk):AV:=.agg (m.cells.map .tr)
theorem pZ(b:Bool):K 121 [.tr (tb b)] [] (.ret (Mk.mk false false true false).av) []:=by
 refine Ctr.of hT hmix Tryz.func121 rfl (fun _ _=>JR) rfl fun hok=>?_;conv=>whnf
 exact aut
theorem Dv(b:Bool):K 122 [.tr (tb b)] [] (.ret (Mk.mk b false false false).av) []:=by
 refine Ctr.of hT hmix Tryz.func122 rfl (fun _ _=>JR) rfl fun hok=>?_;conv=>whnf
 exact aut
theorem BS(b:Bool):K 123 [.tr (tb b)] [] (.ret (Mk.mk true false false false).av) []:=by
 refine Ctr.of hT hmix Tryz.func123 rfl (fun _ _=>JR) rfl fun hok=>?_;conv=>whnf
 exact aut
theorem Dc(b:Bool):K 124 [.tr (tb b)] [] (.ret (Mk.mk false b false false).av) []:=by
 refine Ctr.of hT hmix Tryz.func124 rfl (fun _ _=>JR) rfl fun hok=>?_;conv=>whnf
 exact aut
abbrev nfA:AV:=.tr (.v .nilFunc)
def Fk:AV:=.agg [nfA,nfA,.fn 124 [],.fn 122 [],.fn 121 [],.fn 121 [],.fn 123 [],.fn 121 [],nfA,nfA]
theorem Ek:K 54 [] [] (.ret Fk) []:=by
 refine Ctr.of hT hmix Tryz.func54 rfl (fun _ _=>JR) rfl fun hok=>?_;conv=>whnf
 exact aut
end Go.Proofs.YtapmdfcmpglieaaGreatDoor.am
set_option maxRecDepth 100000
set_option maxHeartbeats 4000000
namespace Go.Proofs.YtapmdfcmpglieaaGreatDoor.am
open Go Go.Proofs Go.RowKit
attribute [local irreducible] aj
abbrev thB(g:Gr)(n:Nat):Blk:=.cells 95 [.tr (ts g.name),.tr (ti g.locals),.tr (ti g.slots),.tr (aO g.nodes),.sl 1 n]
abbrev mkB(l:List Mk):Blk:=.vec 92 4 4 (l.map Mk.cells)
def storesL:Nat->List Mk->List Nat
 |_,[]=>[]
 |i,m::r=>bif m.s then i::storesL (i+1) r else storesL (i+1) r
theorem rU{l:List Mk}{i:Nat}{m:Mk}(h:l[i]?=some m):storesL i (l.drop i)=bif m.s then i::storesL (i+1) (l.drop (i+1)) else storesL (i+1) (l.drop (i+1)):=by rw[aG h];rfl
theorem qC(g:Gr)(l:List Mk)(hl:l.length<=4096):K 26 [.ptr 0 0] [thB g l.length,mkB l] (.ret (.sl 2 (storesL 0 l).length)) [some (thB g l.length),some (mkB l),some (bX (storesL 0 l))]:=by
 obtain⟨R,hR⟩:∃R,storesL 0 l=R:=⟨_,rfl⟩;rw[hR];have hol:(l.map Mk.cells).length=l.length:=ad ..;refine Ctr.new [] hT hmix Tryz.func26 rfl (fun _ _=>JR) rfl fun hok=>?_;clear hok;conv=>whnf
 refine aq.by (fun x:Nat×List Nat=>⟨[(3,.sl 2 x.2.length),(9,.sl 1 l.length),(10,.tr (ti l.length)),(11,.tr (ti x.1))],[(0,thB g l.length),(1,mkB l),(2,bX x.2)],11⟩) (fun x=>x.1<=l.length/\x.2.length<=x.1/\x.2++storesL x.1 (l.drop x.1)=R) (fun x=>l.length-x.1) (0,[]) [0,1] [2] (Sub.mk' rfl aut ⟨aut,aut,⟨rfl,3,1,8,rfl,JQ⟩,J0⟩ rfl rfl) ⟨x5 _,t9 _,hR⟩ ?_;clear hR;rintro⟨i,out⟩ ⟨hi,ho,hR⟩ -
 dsimp only at hi ho hR;have hoo:(out.map eo).length=out.length:=ad ..;conv=>whnf
 cases h1:decide ((i:Int)<(l.length:Int)) with
 |false=>
  have h1':=ud h1;rw[show l.drop i=[] from GK JQ] at hR
  replace hR:out=R:=by rw[<-hR];exact(G7 _).symm
  subst hR;conv=>whnf
  refine exT ?_;conv=>whnf
  exact⟨[0,1,2],rfl,rfl,JY,aut,aut,aut,J0⟩
 |true=>
 have h1':i<l.length:=by have:=of_decide_eq_true h1;omega
 have hwi:IntKind.i64.wrap ((i:Int)+1)=((i+1:Nat):Int):=by rw[w64 JQ JQ];omega
 conv=>whnf
 refine⟨rfl,(JQ:(0:Int)<=(i:Int)),(JQ:(i:Int)<(l.length:Int)),?_⟩;conv=>whnf
 refine⟨rfl,(by rw[hol];exact h1'),fun row hrow=>?_⟩;obtain⟨⟨ms,ml,md,mf⟩,hm,rfl⟩:=aC hrow;have hm:l[i]?=some ⟨ms,ml,md,mf⟩:=hm;rw[rU hm] at hR;dsimp only at hR;conv=>whnf
 refine⟨(by show 4<=4;decide),?_⟩;conv=>whnf
 cases ms with
 |false=>
  rw[lh] at hR;conv=>whnf
  rw[hwi];exact⟨(i+1,out),[0,1,2],[],Sub.au,⟨h1',Ju ho,hR⟩,by show l.length-(i+1)<l.length-i;omega⟩
 |true=>
 rw[r7] at hR;conv=>whnf
 refine⟨rfl,rfl,rfl,Ee hoo.symm,by show(out.length+1)*8<=150000000000000;omega,neL rfl,?_⟩;conv=>whnf
 rw[hwi];exact⟨(i+1,out++[i]),[0,1,_],[],Sub.mk' rfl ⟨⟨rfl,by show out.length+1=(out++[_]).length;rw[uR];rfl⟩,JY,JZ,JZ,J0⟩ ⟨⟨rfl,JZ,JZ,JZ,JZ,JY,J0⟩,⟨rfl,rfl,rfl,rfl⟩,⟨rfl,rfl,rfl,by show(out.map eo).take out.length++_=(out++[_]).map eo;rw[vG (Ee hoo),FP];rfl⟩,J0⟩ rfl rfl,⟨h1',by show(out++[_]).length<=i+1;rw[uR];exact I5 ho,by show(out++[i])++storesL (i+1) (l.drop (i+1))=R;rw[GH];exact hR⟩,by show l.length-(i+1)<l.length-i;omega⟩
inductive Opn(f:Nat->List Nat)(D F:Nat->Bool)(S:Nat->Prop):Nat->Prop
 |st {a k:Nat}:S a->k∈f a->F k=false->Opn f D F S k
 |go {a k:Nat}:Opn f D F S a->D a=false->k∈f a->F k=false->Opn f D F S k
open Classical in
noncomputable def openL(f:Nat->List Nat)(D F:Nat->Bool)(S:Nat->Prop)(N:Nat):List Bool:=(List.range N).map fun x=>decide (Opn f D F S x)
theorem gB{f:Nat->List Nat}{D F:Nat->Bool}{S:Nat->Prop}{N:Nat}:(openL f D F S N).length=N:=by simp[openL]
theorem gz{f:Nat->List Nat}{D F:Nat->Bool}{S:Nat->Prop}{N x:Nat}(hx:x<N):(openL f D F S N)[x]?=some true<->Opn f D F S x:=by
 classical
 simp[openL,hx]
structure OpI(f:Nat->List Nat)(D F:Nat->Bool)(S:Nat->Prop)(N:Nat)(out:List Bool)(pend:List Nat):Prop where
 len:out.length=N
 snd:∀x,out[x]?=some true->Opn f D F S x
 lt:∀x∈pend,x<N
 src:∀x∈pend,S x\/(Opn f D F S x/\D x=false)
 clos:∀x,(S x\/(out[x]?=some true/\D x=false))->x∈pend\/∀y∈f x,F y=false->out[y]?=some true
structure OpJ(f:Nat->List Nat)(D F:Nat->Bool)(S:Nat->Prop)(N:Nat)(out:List Bool)(pend:List Nat)(at_ j:Nat):Prop where
 len:out.length=N
 snd:∀x,out[x]?=some true->Opn f D F S x
 lt:∀x∈pend,x<N
 src:∀x∈pend,S x\/(Opn f D F S x/\D x=false)
 cur:S at_\/(Opn f D F S at_/\D at_=false)
 clos:∀x,(S x\/(out[x]?=some true/\D x=false))->x∈pend\/(∀y∈f x,F y=false->out[y]?=some true)\/(x=at_/\∀i y,i<j->(f at_)[i]?=some y->F y=false->out[y]?=some true)
theorem OpI.start{f:Nat->List Nat}{D F:Nat->Bool}{N:Nat}{l:List Nat}(hl:∀x∈l,x<N):OpI f D F (· ∈ l) N (List.replicate N false) l:=by
 have h1:∀x,(List.replicate N false)[x]?=some true->False:=fun x hx=>by have:=i3 hx;simp at this
 exact⟨JX,fun x hx=>(h1 x hx).elim,hl,fun x hx=>.inl hx,fun x hx=>hx.elim .inl fun q=>(h1 x q.1).elim⟩
theorem OpI.take{f:Nat->List Nat}{D F:Nat->Bool}{S:Nat->Prop}{N:Nat}{out:List Bool}{pend rest:List Nat}{at_:Nat}(h:OpI f D F S N out pend)(hp:∀x,x∈pend<->x=at_\/x∈rest):OpJ f D F S N out rest at_ 0:=
 ⟨h.len,h.snd,fun x hx=>h.lt x ((hp x).2 (.inr hx)),fun x hx=>h.src x ((hp x).2 (.inr hx)),h.src at_ ((hp at_).2 (.inl rfl)),fun x hx=>by
  rcases h.clos x hx with q|q
  ·rcases(hp x).1 q with e|q
   ·exact .inr (.inr ⟨e,fun i y hi=>absurd hi (Hl i)⟩)
   ·exact .inl q
  ·exact .inr (.inl q)⟩
theorem OpJ.skip{f:Nat->List Nat}{D F:Nat->Bool}{S:Nat->Prop}{N:Nat}{out:List Bool}{pend:List Nat}{at_ j y:Nat}(h:OpJ f D F S N out pend at_ j)(hy:(f at_)[j]?=some y)(ho:out[y]?=some true\/F y=true):OpJ f D F S N out pend at_ (j+1):=
 ⟨h.len,h.snd,h.lt,h.src,h.cur,fun x hx=>by
  rcases h.clos x hx with q|q|⟨q,q2⟩
  ·exact .inl q
  ·exact .inr (.inl q)
  ·refine .inr (.inr ⟨q,fun i z hi hz hF=>?_⟩);by_cases e:i=j
   ·subst e;rw[hy] at hz;cases hz;rcases ho with ho|ho
    ·exact ho
    ·rw[ho] at hF;cases hF
   ·exact q2 i z JQ hz hF⟩
theorem OpJ.push{f:Nat->List Nat}{D F:Nat->Bool}{S:Nat->Prop}{N:Nat}{out:List Bool}{pend pend':List Nat}{at_ j y:Nat}(h:OpJ f D F S N out pend at_ j)(hy:(f at_)[j]?=some y)(ho:out[y]?=some false)(hF:F y=false)(hp:∀x,x∈pend'<->(x=y/\D y=false)\/x∈pend):OpJ f D F S N (out.set y true) pend' at_ (j+1):=by
 have hyl:=(a9.1 ho).1;have hm:=fun x=>cC (l:=out) (i:=y) (x:=x) hyl;have hop:Opn f D F S y:=by
  rcases h.cur with c|⟨c,c2⟩
  ·exact .st c (i3 hy) hF
  ·exact .go c c2 (i3 hy) hF
 refine⟨by rw[G0];exact h.len,fun x hx=>?_,fun x hx=>?_,fun x hx=>?_,h.cur,fun x hx=>?_⟩
 ·rcases(hm x).1 hx with e|q
  ·rw[e];exact hop
  ·exact h.snd x q
 ·rcases(hp x).1 hx with⟨e,_⟩|q
  ·rw[e,<-h.len];exact hyl
  ·exact h.lt x q
 ·rcases(hp x).1 hx with⟨e,e2⟩|q
  ·rw[e];exact .inr ⟨hop,e2⟩
  ·exact h.src x q
 ·have old:(S x\/(out[x]?=some true/\D x=false))\/(x=y/\D y=false):=by
   rcases hx with q|⟨q,q2⟩
   ·exact .inl (.inl q)
   ·rcases(hm x).1 q with e|q
    ·rw[e] at q2;exact .inr ⟨e,q2⟩
    ·exact .inl (.inr ⟨q,q2⟩)
  rcases old with old|e
  ·rcases h.clos x old with q|q|⟨q,q2⟩
   ·exact .inl ((hp x).2 (.inr q))
   ·exact .inr (.inl fun z hz hf=>(hm z).2 (.inr (q z hz hf)))
   ·refine .inr (.inr ⟨q,fun i z hi hz hf=>?_⟩);by_cases e:i=j;·subst e;rw[hy] at hz;cases hz;exact(hm y).2 (.inl rfl)
    ·exact(hm z).2 (.inr (q2 i z JQ hz hf))
  ·exact .inl ((hp x).2 (.inl e))
theorem OpJ.fin{f:Nat->List Nat}{D F:Nat->Bool}{S:Nat->Prop}{N:Nat}{out:List Bool}{pend:List Nat}{at_ j:Nat}(h:OpJ f D F S N out pend at_ j)(hj:(f at_).length<=j):OpI f D F S N out pend:=
 ⟨h.len,h.snd,h.lt,h.src,fun x hx=>by
  rcases h.clos x hx with q|q|⟨q,q2⟩
  ·exact .inl q
  ·exact .inr q
  ·subst q;refine .inr fun y hy hF=>?_;obtain⟨i,hi,e⟩:=Gy.1 hy;exact q2 i y JQ (by rw[ab hi,e]) hF⟩
theorem OpI.fin{f:Nat->List Nat}{D F:Nat->Bool}{S:Nat->Prop}{N:Nat}{out:List Bool}(h:OpI f D F S N out []):out=openL f D F S N:=by
 have key:∀x,Opn f D F S x->out[x]?=some true:=by
  intro x hx;induction hx with
  |st hs hk hF=>
   rcases h.clos _ (.inl hs) with q|q
   ·cases q
   ·exact q _ hk hF
  |go _ hd hk hF ih=>
   rcases h.clos _ (.inr ⟨ih,hd⟩) with q|q
   ·cases q
   ·exact q _ hk hF
 refine GT fun x=>?_;by_cases hx:x<N
 ·have hl:x<out.length:=by rw[h.len];exact hx
  have h2:x<(openL f D F S N).length:=by rw[gB];exact hx
  rw[ab hl,ab h2];congr 1;have q1:out[x]=true<->Opn f D F S x:=by
   constructor;·intro w;exact h.snd x (by rw[ab hl,w])
   ·intro w;have:=key x w;rw[ab hl] at this;exact vx this
  have q2:(openL f D F S N)[x]=true<->Opn f D F S x:=by
   rw[<-gz hx,ab h2];constructor;·intro w;rw[w]
   ·intro w;exact vx w
  cases a:out[x]<;>cases b:(openL f D F S N)[x];·rfl
  ·rw[q2.1 b |> q1.2] at a;cases a
  ·rw[q1.1 a |> q2.2] at b;cases b
  ·rfl
 ·rw[yB (by rw[h.len];omega),yB (by rw[gB];omega)]
end Go.Proofs.YtapmdfcmpglieaaGreatDoor.am
set_option maxRecDepth 100000
set_option maxHeartbeats 4000000
namespace Go.Proofs.YtapmdfcmpglieaaGreatDoor.am
open Go Go.Proofs Go.RowKit
attribute [local irreducible] aj
def dfl(g:Gr)(x:Nat):List Nat:=match g.nodes[x]? with|some n=>(folD n).map Int.toNat|none=>[]
theorem lw(n:Nd)(y:Int):y∈folD n<->y∈folI n:=by
 unfold folD folI;cases (n.kind==9) with
 |true=>exact Iff.rfl
 |false=>
 cases (n.kind==8) with
 |false=>exact Iff.rfl
 |true=>
 cases h:(n.els != n.next) with
 |true=>exact Iff.rfl
 |false=>
  have e:n.els=n.next:=by simpa using h
  rw[e];simp
theorem jX(g:Gr)(x y:Nat):y∈dfl g x<->y∈fol g x:=by
 unfold dfl fol;cases g.nodes[x]? with
 |none=>exact Iff.rfl
 |some n=>
  show y∈(folD n).map Int.toNat<->y∈(folI n).map Int.toNat;simp only[GM,lw]
theorem AW{g:Gr}(hW:Whole g){x:Nat}{n:Nd}(hn:g.nodes[x]?=some n):folD n=(dfl g x).map fun(x:Nat)=>(x:Int):=by
 have h0:∀y∈folD n,0<=y:=fun y hy=>by have hy:=(lw n y).1 hy;rw[hW.fol x n hn] at hy;obtain⟨z,_,rfl⟩:=GM.1 hy;omega
 have:dfl g x=(folD n).map Int.toNat:=by unfold dfl;rw[hn]
 rw[this,Jh];refine(List.map_id' _).symm.trans (Hv fun y hy=>?_);have:=h0 y hy;show y=((y.toNat:Nat):Int);omega
theorem BA(g:Gr)(x:Nat):(dfl g x).length<=2:=by
 unfold dfl;cases g.nodes[x]? with
 |none=>exact x5 _
 |some n=>
  show((folD n).map Int.toNat).length<=2;rw[ad];unfold folD;cases (n.kind==9)<;>cases (n.kind==8)<;>exact oo rfl
def mk0:Mk:=⟨false,false,false,false⟩
def tE(l:List Mk)(x:Nat):Bool:=(l.getD x mk0).d
def sv(l:List Mk)(x:Nat):Bool:=(l.getD x mk0).f
theorem sz(N:Nat):aS (List.replicate N false)=N:=by simp[aS]
theorem nW(g:Gr)(l:List Mk)(todo:List Nat)(hW:Whole g)(hl:l.length=g.nodes.length)(htd:∀x∈todo,x<g.nodes.length)(htl:todo.length<=4096):K 27 [.ptr 0 0,.sl 2 todo.length] [thB g l.length,mkB l,bX todo] (.ret (.tr (bh (openL (dfl g) (tE l) (sv l) (· ∈ todo) g.nodes.length)))) [some (thB g l.length),some (mkB l),none]:=by
 have hS:=OpI.start (f:=dfl g) (D:=tE l) (F:=sv l) htd;have hFin:=fun out h=>OpI.fin (f:=dfl g) (D:=tE l) (F:=sv l) (S:=(· ∈ todo)) (N:=g.nodes.length) (out:=out) h;have hfI:=fun x n hn=>AW hW (x:=x) (n:=n) hn;have hlt:∀a,∀b∈dfl g a,b<g.nodes.length:=fun a b hb=>hW.lt a b ((jX g a b).1 hb);have hfl:=BA g;have hpos:=hW.pos;have hmo:=hW.most;have hD:∀(x:Nat) m,l[x]?=some m->tE l x=m.d:=fun x m h=>by unfold tE;rw[t5,h];rfl
 have hFF:∀(x:Nat) m,l[x]?=some m->sv l x=m.f:=fun x m h=>by unfold sv;rw[t5,h];rfl
 clear hW;generalize hR:openL (dfl g) (tE l) (sv l) (· ∈ todo) g.nodes.length=R at hFin |-
 clear hR;have htL:todo.length<=g.nodes.length+4096:=JQ;generalize (fun x=>x∈todo:Nat->Prop)=S at hS hFin;generalize dfl g=f at hS hFin hfI hlt hfl;generalize tE l=D at *
 generalize sv l=F at *
 obtain⟨name,locals,slots,nodes⟩:=g;simp only at hS hFin hfI hlt hpos hmo hl htL;have hln:(nodes.map Nd.cells).length=nodes.length:=ad ..;have hlm:(l.map Mk.cells).length=l.length:=ad ..;obtain⟨N,hNe⟩:∃N,nodes.length=N:=⟨_,rfl⟩;rw[hNe] at hS hFin hlt hpos hmo hln hl;rw[hl] at hlm |-
 refine Ctr.mv [] [0,1,3] 4 hT hmix Tryz.func27 rfl (fun _ _=>JR) rfl (fun hok=>?_);clear hok;conv=>whnf
 refine⟨JQ,Hd _,(by show(N:Int)*1<=_;omega),?_⟩;conv=>whnf
 rw[GY];refine aq.by (fun x:List Bool×List Nat×Nat=>⟨[(0,.ptr 0 0),(1,.sl 3 x.2.2),(5,.sl 4 N)],[(0,thB ⟨name,locals,slots,nodes⟩ N),(1,mkB l),(3,bX x.2.1),(4,nQ x.1)],11⟩) (fun x=>x.2.2<=x.2.1.length/\x.2.1.length<=14000/\2*aS x.1+x.2.2<=2*N+todo.length/\OpI f D F S N x.1 (x.2.1.take x.2.2)) (fun x=>2*aS x.1+x.2.2) (List.replicate N false,todo,todo.length) [0,1,2,3,_] []
  (Sub.mk' rfl ⟨⟨rfl,rfl⟩,⟨rfl,rfl⟩,⟨rfl,rfl⟩,trivial⟩ ⟨⟨rfl,.inl rfl,.inl rfl,.inl rfl,.inl rfl,⟨rfl,rfl⟩,trivial⟩,⟨rfl,rfl,rfl,rfl⟩,⟨rfl,rfl,rfl,rfl⟩,⟨rfl,rfl,rfl,by rw[<-mw];rfl⟩,trivial⟩ rfl rfl) ⟨t9 _,by show todo.length<=14000;omega,by show 2*aS (List.replicate N false)+todo.length<=_;rw[sz];omega,by rw[Hi];exact hS⟩ ?_
 clear hS;rintro⟨out,rows,k⟩ ⟨hk,hrl,hm,hS⟩ -
 simp only at hk hrl hm hS;conv=>whnf
 refine ah (fun hk0=>?_) (fun hk0=>?_)
 ·have hk0:0<k:=by have:decide ((k:Int) > 0)=true:=hk0;have:=of_decide_eq_true this;omega
  have hk1:IntKind.i64.wrap ((k:Int)-1)=((k-1:Nat):Int):=by rw[w64 JQ JQ];omega
  obtain⟨a,ha⟩:∃a,rows[k-1]?=some a:=⟨_,ab JQ⟩;have hp:∀x,x∈rows.take k<->x=a\/x∈rows.take (k-1):=fun x=>by
   have:rows.take k=rows.take (k-1)++[a]:=by
    conv=>lhs;rw[(JQ:k=(k-1)+1),Hx,ha]
    rfl
   rw[this,FK,xB];exact KH
  have haN:a<N:=hS.lt a ((hp a).2 (.inl rfl));conv=>whnf
  rw[hk1];refine⟨rfl,(JQ:(0:Int)<=((k-1:Nat):Int)),(JQ:((k-1:Nat):Int)<(k:Int)),?_⟩;conv=>whnf
  refine ixV ha ?_;refine⟨(JS:0<1),fun t ht=>?_⟩;cases ht;conv=>whnf
  rw[hk1];refine⟨(JQ:(0:Int)<=((k-1:Nat):Int)),(JQ:((k-1:Nat):Int)<=(k:Int)),?_⟩;conv=>whnf
  have hJ:=hS.take hp;obtain⟨n,hn⟩:∃n,nodes[a]?=some n:=⟨_,ab JQ⟩;have hf:=r9 n;rw[hfI a n hn] at hf;have hflt:=hlt a;have hfl:=hfl a;obtain⟨L,hF⟩:∃L,f a=L:=⟨_,rfl⟩;rw[hF] at hf hflt hfl;have hFl:=aZ L;obtain⟨kind,op,slot,thing,⟨sa,ka,wa⟩,⟨sb,kb,wb⟩,next,els,origin⟩:=n;refine⟨rfl,(JQ:(0:Int)<=a),(JQ:(a:Int)<((nodes.map Nd.cells).length:Int)),fun row hrow=>?_⟩;obtain⟨d,hd,rfl⟩:=iq hrow;obtain rfl:=vx (hn.symm.trans hd);clear hrow hd hn;conv=>whnf
  refine aa.pure _ (hf) rfl rfl fun _=>?_;conv=>whnf
  refine aq.by (fun x:List Bool×List Nat×Nat×Nat=>⟨[(0,.ptr 0 0),(1,.sl 3 x.2.2.1),(5,.sl 4 N),(38,.tr (a8 L)),(39,.tr (ti L.length)),(40,.tr (ti x.2.2.2))],[(0,thB ⟨name,locals,slots,nodes⟩ N),(1,mkB l),(3,bX x.2.1),(4,nQ x.1)],11⟩) (fun x=>x.2.2.1<=x.2.1.length/\x.2.1.length<=14000/\2*N+todo.length<14000/\x.2.2.2<=L.length/\2*aS x.1+x.2.2.1<2*aS out+k/\OpJ f D F S N x.1 (x.2.1.take x.2.2.1) a x.2.2.2) (fun x=>L.length-x.2.2.2) (out,rows,k-1,0) [0,1,2,3,4] []
   (Sub.mk' rfl ⟨⟨rfl,rfl⟩,⟨rfl,rfl⟩,⟨rfl,rfl⟩,.inl rfl,.inl (by rw[<-hFl]),aut⟩ aut rfl rfl) ⟨by show k-1<=rows.length;omega,hrl,JQ,x5 _,by show 2*aS out+(k-1)<2*aS out+k;omega,hJ⟩ ?_
  clear hJ hf hS hp ha;rintro⟨o2,r2,k2,j⟩ ⟨hk2,hr2,hb2,hj,hmu,hJ⟩ -
  simp only at hk2 hr2 hj hmu hJ;have hol:=hJ.len;conv=>whnf
  refine ah (fun hjt=>?_) (fun hjt=>?_)
  ·have hjt:j<L.length:=by have:decide ((j:Int)<(L.length:Int))=true:=hjt;have:=of_decide_eq_true this;omega
   obtain⟨y,hy⟩:∃y,L[j]?=some y:=⟨_,ab hjt⟩;have hyN:=hflt y (i3 hy);have hyf:(f a)[j]?=some y:=by rw[hF];exact hy
   obtain⟨b,hb⟩:∃b,o2[y]?=some b:=⟨_,ab JQ⟩;obtain⟨⟨ms,ml,md,mf⟩,hmk⟩:∃m,l[y]?=some m:=⟨_,ab JQ⟩;have hDy:=hD y _ hmk;have hFy:=hFF y _ hmk;dsimp only at hDy hFy;conv=>whnf
   refine⟨rfl,(JQ:(0:Int)<=j),(JQ:(j:Int)<((((L.map fun(x:Nat)=>(x:Int))).map irow).length:Int)),fun row hrow=>?_⟩;obtain⟨d,hd,rfl⟩:=aU hrow;obtain rfl:=vx (hy.symm.trans hd);clear hrow hd;conv=>whnf
   refine⟨rfl,(JQ:(0:Int)<=y),(JQ:(y:Int)<(N:Int)),?_⟩;conv=>whnf
   refine ixV hmk ?_;conv=>whnf
   refine⟨(by show 4<=4;decide),?_⟩;conv=>whnf
   refine⟨rfl,(JQ:(0:Int)<=y),(JQ:(y:Int)<(N:Int)),?_⟩;conv=>whnf
   refine ixV hb ?_;refine⟨(JS:0<1),fun t ht=>?_⟩;cases ht;cases b with
   |true=>
    conv=>whnf
    exact⟨(o2,r2,k2,j+1),[0,1,2,3,4],[],Sub.mk' rfl ⟨JY,JY,JY,JZ,JZ,.inl (ak hjt JQ),J0⟩ aut rfl rfl,⟨hk2,hr2,hb2,hjt,hmu,hJ.skip hyf (.inl hb)⟩,by show L.length-(j+1)<L.length-j;omega⟩
   |false=>
   cases mf with
   |true=>
    conv=>whnf
    exact⟨(o2,r2,k2,j+1),[0,1,2,3,4],[],Sub.mk' rfl ⟨JY,JY,JY,JZ,JZ,.inl (ak hjt JQ),J0⟩ aut rfl rfl,⟨hk2,hr2,hb2,hjt,hmu,hJ.skip hyf (.inr hFy)⟩,by show L.length-(j+1)<L.length-j;omega⟩
   |false=>
   have hun:=ff hb;conv=>whnf
   refine⟨rfl,(JQ:(0:Int)<=y),(JQ:(y:Int)<(N:Int)),?_⟩;conv=>whnf
   refine ixS hb ?_;refine⟨(JS:0+1<=1),?_⟩;conv=>whnf
   cases md with
   |true=>
    conv=>whnf
    exact⟨(o2.set y true,r2,k2,j+1),[0,1,2,3,4],[],Sub.mk' rfl ⟨JY,JY,JY,JZ,JZ,.inl (ak hjt JQ),J0⟩ ⟨aut,aut,aut,⟨rfl,rfl,rfl,eY o2 y false true⟩,J0⟩ rfl rfl,⟨hk2,hr2,hb2,hjt,by show 2*aS (o2.set y true)+k2<2*aS out+k;omega,hJ.push hyf hb hFy (fun x=>⟨.inr,fun q=>q.elim (fun q=>by rw[hDy] at q;cases q.2) id⟩)⟩,by show L.length-(j+1)<L.length-j;omega⟩
   |false=>
   conv=>whnf
   refine⟨rfl,rfl,rfl,(by rw[ad];exact hk2),(JQ:(k2+1)*8<=150000000000000),neL rfl,?_⟩;conv=>whnf
   have hda:(r2.map eo).take k2++[[ti (y:Nat)]]=(r2.take k2++[y]).map eo:=by rw[FP,H7];rfl
   have hlen:(r2.take k2++[y]).length=k2+1:=by rw[uR,DK];simp;omega
   exact⟨(o2.set y true,r2.take k2++[y],k2+1,j+1),[0,1,2,_,4],[],Sub.mk' rfl ⟨JY,JY,JY,JZ,JZ,.inl (ak hjt JQ),J0⟩ ⟨⟨rfl,JZ,JZ,JZ,JZ,JY,J0⟩,⟨rfl,rfl,rfl,rfl⟩,⟨rfl,rfl,rfl,hda⟩,⟨rfl,rfl,rfl,eY o2 y false true⟩,J0⟩ rfl rfl,⟨by show k2+1<=(r2.take k2++[y]).length;omega,by show(r2.take k2++[y]).length<=14000;omega,hb2,hjt,by show 2*aS (o2.set y true)+(k2+1)<2*aS out+k;omega,hJ.push hyf hb hFy (fun x=>by rw[vG (by rw[hlen];exact t9 _),FK,xB,hDy];exact⟨fun q=>q.elim .inr fun q=>.inl ⟨q,rfl⟩,fun q=>q.elim (fun q=>.inr q.1) .inl⟩)⟩,by show L.length-(j+1)<L.length-j;omega⟩
  ·have hjt:L.length<=j:=by have:decide ((j:Int)<(L.length:Int))=false:=hjt;have:=ud this;omega
   conv=>whnf
   refine exT ?_;conv=>whnf
   exact⟨(o2,r2,k2),[0,1,2,3,4],[],Sub.au,⟨hk2,hr2,by show 2*aS o2+k2<=2*N+todo.length;omega,hJ.fin (by rw[hF];exact hjt)⟩,hmu⟩
 ·have hk0:k=0:=by have:decide ((k:Int) > 0)=false:=hk0;have:=ud this;omega
  subst hk0;have:=hFin out hS;subst this;have hol:=hS.len;conv=>whnf
  refine exT ?_;conv=>whnf
  exact⟨[0,1,2],rfl,rfl,⟨rfl,(by show N<=(out.map brow).length;rw[ad];omega),(by show bh out=Tr.lst 1 1 ((out.map brow).take N);rw[vG (by rw[ad];omega)])⟩,aut,aut,J0⟩
def HLs(P:Int->Prop)(k:Nat)(lk:List (Option (List Int))):Prop:=∀(i:Nat) l,lk[i]?=some (some l)->l.length<=k/\∀x∈l,P x
theorem HLs.mono{P:Int->Prop}{k k':Nat}{lk:List (Option (List Int))}(h:HLs P k lk)(hk:k<=k'):HLs P k' lk:=fun i l hl=>⟨GB (h i l hl).1 hk,(h i l hl).2⟩
theorem HLs.set{P:Int->Prop}{k:Nat}{lk:List (Option (List Int))}(h:HLs P k lk){now:List Int}(h1:now.length<=k)(h2:∀x∈now,P x)(y:Nat):HLs P k (lk.set y (some now)):=by
 intro i l hl;rw[IR] at hl;split at hl
 ·split at hl;·cases hl;exact⟨h1,h2⟩
  ·cases hl
 ·exact h i l hl
theorem wO{P:Int->Prop}{k:Nat}{now:List Int}(h1:now.length<=k)(h2:∀x∈now,P x):∀(r:List Nat)(s:HSt),HLs P k s.1->HLs P k (inH now r s).1.1/\(inH now r s).1.1.length=s.1.length
 |[],s,h=>⟨h,rfl⟩
 |y::r,s,h=>by
  unfold inH;cases s.2.contains y with
  |true=>
   rw[r7];cases eqI2 (lkAt s.1 y) now with
   |true=>exact wO h1 h2 r s h
   |false=>exact⟨h,rfl⟩
  |false=>
   rw[lh];obtain⟨q1,q2⟩:=wO h1 h2 r (s.1.set y (some now),s.2++[y]) (h.set h1 h2 y);exact⟨q1,q2.trans (G0 ..)⟩
theorem BE{P:Int->Prop}{n:Nd}{l now:List Int}(hn:n.kind=5->P n.thing)(h:nowN n l=some now){k:Nat}(h1:l.length<=k)(h2:∀x∈l,P x):now.length<=k+1/\∀x∈now,P x:=by
 unfold nowN at h;cases h5:(n.kind==5) with
 |true=>
  rw[h5,r7] at h;cases h;refine⟨by rw[uR];exact I5 h1,fun x hx=>?_⟩;rcases FK.1 hx with hx|hx
  ·exact h2 x hx
  ·rw[xB.1 hx];exact hn (by simpa using h5)
 |false=>
  rw[h5,lh] at h;have keep:∀l',now=l'->l'.length<=l.length->(∀x∈l',x∈l)->now.length<=k+1/\∀x∈now,P x:=fun l' e q1 q2=>by subst e;exact⟨JQ,fun x hx=>h2 x (q2 x hx)⟩
  simp only[cond_eq_ite] at h
  repeat' split at h
  all_goals first
   |(cases h;done)
   |(cases h;exact keep _ rfl (by rw[DK];omega) fun x hx=>G2 hx)
   |(cases h;exact keep _ rfl (t9 _) fun x hx=>hx)
theorem DF{P:Int->Prop}{k:Nat}{lk:List (Option (List Int))}(h:HLs P k lk)(a:Nat):(lkAt lk a).length<=k/\∀x∈lkAt lk a,P x:=by
 unfold lkAt;rw[t5];cases e:lk[a]? with
 |none=>exact⟨x5 _,fun x hx=>by cases hx⟩
 |some o=>cases o with
  |none=>exact⟨x5 _,fun x hx=>by cases hx⟩
  |some l=>exact h a l e
theorem ul{g:Gr}{P:Int->Prop}(hg:∀n∈g.nodes,n.kind=5->P n.thing):∀(f:Nat)(s:HSt)(k:Nat),HLs P k s.1->HLs P (k+f) (vL g f s k).1/\(vL g f s k).1.length<=s.1.length
 |0,s,k,h=>⟨fun i l hl=>(by cases hl),x5 _⟩
 |f+1,s,k,h=>by
  have nil:HLs P (k+(f+1)) []/\([]:List (Option (List Int))).length<=s.1.length:=⟨fun i l hl=>(by cases hl),x5 _⟩;unfold vL;cases e1:s.2[k]? with
  |none=>exact⟨h.mono JQ,t9 _⟩
  |some a=>
   dsimp only;cases e2:g.nodes[a]? with
   |none=>exact nil
   |some n=>
    dsimp only;cases e3:nowN n (lkAt s.1 a) with
    |none=>exact nil
    |some now=>
     dsimp only;obtain⟨q1,q2⟩:=DF h a;obtain⟨r1,r2⟩:=BE (hg n (i3 e2)) e3 q1 q2;obtain⟨t1,t2⟩:=wO r1 r2 (fol g a) s (h.mono (Kt k));generalize inH now (fol g a) s=R at t1 t2;obtain⟨s',o⟩:=R;cases o with
     |some y=>exact nil
     |none=>
      obtain⟨u1,u2⟩:=ul hg f s' (k+1) t1;exact⟨by rw[(JQ:k+(f+1)=k+1+f)];exact u1,GB u2 (Ee t2)⟩
theorem qX{g:Gr}{P:Int->Prop}(hg:∀n∈g.nodes,n.kind=5->P n.thing):HLs P (g.nodes.length+1) (heldR g).1/\(heldR g).1.length<=g.nodes.length:=by
 have h:=ul hg (g.nodes.length+1) (List.replicate g.nodes.length none,[0]) 0 (fun i l hl=>by rw[G1] at hl;split at hl<;>cases hl)
 rw[E7] at h;exact⟨h.1,GB h.2 (Ee (GE ..))⟩
theorem yC{u:Un}{g:Gr}{n:Nd}(h:rightB u g n=true)(hk:n.kind=5):0<=n.thing/\n.thing<u.locks.length:=by
 unfold rightB at h;cases hh:headR n with
 |true=>rw[hh] at h;cases h
 |false=>
  rw[hh,lh] at h;unfold bo at h;simp only[t4] at h;have h3:withinB (bT n.kind n.op) 4 n.thing (thingsI u n)=true:=by exact h.1.1.1.1.2
  have ht:thingsI u n=u.locks.length:=by unfold thingsI;rw[hk];rfl
  rw[ht,hk] at h3;have hp:(andP (bT 5 n.op) 4 != 0)=true:=JR;have hp0:(andP (bT 5 n.op) 4==0)=false:=JR;unfold withinB at h3;rw[hp,hp0] at h3;simp only[G9,GU,GS,t4,GR] at h3;exact h3
theorem BC{p:Prg}{gs:List Gr}(hO:UnOk p gs):Dx ⟨p.shared,p.locks,gs⟩:=by
 have hc:=sX hO;have h1:=hO.len;have h3:=hO.at_;have s2:=dC (most:=16) hO.prg.locks;have s3:p.threads.length<=8:=by
  rcases HQ p.threads.length with q|q
  ·omega
  ·obtain⟨d,hd⟩:∃d,p.threads[p.threads.length-1]?=some d:=⟨_,ab JQ⟩;have:=(hO.prg.threads _ d hd).few;omega
 have key:∀g∈gs,∃t th,p.threads[t]?=some th/\g=thrG p t th/\szB (thrC p t th) th.body<4096:=fun g hg=>by obtain⟨i,hi,e⟩:=Gy.1 hg;obtain⟨th,ht⟩:∃th,p.threads[i]?=some th:=⟨_,ab JQ⟩;obtain⟨q1,q2⟩:=h3 i th ht;rw[ab hi,e] at q1;exact⟨i,th,ht,vx q1,q2⟩
 have hw:∀g∈gs,cm g=true:=fun g hg=>by obtain⟨t,th,ht,rfl,_⟩:=key g hg;exact xM hO ht
 have hr:∀g∈gs,∀n∈g.nodes,n.kind=5->0<=n.thing/\n.thing<32:=fun g hg n hn hk=>by obtain⟨t,th,ht,rfl,hsz⟩:=key g hg;have:=f6 hO.prg ht hsz gs n hn;obtain⟨q1,q2⟩:=yC this hk;have q2:n.thing<(p.locks.length:Int):=q2;exact⟨q1,JQ⟩
 refine⟨hc,by show gs.length<=4096;omega,hw,fun g hg=>(qX (P:=fun k=>0<=k/\k<32) (hr g hg)).2,fun g hg i l hl=>?_⟩;obtain⟨q1,q2⟩:=(qX (P:=fun k=>0<=k/\k<32) (hr g hg)).1 i l hl;have:=(aT (hw g hg)).most;exact⟨JQ,q2⟩
end Go.Proofs.YtapmdfcmpglieaaGreatDoor.am
set_option maxRecDepth 100000
set_option maxHeartbeats 4000000
namespace Go.Proofs.YtapmdfcmpglieaaGreatDoor.am
open Go Go.Proofs Go.RowKit
attribute [local irreducible] aj
def upL{α:Type}(N:Nat)(f:Nat->α)(o:α)(i:Nat):List α:=(List.range N).map fun k=>if k<i then f k else o
theorem C2{α:Type}{N:Nat}{f:Nat->α}{o:α}{i:Nat}:(upL N f o i).length=N:=by simp[upL]
theorem zF{α:Type}{N:Nat}{f:Nat->α}{o:α}:upL N f o 0=List.replicate N o:=by unfold upL;refine GT fun k=>?_;rw[z5,G1];by_cases hk:k<N<;>simp[hk]
theorem zT{α:Type}{N:Nat}{f:Nat->α}{o:α}:upL N f o N=(List.range N).map f:=by unfold upL;refine Hv fun k hk=>?_;rw[Gw (G3.1 hk)]
theorem EH{α:Type}{N:Nat}{f:Nat->α}{o:α}{i:Nat}(hi:i<N):(upL N f o i)[i]?=some o:=by unfold upL;simp[hi]
theorem BZ{α:Type}{N:Nat}{f:Nat->α}{o:α}{i:Nat}(hi:i<N):(upL N f o i).set i (f i)=upL N f o (i+1):=by
 refine GT fun k=>?_;rw[IR];unfold upL;by_cases hk:k<N
 ·by_cases e:i=k;·subst e;simp[hi]
  ·simp only[e,I9,z5,GZ hk,G5];congr 1;by_cases q:k<i;·rw[Gw q,Gw JQ]
   ·rw[GN q,GN JQ]
 ·simp[hk];omega
theorem yO{α:Type}{N:Nat}{f:Nat->α}{o:α}{i:Nat}(h:f i=o):upL N f o i=upL N f o (i+1):=by
 unfold upL;refine Hv fun k _=>?_;by_cases q:k<i;·rw[Gw q,Gw JQ]
 ·rw[GN q];by_cases q2:k<i+1;·rw[Gw q2,(JQ:k=i),h]
  ·rw[GN q2]
def eO(K:List Int)(n:Nd):Bool:=K.getD n.thing.toNat 0==3
def iz(K:List Int)(r:Bool)(n:Nd):Mk:=
 bif n.kind==2 then⟨false,bif r then eO K n else false,false,false⟩
 else bif n.kind==3 then⟨bif r then eO K n else false,false,false,false⟩
 else bif n.kind==6 then⟨r,false,false,false⟩
 else bif n.kind==4||n.kind==5||n.kind==7 then⟨false,false,true,false⟩ else mk0
def ndz:Nd:=⟨9,0,0,0,⟨false,0,0⟩,⟨false,0,0⟩,0,0,0⟩
def dE(K:List Int)(R:List Bool)(ns:List Nd)(i:Nat):Mk:=iz K (R.getD i false) (ns.getD i ndz)
def lR(l:List Mk)(x:Int):List Mk:=let m:=l.getD x.toNat mk0;l.set x.toNat ⟨m.s,m.l,m.d,true⟩
noncomputable def madeS(u:Un)(g:Gr)(fs:List Int):List Mk:=fs.foldl lR ((List.range g.nodes.length).map (dE (bJ u) (rchL (fol g) (-1) g.nodes.length) g.nodes))
theorem fenS_len(l:List Mk)(x:Int):(lR l x).length=l.length:=by simp[lR]
structure xX(u:Un):Prop where
 lk:Dx u
 shr:u.shared.length<=65536
 kind:∀g∈u.graphs,∀n∈g.nodes,0<=n.kind
 thing:∀g∈u.graphs,∀n∈g.nodes,n.kind=2\/n.kind=3->0<=n.thing/\n.thing<u.shared.length
theorem j7(u:Un):(bJ u).length=u.shared.length:=by simp[bJ]
theorem uL(u:Un)(hu:xX u)(t:Nat)(g:Gr)(hg:u.graphs[t]?=some g)(fs:List Int)(hs:Srt g.nodes.length fs):KE 25 [u.av,.tr (ti t),.tr (az fs)] [] (fun r b=>r=.ret (.ptr 0 0)/\b=[some (thB g g.nodes.length),some (mkB (madeS u g fs))]):=by
 have hcl:=jo u hu.lk hu.shr;have hm:=i3 hg;have hW:=hu.lk.whole g hm;have hre:=jE g hW;have hwo:=aT hW;have hgl:=hu.lk.few;have hRl:(rchL (fol g) (-1) g.nodes.length).length=g.nodes.length:=dl;have hth:=hu.thing g hm;have hMS:madeS u g fs=fs.foldl lR ((List.range g.nodes.length).map (dE (bJ u) (rchL (fol g) (-1) g.nodes.length) g.nodes)):=rfl;have hKl:=j7 u;have hkd:∀(i:Nat) n,g.nodes[i]?=some n->1<=n.kind/\n.kind<10:=fun i n h=>by have:=hwo.kind n (i3 h);have:=hu.kind g hm n (i3 h);omega
 have hmo:=hwo.most;generalize madeS u g fs=MS at *
 generalize rchL (fol g) (-1) g.nodes.length=R at *
 generalize bJ u=KK at *
 obtain⟨shared,lks,graphs⟩:=u;obtain⟨name,locals,slots,nodes⟩:=g;dsimp only at hg hgl hth hKl hmo hRl hMS hkd hs;have hoG:(graphs.map Gr.cells).length=graphs.length:=ad ..;have hoN:(nodes.map Nd.cells).length=nodes.length:=ad ..;have htl:t<graphs.length:=(a9.1 hg).1;clear hu hwo hW;refine cp.new [2000001] hT hmix Tryz.func25 rfl (fun _ _=>JR) rfl fun hok=>?_;clear hok;conv=>whnf
 refine af hT 1 ?_;conv=>whnf
 refine aj.by [] [] hcl ?_;rintro res bout ⟨rfl,L,hL,rfl⟩;have hLl:L.length=shared.length:=by rw[<-hKl,<-hL,ad]
 refine⟨rfl,?_⟩;conv=>whnf
 intro _;conv=>whnf
 refine ixM hg ?_;conv=>whnf
 refine ixM hg ?_;conv=>whnf
 refine⟨HF _,Hd _,(by rw[hoN];show(nodes.length:Int)*4<=_;omega),?_⟩;conv=>whnf
 refine drT ?_;conv=>whnf
 refine aa.pure _ (Ek) rfl rfl fun _=>?_;conv=>whnf
 refine aa.pure _ (hre) rfl rfl fun _=>?_;conv=>whnf
 refine aq.by (fun i:Nat=>⟨[(2,.tr (az fs)),(7,.tr (eg L)),(9,.ptr 0 0),(10,.ptr 2 0),(44,.tr (bh R)),(45,.tr (ti nodes.length)),(46,.tr (ti i))],[(0,thB ⟨name,locals,slots,nodes⟩ nodes.length),(1,mkB (upL nodes.length (dE KK R nodes) mk0 i)),(2,.cells 168 [nfA,nfA,.fn 124 [],.fn 122 [],.fn 121 [],.fn 121 [],.fn 123 [],.fn 121 [],nfA,nfA])],11⟩) (fun i=>i<=nodes.length) (fun i=>nodes.length-i) 0 [_,_,_] [] (Sub.mk' rfl ⟨JZ,JZ,JY,JY,JZ,.inl (by rw[<-hRl,<-ad (f:=brow)]),JZ,J0⟩ ⟨⟨rfl,JZ,JZ,JZ,JZ,⟨rfl,hoN⟩,J0⟩,⟨rfl,rfl,rfl,by rw[zF,H9];show List.replicate (Int.toNat ((nodes.map Nd.cells).length:Int)) _=_;rw[GY,hoN];rfl⟩,⟨rfl,JZ,JZ,⟨rfl,J0⟩,⟨rfl,J0⟩,⟨rfl,J0⟩,⟨rfl,J0⟩,⟨rfl,J0⟩,⟨rfl,J0⟩,JZ,JZ,J0⟩,J0⟩ rfl rfl) (x5 _) ?_;intro i hi _;conv=>whnf
 cases h1:decide ((i:Int)<(nodes.length:Int)) with
 |false=>
  have h1':i=nodes.length:=by have:=ud h1;omega
  subst h1';conv=>whnf
  refine exT ?_;conv=>whnf
  have hB0:((List.range nodes.length).map (dE KK R nodes)).length=nodes.length:=JX;have hfew:=hs.few;have hle:=hs.le;have hol:(fs.map irow).length=fs.length:=ad ..;rw[zT];generalize (List.range nodes.length).map (dE KK R nodes)=B at hMS hB0 |-
  clear hL hcl hth hkd;refine aq.by (fun j:Nat=>⟨[(9,.ptr 0 0),(97,.tr (az fs)),(98,.tr (ti fs.length)),(99,.tr (ti j))],[(0,thB ⟨name,locals,slots,nodes⟩ nodes.length),(1,mkB ((fs.take j).foldl lR B))],11⟩) (fun j=>j<=fs.length) (fun j=>fs.length-j) 0 [0,1] [] (Sub.mk' rfl ⟨JY,JZ,.inl (by rw[hol]),aut⟩ aut rfl rfl) (x5 _) ?_;intro j hj _;conv=>whnf
  cases h2:decide ((j:Int)<(fs.length:Int)) with
  |false=>
   have h2':fs.length<=j:=by have:=ud h2;omega
   rw[vG h2',<-hMS];conv=>whnf
   refine exT ?_;conv=>whnf
   exact⟨.ret (.ptr 0 0),[some (thB ⟨name,locals,slots,nodes⟩ nodes.length),some (mkB MS)],JY,[0,1],rfl,rfl,JY,aut,aut,J0⟩
  |true=>
  have h2':j<fs.length:=by have:=of_decide_eq_true h2;omega
  have hwj:IntKind.i64.wrap ((j:Int)+1)=((j+1:Nat):Int):=by rw[w64 JQ JQ];omega
  obtain⟨x,hx⟩:∃x,fs[j]?=some x:=⟨_,ab h2'⟩;have hx0:=hle j x hx;have hx1:=(hs j x hx).2;have htk:(fs.take (j+1)).foldl lR B=lR ((fs.take j).foldl lR B) x:=by rw[aN hx,IV];rfl
  have hlen:((fs.take j).foldl lR B).length=nodes.length:=by
   have:∀(l:List Int)(b:List Mk),(l.foldl lR b).length=b.length:=fun l=>by
    induction l with
    |nil=>intro b;rfl
    |cons y l ih=>intro b;exact(ih _).trans (fenS_len b y)
   rw[this];exact hB0
  generalize hM:(fs.take j).foldl lR B=M at htk hlen;obtain⟨⟨ms,ml,md,mf⟩,hm⟩:∃m,M[x.toNat]?=some m:=⟨_,ab JQ⟩;have hfe:lR M x=M.set x.toNat ⟨ms,ml,md,true⟩:=by unfold lR;rw[t5,hm];rfl
  rw[hfe] at htk;conv=>whnf
  refine ixM hx ?_;conv=>whnf
  refine⟨rfl,(JQ:(0:Int)<=x),(JQ:x<(nodes.length:Int)),?_⟩;conv=>whnf
  refine ixS hm ?_;refine⟨(JS:3+1<=4),?_⟩;conv=>whnf
  rw[hwj];exact⟨j+1,[0,1],[],Sub.mk' rfl aut ⟨aut,⟨rfl,rfl,rfl,by rw[htk,Hp];rfl⟩,J0⟩ rfl rfl,h2',JQ⟩
 |true=>
 have h1':i<nodes.length:=by have:=of_decide_eq_true h1;omega
 have hwi:IntKind.i64.wrap ((i:Int)+1)=((i+1:Nat):Int):=by rw[w64 JQ JQ];omega
 obtain⟨r,hr⟩:∃r,R[i]?=some r:=⟨_,ab JQ⟩;obtain⟨n,hn⟩:∃n,nodes[i]?=some n:=⟨_,ab h1'⟩;have hma:dE KK R nodes i=iz KK r n:=by unfold dE;rw[t5,hr,t5,hn];rfl
 obtain⟨hk0,hk1⟩:=hkd i n hn;have hthn:=hth n (i3 hn);have hml:=C2 (N:=nodes.length) (f:=dE KK R nodes) (o:=mk0) (i:=i);have hmi:=EH (f:=dE KK R nodes) (o:=mk0) h1';have hmset:=BZ (f:=dE KK R nodes) (o:=mk0) h1';have hmskip:=yO (N:=nodes.length) (f:=dE KK R nodes) (o:=mk0) (i:=i);rw[hma] at hmset hmskip;generalize upL nodes.length (dE KK R nodes) mk0 i=M at *
 conv=>whnf
 refine ixM hr ?_;conv=>whnf
 refine ixM hn ?_;obtain⟨kind,op,slot,thing,⟨sa,ka,wa⟩,⟨sb,kb,wb⟩,next,els,origin⟩:=n;dsimp only at hk0 hk1 hthn;rcases(JQ:(kind=1\/kind=8\/kind=9)\/(kind=4\/kind=5\/kind=7\/kind=6\/kind=2\/kind=3)) with hk|hk
 ·rcases hk with hk|hk|hk
  all_goals
   subst hk;conv=>whnf
   refine⟨by dsimp only;decide,by dsimp only;decide,?_⟩;conv=>whnf
   refine exT ?_;conv=>whnf
   rw[hwi];exact⟨i+1,[0,1,2],[],Sub.mk' rfl aut ⟨aut,⟨rfl,rfl,rfl,by show M.map Mk.cells=_;rw[hmskip rfl]⟩,aut⟩ rfl rfl,h1',JQ⟩
 rcases hk with hk|hk|hk|hk|hk|hk
 rotate_left 4
 all_goals
  subst hk;conv=>whnf
  refine⟨by dsimp only;decide,by dsimp only;decide,?_⟩;conv=>whnf
 iterate 2
  obtain⟨q1,q2⟩:=hthn JS;obtain⟨c,hc⟩:∃c,L[thing.toNat]?=some c:=⟨_,ab JQ⟩;have hrk:∀(kd op2 slot2 nx2 el2 or2:Int)(va vb:Val),eO KK ⟨kd,op2,slot2,thing,va,vb,nx2,el2,or2⟩=(c.k==3):=fun kd op2 slot2 nx2 el2 or2 va vb=>by unfold eO;dsimp only;rw[<-hL,t5,z5,hc];rfl
  simp only[iz,hrk] at hmset;refine⟨rfl,q1,(by show thing<((L.map Cls.cells).length:Int);rw[ad];omega),fun row hrow=>?_⟩;obtain⟨d,hd,rfl⟩:=aC hrow;obtain rfl:=vx (hc.symm.trans hd);clear hrow hd;obtain⟨ck,ct,cl⟩:=c;conv=>whnf
  rotate_left 1
 rotate_left 4;refine aa.pure _ (Dc _) rfl rfl fun _=>?_;rotate_left 1;refine aa.pure _ (Dv _) rfl rfl fun _=>?_;rotate_left 1;refine aa.pure _ (pZ false) rfl rfl fun _=>?_;rotate_left 1;refine aa.pure _ (pZ false) rfl rfl fun _=>?_;rotate_left 1;refine aa.pure _ (pZ false) rfl rfl fun _=>?_;rotate_left 1;refine aa.pure _ (BS false) rfl rfl fun _=>?_;rotate_left 1
 all_goals
  conv=>whnf
  cases r
  all_goals
   conv=>whnf
   refine⟨rfl,(JQ:(0:Int)<=(i:Int)),(JQ:(i:Int)<(nodes.length:Int)),?_⟩;conv=>whnf
   refine ixS hmi ?_;refine⟨(JS:0+4<=4),?_⟩;conv=>whnf
   refine drT ?_;conv=>whnf
   rw[hwi];exact⟨i+1,[0,1,2],[],Sub.mk' rfl aut ⟨aut,⟨rfl,rfl,rfl,by rw[<-hmset,Hp];rfl⟩,aut⟩ rfl rfl,h1',JQ⟩
theorem zB{u:Un}{g:Gr}{n:Nd}(h:rightB u g n=true)(hk:n.kind=2\/n.kind=3):0<=n.thing/\n.thing<u.shared.length:=by
 unfold rightB at h;cases hh:headR n with
 |true=>rw[hh] at h;cases h
 |false=>
  rw[hh,lh] at h;unfold bo at h;simp only[t4] at h;have h3:withinB (bT n.kind n.op) 4 n.thing (thingsI u n)=true:=by exact h.1.1.1.1.2
  rcases hk with hk|hk
  ·have ht:thingsI u n=u.shared.length:=by unfold thingsI;rw[hk];rfl
   rw[ht,hk] at h3;have hp:(andP (bT 2 n.op) 4 != 0)=true:=JR;have hp0:(andP (bT 2 n.op) 4==0)=false:=JR;unfold withinB at h3;rw[hp,hp0] at h3;simp only[G9,GU,GS,t4,GR] at h3;exact h3
  ·have ht:thingsI u n=u.shared.length:=by unfold thingsI;rw[hk];rfl
   rw[ht,hk] at h3;have hp:(andP (bT 3 n.op) 4 != 0)=true:=JR;have hp0:(andP (bT 3 n.op) 4==0)=false:=JR;unfold withinB at h3;rw[hp,hp0] at h3;simp only[G9,GU,GS,t4,GR] at h3;exact h3
theorem CU{p:Prg}{gs:List Gr}(hO:UnOk p gs):xX ⟨p.shared,p.locks,gs⟩:=by
 have h1:=hO.len;have h3:=hO.at_;have s1:=dC hO.prg.shared;have key:∀g∈gs,∃t th,p.threads[t]?=some th/\g=thrG p t th/\szB (thrC p t th) th.body<4096:=fun g hg=>by obtain⟨i,hi,e⟩:=Gy.1 hg;obtain⟨th,ht⟩:∃th,p.threads[i]?=some th:=⟨_,ab JQ⟩;obtain⟨q1,q2⟩:=h3 i th ht;rw[ab hi,e] at q1;exact⟨i,th,ht,vx q1,q2⟩
 refine⟨BC hO,GB s1 JS,fun g hg n hn=>?_,fun g hg n hn hk=>?_⟩
 ·obtain⟨t,th,ht,rfl,_⟩:=key g hg;obtain⟨i,hi,e⟩:=Gy.1 hn;exact(rv p t th (by rw[ab hi,e])).2.1
 ·obtain⟨t,th,ht,rfl,hsz⟩:=key g hg;exact zB (f6 hO.prg ht hsz gs n hn) hk
end Go.Proofs.YtapmdfcmpglieaaGreatDoor.am
set_option maxRecDepth 100000
set_option maxHeartbeats 4000000
namespace Go.Proofs.YtapmdfcmpglieaaGreatDoor.am
open Go Go.Proofs Go.RowKit
theorem mU(l:List Int):(l.map irow).flatten=l.map fun x=>ti x:=by
 induction l with
 |nil=>rfl
 |cons x r ih=>rw[GO,Hw,ih];rfl
theorem na{X:Gh->World->Prop}{k N id nx d0 d1 d36 d37 d38 h L i:Nat}{e':Nat}{B:Nat}{l:List Int}{pos1 pos2 pos3 pos4:String}{af1 af2 af3 af4:Array Edge}{ty1 ty2 ty3 ty4:Nat}{Q:QL}{tl:List (Nat×AV)}{bl:List (Nat×Option Blk)}{ops:Array Oper}
  (hops:ops=[⟨some d36,.move (.tmp d0),ty1,pos1,af1,none⟩,⟨some d37,.move (.tmp d1),ty2,pos2,af2,none⟩,⟨some d38,.slice 38 (.tmp d36) (some (.tmp d37)) none none,ty3,pos3,af3,none⟩,⟨none,.call { callee:=.builtin .clear,args:=#[.tmp d38],argTypes:=#[38] },ty4,pos4,af4,none⟩].toArray)
  (hn1:(Nat.beq d36 d1||Nat.beq d36 d37||Nat.beq d36 d38||Nat.beq d37 d38)=false) (h36:lk tl d36=none) (h37:lk tl d37=none) (h38:lk tl d38=none) (hN:(Nat.blt d36 N&&Nat.blt d37 N&&Nat.blt d38 N)=true)
  (h0:lk tl d0=some (.sl h L)) (h1:lk tl d1=some (.tr (ti (i:Nat)))) (hb:lkM bl h=some (.vec e' 1 B (l.map irow))) (hi:i<L) (hL:L<=l.length)
  (hQ:Q .normal ⟨tl,(h,some (.vec e' 1 B ((l.take i++List.replicate (L-i) (0:Int)++l.drop L).map irow)))::bl,nx⟩) :
  Wp X Tryz.prog k N (.region id ops false) (Ql Q) (LS.mk tl bl nx).st:=by
 intro g0 g w0 w act hk hs;refine If ?_;have hto:ops.toList=[⟨some d36,.move (.tmp d0),ty1,pos1,af1,none⟩,⟨some d37,.move (.tmp d1),ty2,pos2,af2,none⟩,⟨some d38,.slice 38 (.tmp d36) (some (.tmp d37)) none none,ty3,pos3,af3,none⟩,⟨none,.call { callee:=.builtin .clear,args:=#[.tmp d38],argTypes:=#[38] },ty4,pos4,af4,none⟩]:=by rw[hops]
 rw[hto];have hNs:=hs.size;simp only[t4] at hN;have hd36:d36<act.tmps.size:=by rw[hNs];exact oo hN.1.1
 have hd37:d37<act.tmps.size:=by rw[hNs];exact oo hN.1.2
 have hd38:d38<act.tmps.size:=by rw[hNs];exact oo hN.2
 simp only[G8] at hn1;have n1:=GG hn1.1.1.1;have n2:=GG hn1.1.1.2;have n3:=GG hn1.1.2;have n4:=GG hn1.2;obtain⟨_,hR⟩:=hs.fr d0 _ h0;obtain⟨_,hR1⟩:=hs.fr d1 _ h1;obtain⟨hv1,_⟩:=al hR1;have hme:(LS.mk tl bl nx).st.m h=some (.vec e' 1 B (l.map irow)):=hb;obtain⟨lc,g1,g2⟩:=hs.mem.blk h _ hme;have g2':=g2;obtain⟨hB,hn0,hloc⟩:=g2';have hml:(l.map irow).length=l.length:=ad ..;obtain⟨b,cap,cur,rfl,g3,g4,g4',g5,g6,g7⟩:∃b cap cur,lc=.row b cap/\w.heap[b]?=some (.cells cur e' (0,0))/\(l.map irow).length<=cap/\cap<=9223372036854775807/\cur.size=cap*1 /\
   (∀row∈l.map irow,row.length=1)/\∀(i:Nat)(t:Tr),(l.map irow).flatten[i]?=some t->∃c,cur[i]?=some c/\RepT (okB g w) w c t:=by
  rcases hloc with⟨_,hv⟩|hv
  ·have:l.length=0:=by rw[<-hml,hv];rfl
   omega
  ·exact hv
 rcases hR.sl_inv g1 with⟨b',cap',e,hlc,hv⟩|⟨e,_⟩
 case inr=>cases e
 cases e;have hev0:act.eval (.tmp d0)=.slice (some ⟨b,0,none⟩) L cap:=hv;have hev1:act.eval (.tmp d1)=.int .i64 i:=hv1;unfold wpList;rw[Gw (by simp[Region.wanted])];refine .inl ?_;unfold Oper.wp;rw[show(execOp act.eval ⟨some d36,.move (.tmp d0),ty1,pos1,af1,none⟩).run Tryz.prog w=.ok (.value (.slice (some ⟨b,0,none⟩) L cap)) w by simp[execOp,hev0]];show wpList Tryz.prog ops _ _ (act.put (some d36) (.slice (some ⟨b,0,none⟩) L cap)) _;have a1:(act.put (some d36) (.slice (some ⟨b,0,none⟩) L cap)).eval (.tmp d1)=.int .i64 i:=by show(act.tmps.setIfInBounds d36 _).getD d1 undef=_;rw[bI hd36,GN (fun e=>n1 e.symm)];exact hev1
 have a2:(act.put (some d36) (.slice (some ⟨b,0,none⟩) L cap)).eval (.tmp d36)=.slice (some ⟨b,0,none⟩) L cap:=by show(act.tmps.setIfInBounds d36 _).getD d36 undef=_;rw[bI hd36,Gw rfl]
 unfold wpList;rw[Gw (by simp[Region.wanted])];refine .inl ?_;unfold Oper.wp;rw[show(execOp (act.put (some d36) (.slice (some ⟨b,0,none⟩) L cap)).eval ⟨some d37,.move (.tmp d1),ty2,pos2,af2,none⟩).run Tryz.prog w=.ok (.value (.int .i64 i)) w by simp[execOp,a1]];show wpList Tryz.prog ops _ _ ((act.put (some d36) (.slice (some ⟨b,0,none⟩) L cap)).put (some d37) (.int .i64 i)) _;generalize hac:(act.put (some d36) (.slice (some ⟨b,0,none⟩) L cap)).put (some d37) (.int .i64 i)=ac;have hsz:ac.tmps.size=N:=by rw[<-hac];simp[Act.put,hNs]
 have hdef:ac.defers=g0.D:=by rw[<-hac];exact(bc ..).trans ((bc ..).trans hs.defers)
 have c1:ac.eval (.tmp d36)=.slice (some ⟨b,0,none⟩) L cap:=by rw[<-hac];show((act.tmps.setIfInBounds d36 _).setIfInBounds d37 _).getD d36 undef=_;rw[bI (by simpa using hd37),GN n2];exact a2
 have c2:ac.eval (.tmp d37)=.int .i64 i:=by rw[<-hac];show((act.tmps.setIfInBounds d36 _).setIfInBounds d37 _).getD d37 undef=_;rw[bI (by simpa using hd37),Gw rfl]
 have hfr:∀j,j≠d36->j≠d37->ac.tmps.getD j undef=act.tmps.getD j undef:=fun j q1 q2=>by rw[<-hac];show((act.tmps.setIfInBounds d36 _).setIfInBounds d37 _).getD j undef=_;rw[bI (by simpa using hd37),GN q2,bI hd36,GN q1]
 clear hac a1 a2;have e1:lk T 38=some ⟨.slice 3,1,24,[.sl],false⟩:=JR;have e2:lk T 3=some ⟨.int .i64,1,8,[.i .i64],false⟩:=JR;obtain⟨u,u1,u2,_⟩:=aI hT e1 w;obtain rfl:=aR u2;have hbd:=dz (P:=Tryz.prog) (w:=w) (ρ:=ac.eval) (isS:=true) (len:=L) (cap:=cap) (lo:=some (.tmp d37)) (hi:=none) (l:=some (i:Int)) (h:=none) (.inr ⟨_,_,_,rfl,rfl,c2⟩) (.inl ⟨rfl,rfl⟩) (by show(0:Int)<=i;omega) (by show(i:Int)<=L;omega) (Hd _) hlc;rw[Ij] at hbd;have hsl:(Instr.sliceAt 38 (ac.eval (.tmp d36)) ((some (.tmp d37)).map ac.eval) none none).run Tryz.prog w=.ok (.slice (some ⟨b,i,none⟩) (L-i) (cap-i)) w:=by simp only[Instr.sliceAt,E9,u1,De,Instr.slice,c1,hbd,aW hT e2];simp[(JQ:¬ cap=i),cG]
 have hex:(execOp ac.eval ⟨some d38,.slice 38 (.tmp d36) (some (.tmp d37)) none none,ty3,pos3,af3,none⟩).run Tryz.prog w=.ok (.value (.slice (some ⟨b,i,none⟩) (L-i) (cap-i))) w:=by simp only[execOp,E9,Ij,hsl,De];rfl
 unfold wpList;rw[Gw (by simp[Region.wanted])];refine .inl ?_;unfold Oper.wp;rw[hex];show wpList Tryz.prog ops _ _ (ac.put (some d38) (.slice (some ⟨b,i,none⟩) (L-i) (cap-i))) _;have hd38':d38<ac.tmps.size:=by rw[hsz];exact oo hN.2
 have c3:(ac.put (some d38) (.slice (some ⟨b,i,none⟩) (L-i) (cap-i))).eval (.tmp d38)=.slice (some ⟨b,i,none⟩) (L-i) (cap-i):=by show(ac.tmps.setIfInBounds d38 _).getD d38 undef=_;rw[bI hd38',Gw rfl]
 have hz:∀w,(zeroValue 3).run Tryz.prog w=.ok (.int .i64 0) w:=fun w=>JR;have hzc:(Builtin.zeroCells (Value.int .i64 0).cells (L-i)).toList=List.replicate (L-i) (Value.int .i64 0):=by
  show(Builtin.zeroCells #[Value.int .i64 0] (L-i)).toList=_;simp[Builtin.zeroCells];apply List.ext_getElem;·simp
  ·intro i h1 h2;simp[Nat.mod_one]
 obtain⟨_,us,_,_,us2,us3,_⟩:=hT.info e1;obtain rfl:=aR us3;have hst:=run_storeCells_at Tryz.prog b i e' (List.replicate (L-i) (Value.int .i64 0)) 0 cur w g3 (by rw[GE,g5];omega) (fun v hv=>by rw[IE hv];rfl);simp only[HR,GE] at hst;have hcl:(Builtin.clear_ #[38] ty4 #[.slice (some ⟨b,i,none⟩) (L-i) (cap-i)]).run Tryz.prog w=.ok (.tuple #[]) (w.setRow b (cur.toList.take i++List.replicate (L-i) (Value.int .i64 0)++cur.toList.drop (i+(L-i))).toArray):=by
  obtain⟨m,hm⟩:∃m,L-i=m+1:=⟨L-i-1,JQ⟩;rw[hm] at hst hzc |-
  simp[Builtin.clear_,GP us2,hz,hzc,hst]
 have hex4:(execOp (ac.put (some d38) (.slice (some ⟨b,i,none⟩) (L-i) (cap-i))).eval ⟨none,.call { callee:=.builtin .clear,args:=#[.tmp d38],argTypes:=#[38] },ty4,pos4,af4,none⟩).run Tryz.prog w=.ok (.value (.tuple #[])) (w.setRow b (cur.toList.take i++List.replicate (L-i) (Value.int .i64 0)++cur.toList.drop (i+(L-i))).toArray):=by simp[execOp,resolve,invoke,builtin,c3,hcl]
 unfold wpList;rw[Gw (by simp[Region.wanted])];refine .inl ?_;unfold Oper.wp;rw[hex4];show wpList Tryz.prog ops _ _ ((ac.put (some d38) (.slice (some ⟨b,i,none⟩) (L-i) (cap-i))).put none (.tuple #[])) _;have hrow:=Jr w b cur (cur.toList.take i++List.replicate (L-i) (Value.int .i64 0)++cur.toList.drop (i+(L-i))).toArray e' _ g3;have hko:=fun j hj=>Iw w b j (cur.toList.take i++List.replicate (L-i) (Value.int .i64 0)++cur.toList.drop (i+(L-i))).toArray hj;have hg:=cq (b:=b) (hs.mem.xl h b (.root g1 rfl)) (.root g1 rfl) (w:=w) (w':=w.setRow b (cur.toList.take i++List.replicate (L-i) (Value.int .i64 0)++cur.toList.drop (i+(L-i))).toArray) rfl rfl rfl JX hko;have hsz2:(w.setRow b (cur.toList.take i++List.replicate (L-i) (Value.int .i64 0)++cur.toList.drop (i+(L-i))).toArray).heap.size=w.heap.size:=JX;generalize w.setRow b (cur.toList.take i++List.replicate (L-i) (Value.int .i64 0)++cur.toList.drop (i+(L-i))).toArray=w2 at *
 have hNl:(l.take i++List.replicate (L-i) (0:Int)++l.drop L).length=l.length:=by simp;omega
 have hmem:=dD hs.mem g1 (.inl rfl) hg hsz2 hko (bl:=.vec e' 1 B ((l.take i++List.replicate (L-i) (0:Int)++l.drop L).map irow)) ⟨by rw[ad,hNl,<-hml];exact hB,hn0,.inr ⟨b,cap,_,rfl,hrow,by rw[ad,hNl,<-hml];exact g4,g4',?_,fun r hr=>?_,fun j t hj=>?_⟩⟩
 ·refine⟨.normal,_,g,⟨⟨tl,(h,some (.vec e' 1 B ((l.take i++List.replicate (L-i) (0:Int)++l.drop L).map irow)))::bl,nx⟩,rfl,hQ⟩,⟨by simp[Act.put,hsz],(bc ..).trans ((bc ..).trans hdef),fun j a hj=>?_,?_,hs.un,hs.grow.trans hg⟩,?_⟩
  ·have hj:lk tl j=some a:=hj;obtain⟨q1,q2⟩:=hs.fr j a hj;refine⟨q1,?_⟩;have z1:j≠d36:=fun e=>by rw[e,h36] at hj;cases hj
   have z2:j≠d37:=fun e=>by rw[e,h37] at hj;cases hj
   have z3:j≠d38:=fun e=>by rw[e,h38] at hj;cases hj
   show Rep g w2 ((ac.tmps.setIfInBounds d38 _).getD j undef) a;rw[bI hd38',GN z3,hfr j z1 z2];exact q2.grow hg
  ·have:(LS.mk tl ((h,some (.vec e' 1 B ((l.take i++List.replicate (L-i) (0:Int)++l.drop L).map irow)))::bl) nx).st.m=bL (LS.mk tl bl nx).st.m [(h,some (.vec e' 1 B ((l.take i++List.replicate (L-i) (0:Int)++l.drop L).map irow)))]:=by
    funext q;show lkM (_::bl) q=bL (lkM bl) _ q;unfold lkM bL;show(bif Nat.beq h q then some _ else lk bl q).join=match(bif Nat.beq h q then some _ else none:Option (Option Blk)) with|some x=>x|none=>(lk bl q).join
    cases Nat.beq h q<;>rfl
   rw[this];exact hmem
  ·trivial
 ·simp only[HV,uR,DK,Hu,BQ,GE];omega
 ·obtain⟨x,_,rfl⟩:=GM.1 hr;rfl
 ·rw[mU,z5,z9] at hj;obtain⟨x,hx,rfl⟩:=hj;have old:∀(q:Nat) y,l[q]?=some y->∃c,cur[q]?=some c/\RepT (okB g w2) w2 c (ti y):=fun q y hy=>by
   obtain⟨c,w1,w2⟩:=g7 q (ti y) (by rw[mU,z5,hy];rfl);exact⟨c,w1,w2.grow hg⟩
  have ht:(cur.toList.take i).length=i:=by rw[DK,BQ,g5];omega
  have hlt:(l.take i).length=i:=by rw[DK];omega
  simp only[He,GH] at hx |-
  by_cases hji:j<i
  ·rw[v9 JQ,Ba,Gw hji] at hx;obtain⟨c,w1,w2⟩:=old j x hx;refine⟨c,?_,w2⟩;rw[v9 JQ,Ba,Gw hji,Gx];exact w1
  ·rw[wS JQ,hlt] at hx;rw[wS JQ,ht];by_cases hjL:j<L
   ·rw[v9 (by rw[GE];omega),G1,Gw JQ] at hx;cases hx;exact⟨_,by rw[v9 (by rw[GE];omega),G1,Gw JQ],.v ⟨JS,JS⟩⟩
   ·rw[wS (by rw[GE];omega),GE,GA,(JQ:L+(j-i-(L-i))=j)] at hx;rw[wS (by rw[GE];omega),GE,GA,(JQ:i+(L-i)+(j-i-(L-i))=j),Gx];exact old j x hx
end Go.Proofs.YtapmdfcmpglieaaGreatDoor.am
set_option maxRecDepth 100000
set_option maxHeartbeats 4000000
namespace Go.Proofs.YtapmdfcmpglieaaGreatDoor.am
open Go Go.Proofs Go.RowKit
attribute [local irreducible] aj
theorem oc(y n:Int):(y==n)=(n==y):=by
 by_cases e:y=n;·subst e;rfl
 ·rw[GX.2 e,GX.2 (fun h=>e h.symm)]
def posI:List Int->Int->Nat->Int
 |[],_,_=>-1
 |y::r,x,i=>bif x==y then(i:Int) else posI r x (i+1)
theorem vP{l:List Int}{x y:Int}{i:Nat}(h:l[i]?=some y):posI (l.drop i) x i=bif x==y then(i:Int) else posI (l.drop (i+1)) x (i+1):=by rw[aG h];rfl
theorem ri{l:List Int}{x:Int}{i:Nat}(h:l.length<=i):posI (l.drop i) x i=-1:=by rw[GK h];rfl
theorem uB(x:Int):∀(l:List Int)(i:Nat),decide (posI l x i>=0)=l.contains x
 |[],_=>rfl
 |y::r,i=>by
  unfold posI;rw[IM];cases x==y with
  |true=>rw[r7,HJ];exact GC (HF _)
  |false=>rw[lh,GU];exact uB x r (i+1)
theorem Cs(l:List Int)(x:Int)(hl:l.length<=8192):K 125 [.tr (az l),.tr (ti x)] [] (.ret (.tr (ti (posI l x 0)))) []:=by
 obtain⟨R,hR⟩:∃R,posI l x 0=R:=⟨_,rfl⟩;rw[hR];have hol:(l.map irow).length=l.length:=ad ..;refine Ctr.of hT hmix Tryz.func125 rfl (fun _ _=>JR) rfl fun hok=>?_;clear hok;conv=>whnf
 refine aq.by (fun i:Nat=>⟨[(0,.tr (az l)),(1,.tr (ti x)),(7,.tr (ti l.length)),(8,.tr (ti i))],[],11⟩) (fun i=>i<=l.length/\posI (l.drop i) x i=R) (fun i=>l.length-i) 0 [] [] (Sub.mk' rfl ⟨JZ,JZ,.inl (by rw[hol]),aut⟩ trivial rfl rfl) ⟨x5 _,hR⟩ ?_;clear hR;rintro i ⟨hi,hR⟩ -
 conv=>whnf
 cases h1:decide ((i:Int)<(l.length:Int)) with
 |false=>
  have h1':=ud h1;rw[ri JQ] at hR;subst hR;conv=>whnf
  refine exT ?_;conv=>whnf
  exact aut
 |true=>
 have h1':i<l.length:=by have:=of_decide_eq_true h1;omega
 have hwi:IntKind.i64.wrap ((i:Int)+1)=((i+1:Nat):Int):=by rw[w64 JQ JQ];omega
 obtain⟨y,hy⟩:∃y,l[i]?=some y:=⟨_,ab h1'⟩;rw[vP hy] at hR;conv=>whnf
 refine ixM hy ?_;conv=>whnf
 cases h2:(x==y) with
 |true=>
  rw[h2,r7] at hR;subst hR;conv=>whnf
  exact aut
 |false=>
 rw[h2,lh] at hR;conv=>whnf
 rw[hwi];exact⟨i+1,[],[],Sub.mk' rfl aut trivial rfl rfl,⟨h1',hR⟩,by show l.length-(i+1)<l.length-i;omega⟩
theorem gY(l:List Int)(x:Int)(hl:l.length<=8192):K 57 [.tr (az l),.tr (ti x)] [] (.ret (.tr (tb (l.contains x)))) []:=by
 have hk:=Cs l x hl;rw[<-uB x l 0];refine Ctr.of hT hmix Tryz.func57 rfl (fun _ _=>JR) rfl fun hok=>?_;clear hok;conv=>whnf
 refine aa.pure _ (hk) rfl rfl fun _=>?_;conv=>whnf
 exact aut
abbrev ncB(n:Int):Blk:=.cells 3 [.tr (ti n)]
theorem kJ(k n:Int):K 61 [.tr (ti k),.ptr 0 0] [ncB n] (.ret (.tr (tb (k==n)))) [some (ncB n)]:=by
 refine Ctr.of hT hmix Tryz.func61 rfl (fun _ _=>JR) rfl fun hok=>?_;clear hok;conv=>whnf
 exact aut
theorem wd(l:List Int)(n:Int)(hl:l.length<=8192):K 126 [.tr (az l),.fn 61 [.ptr 0 0]] [ncB n] (.ret (.tr (ti (posI l n 0)))) [some (ncB n)]:=by
 obtain⟨R,hR⟩:∃R,posI l n 0=R:=⟨_,rfl⟩;rw[hR];have hol:(l.map irow).length=l.length:=ad ..;refine Ctr.of hT hmix Tryz.func126 rfl (fun _ _=>JR) rfl fun hok=>?_;clear hok;conv=>whnf
 refine aq.by (fun i:Nat=>⟨[(0,.tr (az l)),(1,.fn 61 [.ptr 0 0]),(7,.tr (ti l.length)),(8,.tr (ti i))],[(0,ncB n)],11⟩) (fun i=>i<=l.length/\posI (l.drop i) n i=R) (fun i=>l.length-i) 0 [0] [] (Sub.mk' rfl ⟨JZ,aut,.inl (by rw[hol]),aut⟩ aut rfl rfl) ⟨x5 _,hR⟩ ?_;clear hR;rintro i ⟨hi,hR⟩ -
 conv=>whnf
 cases h1:decide ((i:Int)<(l.length:Int)) with
 |false=>
  have h1':=ud h1;rw[ri JQ] at hR;subst hR;conv=>whnf
  refine exT ?_;conv=>whnf
  exact aut
 |true=>
 have h1':i<l.length:=by have:=of_decide_eq_true h1;omega
 have hwi:IntKind.i64.wrap ((i:Int)+1)=((i+1:Nat):Int):=by rw[w64 JQ JQ];omega
 obtain⟨y,hy⟩:∃y,l[i]?=some y:=⟨_,ab h1'⟩;rw[vP hy] at hR;have hc:(y==n)=(n==y):=oc y n;have hk:=kJ y n;rw[hc] at hk;conv=>whnf
 refine ixM hy ?_;conv=>whnf
 refine aa.au [0] [] (hk) ?_;intro _;conv=>whnf
 cases h2:(n==y) with
 |true=>
  rw[h2,r7] at hR;subst hR;conv=>whnf
  exact aut
 |false=>
 rw[h2,lh] at hR;conv=>whnf
 rw[hwi];exact⟨i+1,[0],[],Sub.au,⟨h1',hR⟩,by show l.length-(i+1)<l.length-i;omega⟩
def delI(l:List Int)(n:Int):List Int:=l.filter fun k=>!(k==n)
structure DfI(l:List Int)(n:Int)(C:List Int)(i j:Nat):Prop where
 len:C.length=l.length
 lt:i<j
 le:j<=l.length
 kept:C.take i=delI (l.take j) n
 rest:C.drop j=l.drop j
theorem posI_spec(n:Int):∀(l:List Int)(i:Nat),(posI l n i=-1/\∀y∈l,(y==n)=false)\/∃k,k<l.length/\posI l n i=((i+k:Nat):Int)/\l[k]?=some n/\∀y∈l.take k,(y==n)=false
 |[],i=>.inl ⟨rfl,fun y h=>by cases h⟩
 |y::r,i=>by
  unfold posI;cases h:(n==y) with
  |true=>
   have e:n=y:=eq_of_beq h;exact .inr ⟨0,JX,by rw[r7,HR],by rw[e];rfl,fun z hz=>by simp at hz⟩
  |false=>
   rw[lh];have h':(y==n)=false:=by rw[oc];exact h
   rcases posI_spec n r (i+1) with⟨q1,q2⟩|⟨k,q1,q2,q3,q4⟩
   ·exact .inl ⟨q1,fun z hz=>by rcases F5.1 hz with e|hz;(rw[e];exact h');exact q2 z hz⟩
   ·refine .inr ⟨k+1,by rw[E0];omega,by rw[q2];congr 1;omega,by simpa using q3,fun z hz=>?_⟩;rw[IA] at hz;rcases F5.1 hz with e|hz
    ·rw[e];exact h'
    ·exact q4 z hz
theorem rC{l:List Int}{n:Int}(h:∀y∈l,(y==n)=false):delI l n=l:=by unfold delI;rw[IC];intro y hy;rw[h y hy];rfl
theorem DfI.start{l:List Int}{n:Int}{k:Nat}(h1:k<l.length)(h3:l[k]?=some n)(h4:∀y∈l.take k,(y==n)=false):DfI l n l k (k+1):=by refine⟨rfl,Hh _,h1,?_,rfl⟩;rw[aN h3];unfold delI;rw[Ho];have:=rC h4;unfold delI at this;rw[this];simp
theorem DfI.at_{l:List Int}{n:Int}{C:List Int}{i j:Nat}(h:DfI l n C i j):C[j]?=l[j]? :=by have:=E8 (fun x=>x[0]?) h.rest;simpa using this
theorem DfI.skip{l:List Int}{n:Int}{C:List Int}{i j:Nat}(h:DfI l n C i j)(hj:l[j]?=some n):DfI l n C i (j+1):=by
 have hjl:j<l.length:=(a9.1 hj).1;refine⟨h.len,Nat.lt_succ_of_lt h.lt,hjl,?_,?_⟩;·rw[aN hj,h.kept];unfold delI;rw[Ho];simp
 ·rw[<-Jm,<-Jm,h.rest]
theorem DfI.keep{l:List Int}{n y:Int}{C:List Int}{i j:Nat}(h:DfI l n C i j)(hj:l[j]?=some y)(hy:(y==n)=false):DfI l n (C.set i y) (i+1) (j+1):=by
 have hjl:j<l.length:=(a9.1 hj).1;have hij:=h.lt;have hl:=h.len;refine⟨by rw[G0];exact hl,JQ,hjl,?_,?_⟩
 ·rw[aN hj];unfold delI;rw[Ho];have hk:=h.kept;unfold delI at hk;rw[<-hk];have:(C.set i y).take (i+1)=C.take i++[y]:=by
   rw[Hx,GD JQ,JU (t9 _)];rfl
  rw[this];simp[hy]
 ·rw[Je JQ,<-Jm,<-Jm,h.rest]
theorem yV(l:List Int)(n:Int):(delI l n).length<=l.length:=HO ..
theorem CQ(l:List Int)(n:Int)(hl:l.length<=8192):K 60 [.sl 0 l.length,.fn 61 [.ptr 1 0]] [ivB l,ncB n] (.ret (.tr (az (delI l n)))) [none,some (ncB n)]:=by
 have hix:=wd l n hl;have hsp:=posI_spec n l 0;have hk1:=fun k=>kJ k n;generalize posI l n 0=P at hix hsp;have hol:(l.map irow).length=l.length:=ad ..;refine Ctr.mv [2000011] [2,1] 3 hT hmix Tryz.func60 rfl (fun _ _=>JR) rfl (fun hok=>?_);clear hok;conv=>whnf
 refine aa.au [1] [2] hix ?_ (h5:=⟨⟨rfl,Ee hol.symm,E8 (Tr.lst 1 8) (vG (Ee hol)).symm⟩,aut,J0⟩);intro _;conv=>whnf
 rcases hsp with⟨rfl,hall⟩|⟨k,hkl,rfl,hkn,hkp⟩
 ·rw[rC hall];conv=>whnf
  exact⟨[0,1],rfl,rfl,⟨rfl,Ee hol.symm,E8 (Tr.lst 1 8) (vG (Ee hol)).symm⟩,aut,J0⟩
 rw[show(((0+k:Nat):Int) == -1)=false from GX.2 JQ];have hwk:IntKind.i64.wrap (((0+k:Nat):Int)+1)=((k+1:Nat):Int):=by rw[w64 JQ JQ];omega
 have hst:=DfI.start hkl hkn hkp;conv=>whnf
 rw[hwk];refine aq.by (fun x:Nat×Nat×List Int=>⟨[(0,.sl 2 l.length),(1,.fn 61 [.ptr 1 0]),(5,.tr (ti x.1)),(6,.tr (ti x.2.1))],[(1,ncB n),(2,ivB x.2.2)],11⟩) (fun x=>DfI l n x.2.2 x.1 x.2.1) (fun x=>l.length-x.2.1) (k,k+1,l) [0,1,2] [] (Sub.mk' rfl ⟨JY,aut,.inl (by rw[E7]),aut⟩ aut rfl rfl) hst ?_;clear hst hkn hkp;rintro⟨i,j,C⟩ hI -
 have hI:DfI l n C i j:=hI;have hij:=hI.lt;have hjl:=hI.le;have hC:=hI.len;have hoC:(C.map irow).length=C.length:=ad ..;conv=>whnf
 cases h1:decide ((j:Int)<(l.length:Int)) with
 |true=>
  have h1':j<l.length:=by have:=of_decide_eq_true h1;omega
  have hwj:IntKind.i64.wrap ((j:Int)+1)=((j+1:Nat):Int):=by rw[w64 JQ JQ];omega
  have hwi:IntKind.i64.wrap ((i:Int)+1)=((i+1:Nat):Int):=by rw[w64 JQ JQ];omega
  obtain⟨y,hy⟩:∃y,l[j]?=some y:=⟨_,ab h1'⟩;obtain⟨z,hz⟩:∃z,C[i]?=some z:=⟨_,ab JQ⟩;have hCy:C[j]?=some y:=hI.at_.trans hy;have hk:=hk1 y;conv=>whnf
  refine⟨rfl,(JQ:(0:Int)<=(j:Int)),(JQ:(j:Int)<(l.length:Int)),?_⟩;conv=>whnf
  refine ixV hCy ?_;refine⟨(JS:0<1),fun t ht=>?_⟩;cases ht;conv=>whnf
  refine aa.au [1] [] (hk) ?_;intro _;conv=>whnf
  cases h2:(y==n) with
  |true=>
   have e:y=n:=eq_of_beq h2;conv=>whnf
   rw[hwj];exact⟨(i,j+1,C),[0,1,2],[],Sub.au,hI.skip (by rw[hy,e]),by show l.length-(j+1)<l.length-j;omega⟩
  |false=>
  conv=>whnf
  refine⟨rfl,(JQ:(0:Int)<=(i:Int)),(JQ:(i:Int)<(l.length:Int)),?_⟩;conv=>whnf
  refine ixS hz ?_;refine⟨(JS:0+1<=1),?_⟩;conv=>whnf
  rw[hwi,hwj];exact⟨(i+1,j+1,C.set i y),[0,1,2],[],Sub.mk' rfl aut ⟨aut,⟨rfl,rfl,rfl,by show(C.map irow).set i _=(C.set i y).map irow;rw[Hp];rfl⟩,J0⟩ rfl rfl,hI.keep hy h2,by show l.length-(j+1)<l.length-j;omega⟩
 |false=>
 have h1':j=l.length:=by have:=ud h1;omega
 subst h1';have hke:=hI.kept;rw[Hi] at hke;conv=>whnf
 refine exT ?_;conv=>whnf
 refine na (d0:=0) (d1:=5) (h:=2) (L:=l.length) (i:=i) (l:=C) rfl rfl rfl rfl rfl rfl rfl rfl rfl hij (Ee hC.symm) ?_;conv=>whnf
 refine⟨(JQ:(0:Int)<=(i:Int)),(JQ:(i:Int)<=(l.length:Int)),?_⟩;conv=>whnf
 have hlr:(C.take i++List.replicate (l.length-i) (0:Int)++C.drop l.length).length=l.length:=by simp;omega
 have htk:(C.take i++List.replicate (l.length-i) (0:Int)++C.drop l.length).take i=C.take i:=by rw[GH,HU (by rw[DK];omega),List.take_take,Nat.min_self]
 exact⟨[0,1],rfl,rfl,⟨rfl,by show i<=((C.take i++List.replicate (l.length-i) (0:Int)++C.drop l.length).map irow).length;rw[ad,hlr];omega,by show az (delI l n)=Tr.lst 1 8 (((C.take i++List.replicate (l.length-i) (0:Int)++C.drop l.length).map irow).take i);rw[<-H7,htk,hke]⟩,aut,J0⟩
theorem kS(l:List Int)(n:Int)(hl:l.length<=8192):K 30 [.tr (az l),.tr (ti n)] [] (.ret (.tr (az (delI l n)))) []:=by
 have h1:=me l JQ;have h2:=CQ l n hl;generalize delI l n=R at *
 refine Ctr.of hT hmix Tryz.func30 rfl (fun _ _=>JR) rfl fun hok=>?_;clear hok;conv=>whnf
 refine aa.new [] [] _ _ _ _ (h1) rfl rfl rfl rfl aut aut rfl rfl ?_;conv=>whnf
 intro _;conv=>whnf
 refine aa.au [3,0] [] (h2) ?_;intro _;conv=>whnf
 exact aut
end Go.Proofs.YtapmdfcmpglieaaGreatDoor.am
set_option maxRecDepth 100000
set_option maxHeartbeats 4000000
namespace Go.Proofs.YtapmdfcmpglieaaGreatDoor.am
open Go Go.Proofs Go.RowKit
attribute [local irreducible] aj
noncomputable def tA(u:Un)(g:Gr)(fs:List Int):List Bool:=openL (dfl g) (tE (madeS u g fs)) (sv (madeS u g fs)) (· ∈ storesL 0 (madeS u g fs)) g.nodes.length
theorem ky:∀(l:List Int)(b:List Mk),(l.foldl lR b).length=b.length:=fun l=>by
 induction l with
 |nil=>intro b;rfl
 |cons y l ih=>intro b;exact(ih _).trans (fenS_len b y)
theorem cH(u:Un)(g:Gr)(fs:List Int):(madeS u g fs).length=g.nodes.length:=by unfold madeS;rw[ky];simp
theorem ia:∀(l:List Mk)(i:Nat),∀x∈storesL i l,i<=x/\x<i+l.length
 |[],i,x,h=>by cases h
 |m::r,i,x,h=>by
  have ih:=ia r (i+1) x;unfold storesL at h;rw[E0];cases hm:m.s with
  |true=>
   rw[hm,r7] at h;rcases F5.1 h with e|h
   ·omega
   ·have:=ih h;omega
  |false=>
   rw[hm,lh] at h;have:=ih h;omega
theorem fO:∀(l:List Mk)(i:Nat),(storesL i l).length<=l.length
 |[],i=>x5 _
 |m::r,i=>by
  have ih:=fO r (i+1);unfold storesL;rw[E0];cases m.s with
  |true=>rw[r7,E0];omega
  |false=>rw[lh];omega
theorem Srt.nil(N:Nat):Srt N []:=fun i x h=>by cases h
theorem Ea(u:Un)(hu:xX u)(t:Nat)(g:Gr)(hg:u.graphs[t]?=some g)(fs:List Int)(hs:Srt g.nodes.length fs):K 46 [u.av,.tr (ti t),.tr (az fs)] [] (.ret (.tup [.tr (bh (tA u g fs)),.tr (ti 0)])) []:=by
 have htl:t<u.graphs.length:=(a9.1 hg).1;have hb:=qo u t hu.lk.chk JQ JQ;have hW:=aT (hu.lk.whole g (i3 hg));have hr:=qD g fs hW.most hs;have hm:=cp.one (uL u hu t g hg fs hs);have hML:=cH u g fs;have hst:=qC g (madeS u g fs) (by rw[hML];exact hW.most);have hsp:=nW g (madeS u g fs) (storesL 0 (madeS u g fs)) hW hML (fun x hx=>by have:=ia _ _ x hx;omega) (GB (fO _ _) (by rw[hML];exact hW.most));change K _ _ _ (.ret (.tr (bh (tA u g fs)))) _ at hsp;rw[hML] at hst hsp;generalize tA u g fs=R at *
 have hgl:=hu.lk.few;generalize madeS u g fs=M at *
 generalize storesL 0 M=ST at *
 clear hu;obtain⟨shared,lks,graphs⟩:=u;dsimp only at hg htl hgl;have hoG:(graphs.map Gr.cells).length=graphs.length:=ad ..;refine Ctr.of hT hmix Tryz.func46 rfl (fun _ _=>JR) rfl fun hok=>?_;clear hok;conv=>whnf
 refine aa.au [] [] (hb) ?_;intro _;conv=>whnf
 refine ixM hg ?_;obtain⟨name,locals,slots,nodes⟩:=g;conv=>whnf
 refine aa.au [] [] (hr) ?_;intro _;conv=>whnf
 refine aa.new [] [] _ _ _ _ (hm) rfl rfl rfl rfl aut aut rfl rfl ?_;conv=>whnf
 intro _;conv=>whnf
 refine aa.new [20,1048596] [] _ _ _ _ (hst) rfl rfl rfl rfl aut aut rfl rfl ?_;conv=>whnf
 intro _;conv=>whnf
 refine aa.au [20,1048596,24] [] (hsp) ?_;intro _;conv=>whnf
 exact aut
def loadsL:Nat->List Bool->List Mk->List Int
 |i,b::o,m::r=>bif b&&m.l then(i:Int)::loadsL (i+1) o r else loadsL (i+1) o r
 |_,_,_=>[]
theorem vY{o:List Bool}{l:List Mk}{i:Nat}{b:Bool}{m:Mk}(h1:o[i]?=some b)(h2:l[i]?=some m):loadsL i (o.drop i) (l.drop i)=bif b&&m.l then(i:Int)::loadsL (i+1) (o.drop (i+1)) (l.drop (i+1)) else loadsL (i+1) (o.drop (i+1)) (l.drop (i+1)):=by rw[aG h1,aG h2];rfl
theorem si{o:List Bool}{l:List Mk}{i:Nat}(h:l.length<=i):loadsL i (o.drop i) (l.drop i)=[]:=by rw[GK h];cases o.drop i<;>rfl
noncomputable def loadsS(u:Un)(g:Gr)(fs:List Int):List Int:=loadsL 0 (tA u g fs) (madeS u g [])
theorem Ap(u:Un)(g:Gr)(fs:List Int):(tA u g fs).length=g.nodes.length:=gB
theorem pr(u:Un)(hu:xX u)(t:Nat)(g:Gr)(hg:u.graphs[t]?=some g)(fs:List Int)(hs:Srt g.nodes.length fs):K 18 [u.av,.tr (ti t),.tr (az fs)] [] (.ret (.tup [.tr (az (loadsS u g fs)),.tr (ti 0)])) []:=by
 have htl:t<u.graphs.length:=(a9.1 hg).1;have hgl:=hu.lk.few;have hW:=aT (hu.lk.whole g (i3 hg));have hmo:=hW.most;have ho:=Ea u hu t g hg fs hs;have hm:=cp.one (uL u hu t g hg [] (Srt.nil _));have hML:=cH u g [];have hOL:=Ap u g fs;obtain⟨R,hR⟩:∃R,loadsS u g fs=R:=⟨_,rfl⟩;rw[hR];unfold loadsS at hR;generalize tA u g fs=O at *
 generalize madeS u g []=M at *
 clear hu;obtain⟨shared,lks,graphs⟩:=u;obtain⟨name,locals,slots,nodes⟩:=g;dsimp only at hg htl hgl hML hOL hmo;have hoO:(O.map brow).length=O.length:=ad ..;have hoM:(M.map Mk.cells).length=M.length:=ad ..;refine Ctr.of hT hmix Tryz.func18 rfl (fun _ _=>JR) rfl fun hok=>?_;clear hok;conv=>whnf
 refine aa.au [] [] (ho) ?_;intro _;conv=>whnf
 refine aa.new [] [] _ _ _ _ hm rfl rfl rfl rfl aut2 aut rfl rfl ?_;conv=>whnf
 intro _;conv=>whnf
 refine aq.by (fun x:Nat×List Int=>⟨[(8,.tr (bh O)),(10,.sl 1 x.2.length),(28,.sl 0 nodes.length),(29,.tr (ti nodes.length)),(30,.tr (ti x.1))],[(0,mkB M),(1,.vec 3 1 8 (x.2.map irow))],11⟩) (fun x=>x.1<=nodes.length/\x.2.length<=x.1/\x.2++loadsL x.1 (O.drop x.1) (M.drop x.1)=R) (fun x=>nodes.length-x.1) (0,[]) [_] [1] (Sub.mk' rfl ⟨JZ,⟨rfl,rfl,rfl,rfl⟩,JY,JZ,JZ,J0⟩ ⟨⟨rfl,rfl,rfl,rfl⟩,⟨rfl,3,1,8,rfl,JQ⟩,J0⟩ rfl rfl) ⟨x5 _,t9 _,hR⟩ ?_;clear hR;rintro⟨i,out⟩ ⟨hi,ho,hR⟩ -
 dsimp only at hi ho hR;have hoo:(out.map irow).length=out.length:=ad ..;conv=>whnf
 cases h1:decide ((i:Int)<(nodes.length:Int)) with
 |false=>
  have h1':=ud h1;rw[si JQ] at hR
  replace hR:out=R:=by rw[<-hR];exact(G7 _).symm
  subst hR;conv=>whnf
  refine exT ?_;conv=>whnf
  exact⟨⟨⟨rfl,Ee hoo.symm,E8 (Tr.lst 1 8) (vG (Ee hoo)).symm⟩,JZ,J0⟩,J0⟩
 |true=>
 have h1':i<nodes.length:=by have:=of_decide_eq_true h1;omega
 have hwi:IntKind.i64.wrap ((i:Int)+1)=((i+1:Nat):Int):=by rw[w64 JQ JQ];omega
 obtain⟨b,hb⟩:∃b,O[i]?=some b:=⟨_,ab JQ⟩;obtain⟨⟨ms,ml,md,mf⟩,hm⟩:∃m,M[i]?=some m:=⟨_,ab JQ⟩;rw[vY hb hm] at hR;dsimp only at hR;conv=>whnf
 refine⟨rfl,(JQ:(0:Int)<=(i:Int)),(JQ:(i:Int)<(nodes.length:Int)),?_⟩;conv=>whnf
 refine ixV hm ?_;conv=>whnf
 refine⟨(by show 4<=4;decide),?_⟩;conv=>whnf
 refine ixM hb ?_;cases b with
 |false=>
  replace hR:out++loadsL (i+1) (O.drop (i+1)) (M.drop (i+1))=R:=hR
  conv=>whnf
  rw[hwi];exact⟨(i+1,out),[0,1],[],Sub.au,⟨h1',Ju ho,hR⟩,by show nodes.length-(i+1)<nodes.length-i;omega⟩
 |true=>
 cases ml with
 |false=>
  replace hR:out++loadsL (i+1) (O.drop (i+1)) (M.drop (i+1))=R:=hR
  conv=>whnf
  rw[hwi];exact⟨(i+1,out),[0,1],[],Sub.au,⟨h1',Ju ho,hR⟩,by show nodes.length-(i+1)<nodes.length-i;omega⟩
 |true=>
 replace hR:out++(i:Int)::loadsL (i+1) (O.drop (i+1)) (M.drop (i+1))=R:=hR
 conv=>whnf
 refine⟨rfl,rfl,rfl,Ee hoo.symm,by show(out.length+1)*8<=150000000000000;omega,neL rfl,?_⟩;conv=>whnf
 rw[hwi];exact⟨(i+1,out++[(i:Int)]),[0,_],[],Sub.mk' rfl ⟨JZ,⟨rfl,by show out.length+1=(out++[_]).length;rw[uR];rfl⟩,JY,JZ,JZ,J0⟩ ⟨⟨rfl,rfl,rfl,rfl⟩,⟨rfl,rfl,rfl,by show(out.map irow).take out.length++_=(out++[_]).map irow;rw[vG (Ee hoo),FP];rfl⟩,J0⟩ rfl rfl,⟨h1',by show(out++[_]).length<=i+1;rw[uR];exact I5 ho,by show(out++[(i:Int)])++loadsL (i+1) _ _=R;rw[GH];exact hR⟩,by show nodes.length-(i+1)<nodes.length-i;omega⟩
end Go.Proofs.YtapmdfcmpglieaaGreatDoor.am

/- Contracts of sched: a turn of Shrink (the closure), where the steps that are left are one's own. Contracts of sched: Shrink, whose result is its -/
import Derived.Test.YtbflekglkkdipaaGreatDoorW5
import Derived.Test.YtbflekglkkdipaaGreatDoorW10
import Derived.Test.YtbflekglkkdipaaGreatDoorW8
set_option linter.all false
namespace Go.Proofs.YtbflekglkkdipaaGreatDoor.am
open Go Go.Proofs
set_option linter.all false
abbrev leftO (l:List Stp) (h:Nat):Blk := .cells 26 [.sl h l.length]
set_option maxRecDepth 100000 in
set_option maxHeartbeats 2000000 in
theorem s_turnO (o:Ob) (l:List Stp) (p:List Prn) (n:Nat) (h0:(checkO o).1=0) (hn:0<n) (hn1:n≤1048576) (hl:l.length≤1048576):K 16 [.tr (ti n),.ptr 0 0,.ptr 1 0,.ptr 2 0] [leftO l 3,obB o,goalB p,stO l] (.ret (.tr (tb (turnR o p n l).2))) [some (leftO (turnR o p n l).1 4),some (obB o),some (goalB p),none,some (stO (turnR o p n l).1)]:=by
 generalize hR0:turnR o p n l=R
 have hR:turnG o p n (l.length+1) 0 l false=R:=hR0
 clear hR0
 have hpt:=fun L hL=>s_printedN o L h0 hL
 have heq:=fun L=>s_equalP (finL (newM o) L).prints p
 have hEnd:=turnG_end o p n
 have hSucc:=turnG_succ o p n
 have hFu:=fun f g at_ l any=>turnG_fuel o p hn f g at_ l any
 have hSB : ∀ L,showB o L p=decide ((finL (newM o) L).prints=p):=fun L=>rfl
 clear h0
 generalize showB o=SB at hSucc hSB
 generalize turnG o p n=TG at hR hEnd hSucc hFu
 replace heq:=fun L=>(hSB L) ▸ heq L
 clear hSB
 generalize finL (newM o)=FL at hpt heq
 obtain ⟨memory,shared,locks,buffer,cores⟩:=o
 refine Ctr.mv [] [0,1,2,4] 5 hT hmix Tryz.func16 rfl (fun _ _=>by kernel_rfl) rfl (fun hok => ?_)
 clear hok
 conv=>whnf
 refine LoopL.by (fun x:List Stp × Nat × Bool=>⟨[(0,.tr (ti n)),(1,.ptr 0 0),(2,.ptr 1 0),(3,.ptr 2 0),(6,.tr (tb x.2.2)),(7,.tr (ti x.2.1))],[(0,.cells 26 [.sl 4 x.1.length]),(1,.cells 25 [.tr (intsT memory),.tr (ti shared),.tr (ti locks),.tr (ti buffer),.tr (coresT cores)]),(2,.cells 27 [.tr (prT p)]),(4,stO x.1)],10⟩) (fun x=>x.2.1≤2097152∧x.1.length≤1048576∧TG (x.1.length - min x.2.1 x.1.length+1) (min x.2.1 x.1.length) x.1 x.2.2=R) (fun x=>x.1.length - x.2.1) (l,0,false) [0,1,2,3,4] []
  (Sub.mk' rfl ⟨.inl rfl,⟨rfl,rfl⟩,⟨rfl,rfl⟩,⟨rfl,rfl⟩,.inl rfl,.inl rfl,trivial⟩ ⟨⟨rfl,⟨rfl,rfl⟩,trivial⟩,⟨rfl,.inl rfl,.inl rfl,.inl rfl,.inl rfl,.inl rfl,trivial⟩,⟨rfl,.inl rfl,trivial⟩,⟨rfl,rfl,rfl,rfl,.inl rfl⟩,trivial⟩ rfl rfl) ⟨Nat.zero_le _,hl,by show TG (l.length - min 0 l.length+1) (min 0 l.length) l false=R; rw [Nat.zero_min]; exact hR⟩ ?_
 clear hR
 rintro ⟨L,a,any⟩ ⟨ha,hL,hR⟩ -
 simp only at ha hL hR
 have hqm:(L.map Stp.cells).length=L.length:=List.length_map ..
 conv=>whnf
 refine csplit (fun hlt => ?_) (fun hge => ?_)
 ·have hlt:a<L.length:=by have:decide ((a:Int)<(L.length:Int))=true:=hlt; have:=of_decide_eq_true this; omega
  rw [Nat.min_eq_left (Nat.le_of_lt hlt),hSucc,decide_eq_true hlt,cond_true] at hR
  obtain ⟨E,hE⟩ : ∃ E,min (a+n) L.length=E:=⟨_,rfl⟩
  have hE1:a<E∧E≤L.length∧E≤a+n:=by omega
  rw [hE] at hR
  have hw:IntKind.i64.wrap ((a:Int)+(n:Int))=((a+n:Nat):Int):=by rw [w64 (by omega) (by omega)]; omega
  have hmin:min (IntKind.i64.wrap ((a:Int)+(n:Int))) ((L.length:Nat):Int)=(E:Int):=by rw [w64 (by omega) (by omega)]; omega
  have hX:Tr.lst 2 16 ((L.map Stp.cells).take a)=stepsT (L.take a):=by rw [← List.map_take]
  have hY:Tr.lst 2 16 (((L.map Stp.cells).drop E).take (L.length - E))=stepsT (L.drop E):=by rw [← List.map_drop,List.take_of_length_le (by rw [List.length_map,List.length_drop]; exact Nat.le_refl _)]
  have hWl:(L.take a).length+(L.drop E).length≤((L.take a++L.drop E).map Stp.cells).length:=by rw [List.length_map,List.length_append]; exact Nat.le_refl _
  have hWt:stepsT (L.take a++L.drop E) = .lst 2 16 (((L.take a++L.drop E).map Stp.cells).take ((L.take a).length+(L.drop E).length)):=congrArg (Tr.lst 2 16) (List.take_of_length_le (by rw [List.length_map,List.length_append]; exact Nat.le_refl _)).symm
  have hll:(L.take a++L.drop E).length=a+(L.length - E):=by rw [List.length_append,List.length_take,List.length_drop]; omega
  have hcc:=s_concatO (L.take a) (L.drop E) (by rw [← List.length_append,hll]; omega)
  have hpt:=hpt (L.take a++L.drop E) (by omega)
  have heq:=heq (L.take a++L.drop E)
  generalize FL (L.take a++L.drop E)=Q at hpt heq
  generalize SB (L.take a++L.drop E) p=b at heq hR
  conv=>whnf
  refine ⟨(show (0:Int)≤(a:Int) by omega),(show (a:Int)≤(L.length:Int) by omega),?_⟩
  conv=>whnf
  rw [hmin]
  refine ⟨rfl,(show (0:Int)<(E:Int) by omega),(show (E:Int)≤(L.length:Int) by omega),?_⟩
  by_cases hEL:E<L.length
  all_goals first
   | rw [show decide ((E:Int)<((L.length:Nat):Int))=true from decide_eq_true (by omega)]
   | rw [show decide ((E:Int)<((L.length:Nat):Int))=false from decide_eq_false (by omega)]
  ·conv=>whnf
   refine acall.new [] [25,4] _ _ _ _ hcc rfl rfl rfl rfl ⟨⟨rfl,rfl,rfl,rfl,Nat.le_of_ble_eq_true rfl,Nat.le_of_ble_eq_true rfl,⟨rfl,(by show a≤(L.map Stp.cells).length; omega),hX.symm⟩,⟨rfl,rfl,rfl,(by show 1≤E; omega),(by show E+(L.length - E)≤(L.map Stp.cells).length; omega),hY.symm⟩,trivial⟩,trivial⟩ trivial rfl rfl ?_
   conv=>whnf
   refine ⟨by kernel_rfl,fun _ => ?_⟩
   conv=>whnf
   refine acall.new [] [26] _ _ _ _ hpt rfl rfl rfl rfl ⟨⟨.inl rfl,.inl rfl,.inl rfl,.inl rfl,.inl rfl,trivial⟩,⟨rfl,hWl,hWt⟩,trivial⟩ trivial rfl rfl ?_
   conv=>whnf
   refine acall.new [] [30] _ _ _ _ heq rfl rfl rfl rfl ⟨⟨rfl,(by rw [List.length_map]; exact Nat.le_refl _),(by rw [List.take_of_length_le (by simp)])⟩,.inl rfl,trivial⟩ trivial rfl rfl ?_
   conv=>whnf
   refine ⟨by kernel_rfl,fun _ => ?_⟩
   conv=>whnf
   cases b
   ·conv=>whnf
    rw [cond_false] at hR
    rw [hw]
    exact ⟨(L,a+n,any),[0,1,2,3,4],[],Sub.mk' rfl ⟨.inl rfl,⟨rfl,rfl⟩,⟨rfl,rfl⟩,⟨rfl,rfl⟩,.inl rfl,.inl rfl,trivial⟩ ⟨⟨rfl,⟨rfl,rfl⟩,trivial⟩,⟨rfl,.inl rfl,.inl rfl,.inl rfl,.inl rfl,.inl rfl,trivial⟩,⟨rfl,.inl rfl,trivial⟩,⟨rfl,rfl,rfl,rfl,.inl rfl⟩,trivial⟩ rfl rfl,⟨by show a+n≤2097152; omega,hL,by show TG (L.length - min (a+n) L.length+1) (min (a+n) L.length) L any=R; rw [hE,← hR]; exact hFu (L.length - E+1) (L.length - a) E L any (by omega) (by omega)⟩,by show L.length - (a+n)<L.length - a; omega⟩
   ·conv=>whnf
    rw [cond_true] at hR
    exact ⟨(L.take a++L.drop E,a,true),[0,1,2,3,_],[],Sub.mk' rfl ⟨.inl rfl,⟨rfl,rfl⟩,⟨rfl,rfl⟩,⟨rfl,rfl⟩,.inl rfl,.inl rfl,trivial⟩ ⟨⟨rfl,⟨rfl,List.length_append.symm⟩,trivial⟩,⟨rfl,.inl rfl,.inl rfl,.inl rfl,.inl rfl,.inl rfl,trivial⟩,⟨rfl,.inl rfl,trivial⟩,⟨rfl,rfl,rfl,rfl,.inl rfl⟩,trivial⟩ rfl rfl,⟨ha,by show (L.take a++L.drop E).length≤_; rw [hll]; omega,by show TG ((L.take a++L.drop E).length - min a (L.take a++L.drop E).length+1) (min a (L.take a++L.drop E).length) (L.take a++L.drop E) true=R; rw [Nat.min_eq_left (by rw [hll]; omega),← hR]; exact hFu ((L.take a++L.drop E).length - a+1) (L.length - a) a (L.take a++L.drop E) true (by omega) (by rw [hll]; omega)⟩,by show (L.take a++L.drop E).length - a<L.length - a; rw [hll]; omega⟩
  ·have hY0:Tr.lst 2 16 []=stepsT (L.drop E):=by rw [List.drop_of_length_le (by omega)]; rfl
   conv=>whnf
   refine acall.new [] [25,4] _ _ _ _ hcc rfl rfl rfl rfl ⟨⟨rfl,rfl,rfl,rfl,Nat.le_of_ble_eq_true rfl,Nat.le_of_ble_eq_true rfl,⟨rfl,(by show a≤(L.map Stp.cells).length; omega),hX.symm⟩,hY0,trivial⟩,trivial⟩ trivial rfl rfl ?_
   conv=>whnf
   refine ⟨by kernel_rfl,fun _ => ?_⟩
   conv=>whnf
   refine acall.new [] [26] _ _ _ _ hpt rfl rfl rfl rfl ⟨⟨.inl rfl,.inl rfl,.inl rfl,.inl rfl,.inl rfl,trivial⟩,⟨rfl,hWl,hWt⟩,trivial⟩ trivial rfl rfl ?_
   conv=>whnf
   refine acall.new [] [30] _ _ _ _ heq rfl rfl rfl rfl ⟨⟨rfl,(by rw [List.length_map]; exact Nat.le_refl _),(by rw [List.take_of_length_le (by simp)])⟩,.inl rfl,trivial⟩ trivial rfl rfl ?_
   conv=>whnf
   refine ⟨by kernel_rfl,fun _ => ?_⟩
   conv=>whnf
   cases b
   ·conv=>whnf
    rw [cond_false] at hR
    rw [hw]
    exact ⟨(L,a+n,any),[0,1,2,3,4],[],Sub.mk' rfl ⟨.inl rfl,⟨rfl,rfl⟩,⟨rfl,rfl⟩,⟨rfl,rfl⟩,.inl rfl,.inl rfl,trivial⟩ ⟨⟨rfl,⟨rfl,rfl⟩,trivial⟩,⟨rfl,.inl rfl,.inl rfl,.inl rfl,.inl rfl,.inl rfl,trivial⟩,⟨rfl,.inl rfl,trivial⟩,⟨rfl,rfl,rfl,rfl,.inl rfl⟩,trivial⟩ rfl rfl,⟨by show a+n≤2097152; omega,hL,by show TG (L.length - min (a+n) L.length+1) (min (a+n) L.length) L any=R; rw [hE,← hR]; exact hFu (L.length - E+1) (L.length - a) E L any (by omega) (by omega)⟩,by show L.length - (a+n)<L.length - a; omega⟩
   ·conv=>whnf
    rw [cond_true] at hR
    exact ⟨(L.take a++L.drop E,a,true),[0,1,2,3,_],[],Sub.mk' rfl ⟨.inl rfl,⟨rfl,rfl⟩,⟨rfl,rfl⟩,⟨rfl,rfl⟩,.inl rfl,.inl rfl,trivial⟩ ⟨⟨rfl,⟨rfl,List.length_append.symm⟩,trivial⟩,⟨rfl,.inl rfl,.inl rfl,.inl rfl,.inl rfl,.inl rfl,trivial⟩,⟨rfl,.inl rfl,trivial⟩,⟨rfl,rfl,rfl,rfl,.inl rfl⟩,trivial⟩ rfl rfl,⟨ha,by show (L.take a++L.drop E).length≤_; rw [hll]; omega,by show TG ((L.take a++L.drop E).length - min a (L.take a++L.drop E).length+1) (min a (L.take a++L.drop E).length) (L.take a++L.drop E) true=R; rw [Nat.min_eq_left (by rw [hll]; omega),← hR]; exact hFu ((L.take a++L.drop E).length - a+1) (L.length - a) a (L.take a++L.drop E) true (by omega) (by rw [hll]; omega)⟩,by show (L.take a++L.drop E).length - a<L.length - a; rw [hll]; omega⟩
 ·have hge:L.length≤a:=by have:decide ((a:Int)<(L.length:Int))=false:=hge; have:=of_decide_eq_false this; omega
  rw [Nat.min_eq_right hge,hEnd _ _ _ _ (Nat.le_refl _)] at hR
  subst hR
  conv=>whnf
  refine ⟨fun _ => ?_,fun h=>absurd rfl h⟩
  conv=>whnf
  exact ⟨[0,1,2,3,4],rfl,rfl,.inl rfl,⟨rfl,⟨rfl,rfl⟩,trivial⟩,⟨rfl,.inl rfl,.inl rfl,.inl rfl,.inl rfl,.inl rfl,trivial⟩,⟨rfl,.inl rfl,trivial⟩,⟨rfl,rfl,rfl,rfl,.inl rfl⟩,trivial⟩
end Go.Proofs.YtbflekglkkdipaaGreatDoor.am
namespace Go.Proofs.YtbflekglkkdipaaGreatDoor.am
open Go Go.Proofs
set_option linter.all false
set_option maxRecDepth 100000 in
set_option maxHeartbeats 2000000 in
theorem s_shrinkO (o:Ob) (l:List Stp) (p:List Prn) (g1:(checkO o).1=0) (g2:l.length≤1024) (g3:showB o l p=true):K 5 [o.av,.tr (stepsT l),.tr (prT p)] [] (.ret (.tup [.sl 0 (shrL o p l).length,.tr (ti 0)])) [some (stO (shrL o p l))]:=by
 have hc:=k_check o
 have hlm:(l.map Stp.cells).length=l.length:=List.length_map ..
 have hpt:=s_printed o l
 have heq:=s_equalP (finL (newM o) l).prints p
 have hsb:decide ((finL (newM o) l).prints=p)=showB o l p:=rfl
 rw [hsb] at heq
 clear hsb
 generalize (finL (newM o) l).prints=Q at hpt heq
 have hcl:=s_cloneSO l
 have hTn:=fun n L h0 h1 h2 h3=>s_turnO o L p n h0 h1 h2 h3
 have hLen:=fun n L h=>turnR_len o p (n:=n) h L
 have hS:=ShrI.start o p l
 have hMore:=fun R n L h=>ShrI.more (o:=o) (p:=p) (R:=R) (n:=n) (L:=L) h
 have hOne:=fun R n L h=>ShrI.one (o:=o) (p:=p) (R:=R) (n:=n) (L:=L) h
 have hLast:=fun R L h=>ShrI.last (o:=o) (p:=p) (R:=R) (L:=L) h
 have hAgain:=fun R L h=>ShrI.again (o:=o) (p:=p) (R:=R) (L:=L) h
 have hNone:=fun R h=>ShrI.none (o:=o) (p:=p) (R:=R) h
 generalize checkO o=C at hc hpt g1 hTn
 rw [g3] at heq
 generalize shrL o p l=F at hS ⊢
 generalize ShrI o p=SI at hS hMore hOne hLast hAgain hNone
 generalize turnR o p=TR at hTn hLen hMore hLast hAgain
 obtain ⟨memory,shared,locks,buffer,cores⟩:=o
 refine Ctr.new [] hT hmix Tryz.func5 rfl (fun _ _=>by kernel_rfl) rfl fun hok => ?_
 clear hok
 conv=>whnf
 refine acall.pure _ (hc) rfl rfl fun _ => ?_
 conv=>whnf
 have e1:(C.1 != 0)=false:=by rw [g1]; rfl
 refine csplit (fun g=>ctf g e1) (fun _ => ?_)
 conv=>whnf
 have e2:decide (((l.map Stp.cells).length:Int) > 1024)=false:=by rw [hlm]; exact decide_eq_false (by omega)
 rw [e2]
 conv=>whnf
 refine acall.pure _ ((hpt g1 (by omega))) rfl rfl ?_
 conv=>whnf
 refine acall.pure _ (heq) rfl rfl ?_
 conv=>whnf
 refine ⟨by kernel_rfl,fun _ => ?_⟩
 conv=>whnf
 refine acall.new [] [] _ _ _ _ (hcl (by omega)) rfl rfl rfl rfl aut aut rfl rfl fun _ => ?_
 conv=>whnf
 have hq0:=quo2 l.length (by omega)
 refine ⟨by decide,?_⟩
 conv=>whnf
 rw [hq0]
 refine LoopL.by (fun x:List Stp × Nat=>⟨[(3,.ptr 0 0),(5,.ptr 1 0),(11,.ptr 2 0),(12,.fn 16 [.ptr 2 0,.ptr 0 0,.ptr 1 0]),(13,.tr (ti x.2))],[(0,.cells 25 [.tr (intsT memory),.tr (ti shared),.tr (ti locks),.tr (ti buffer),.tr (coresT cores)]),(1,.cells 27 [.tr (prT p)]),(2,leftO x.1 3),(3,stO x.1)],10⟩) (fun x=>x.1.length≤1024∧x.2≤1024∧SI F x.2 x.1) (fun x=>x.2) (l,l.length / 2) [0,1,26,25] []
  (Sub.mk' rfl ⟨⟨rfl,rfl⟩,⟨rfl,rfl⟩,⟨rfl,rfl⟩,⟨rfl,⟨rfl,rfl⟩,⟨rfl,rfl⟩,⟨rfl,rfl⟩,trivial⟩,.inl rfl,trivial⟩ ⟨⟨rfl,.inl rfl,.inl rfl,.inl rfl,.inl rfl,.inl rfl,trivial⟩,⟨rfl,.inl rfl,trivial⟩,⟨rfl,⟨rfl,rfl⟩,trivial⟩,⟨rfl,rfl,rfl,rfl,.inl rfl⟩,trivial⟩ rfl rfl) ⟨g2,by show l.length / 2≤1024; omega,hS⟩ ?_
 clear hS
 rintro ⟨L,n⟩ ⟨hL,hn,hS⟩ -
 simp only at hL hn hS
 conv=>whnf
 refine csplit (fun h => ?_) (fun h => ?_)
 ·have h:1<n:=by have:=of_decide_eq_true h; omega
  have hk:=hTn n L g1 (by omega) (by omega) (by omega)
  have hl2:=(hLen n L (by omega)).1
  have hS2:=hMore F n L hS h
  generalize TR n L=S at hk hl2 hS2
  obtain ⟨L',any⟩:=S
  simp only at hk hl2 hS2
  conv=>whnf
  refine acall.new [2,0,1,3] [] _ _ _ _ (hk) rfl rfl rfl rfl aut aut rfl rfl ?_
  conv=>whnf
  intro _
  conv=>whnf
  refine ⟨by decide,?_⟩
  conv=>whnf
  rw [quo2 n (by omega)]
  exact ⟨(L',n / 2),[0,1,2,14],[],Sub.mk' rfl ⟨⟨rfl,rfl⟩,⟨rfl,rfl⟩,⟨rfl,rfl⟩,⟨rfl,⟨rfl,rfl⟩,⟨rfl,rfl⟩,⟨rfl,rfl⟩,trivial⟩,.inl rfl,trivial⟩ ⟨⟨rfl,.inl rfl,.inl rfl,.inl rfl,.inl rfl,.inl rfl,trivial⟩,⟨rfl,.inl rfl,trivial⟩,⟨rfl,⟨rfl,rfl⟩,trivial⟩,⟨rfl,rfl,rfl,rfl,.inl rfl⟩,trivial⟩ rfl rfl,⟨Nat.le_trans hl2 hL,by show n / 2≤1024; omega,hS2⟩,by show n / 2<n; omega⟩
 ·have h:n≤1:=by have:=of_decide_eq_false h; omega
  have hS:=hOne F n L hS h
  conv=>whnf
  refine ⟨fun _ => ?_,fun h=>absurd rfl h⟩
  conv=>whnf
  refine LoopL.by (fun L:List Stp=>⟨[(3,.ptr 0 0),(5,.ptr 1 0),(11,.ptr 2 0),(12,.fn 16 [.ptr 2 0,.ptr 0 0,.ptr 1 0])],[(0,.cells 25 [.tr (intsT memory),.tr (ti shared),.tr (ti locks),.tr (ti buffer),.tr (coresT cores)]),(1,.cells 27 [.tr (prT p)]),(2,leftO L 3),(3,stO L)],10⟩) (fun L=>L.length≤1024∧SI F 1 L) (fun L=>L.length) L [0,1,2,3] []
   (Sub.mk' rfl ⟨⟨rfl,rfl⟩,⟨rfl,rfl⟩,⟨rfl,rfl⟩,⟨rfl,⟨rfl,rfl⟩,⟨rfl,rfl⟩,⟨rfl,rfl⟩,trivial⟩,trivial⟩ ⟨⟨rfl,.inl rfl,.inl rfl,.inl rfl,.inl rfl,.inl rfl,trivial⟩,⟨rfl,.inl rfl,trivial⟩,⟨rfl,⟨rfl,rfl⟩,trivial⟩,⟨rfl,rfl,rfl,rfl,.inl rfl⟩,trivial⟩ rfl rfl) ⟨hL,hS⟩ ?_
  clear hS hL hn h
  rintro L ⟨hL,hS⟩ -
  have hk:=hTn 1 L g1 (by omega) (by omega) (by omega)
  obtain ⟨hl2,hl3⟩:=hLen 1 L (by omega)
  have hA:=hAgain F L hS
  have hB:=hLast F L hS
  generalize TR 1 L=S at hk hl2 hl3 hA hB
  obtain ⟨L',any⟩:=S
  simp only at hk hl2 hl3 hA hB
  conv=>whnf
  refine acall.new [2,0,1,3] [] _ _ _ _ (hk) rfl rfl rfl rfl aut aut rfl rfl ?_
  conv=>whnf
  intro _
  conv=>whnf
  cases any
  ·have:=hB rfl
   subst this
   conv=>whnf
   refine ⟨fun _ => ?_,fun h=>absurd rfl h⟩
   conv=>whnf
   exact ⟨[11],rfl,rfl,⟨⟨rfl,rfl⟩,.inl rfl,trivial⟩,⟨rfl,rfl,rfl,rfl,.inl rfl⟩,trivial⟩
  ·have hA:=hA rfl
   have hl3:=hl3 rfl
   conv=>whnf
   refine csplit (fun hz => ?_) (fun hz => ?_)
   ·have hz:L'.length=0:=by have:((L'.length:Int) == 0)=true:=hz; have:=eq_of_beq this; omega
    obtain rfl:=List.eq_nil_of_length_eq_zero hz
    obtain rfl:=hNone F hA
    conv=>whnf
    refine ⟨fun h=>absurd h (by decide),fun _ => ?_⟩
    conv=>whnf
    refine ⟨fun _ => ?_,fun h=>absurd rfl h⟩
    conv=>whnf
    exact ⟨[11],rfl,rfl,⟨⟨rfl,rfl⟩,.inl rfl,trivial⟩,⟨rfl,rfl,rfl,rfl,.inl rfl⟩,trivial⟩
   ·conv=>whnf
    exact ⟨L',[0,1,2,11],[],Sub.mk' rfl ⟨⟨rfl,rfl⟩,⟨rfl,rfl⟩,⟨rfl,rfl⟩,⟨rfl,⟨rfl,rfl⟩,⟨rfl,rfl⟩,⟨rfl,rfl⟩,trivial⟩,trivial⟩ ⟨⟨rfl,.inl rfl,.inl rfl,.inl rfl,.inl rfl,.inl rfl,trivial⟩,⟨rfl,.inl rfl,trivial⟩,⟨rfl,⟨rfl,rfl⟩,trivial⟩,⟨rfl,rfl,rfl,rfl,.inl rfl⟩,trivial⟩ rfl rfl,⟨Nat.le_trans hl2 hL,hA⟩,hl3⟩
set_option maxRecDepth 100000 in
set_option maxHeartbeats 2000000 in
theorem s_shrinkN (o:Ob) (l:List Stp) (p:List Prn) (hn:(shrinkR o l p).2≠0):K 5 [o.av,.tr (stepsT l),.tr (prT p)] [] (.ret (.tup [.tr (.v (.slice none 0 0)),.tr (ti (shrinkR o l p).2)])) []:=by
 have hc:=k_check o
 have hlm:(l.map Stp.cells).length=l.length:=List.length_map ..
 have hcs:=shrinkR_cases o l p
 have hpt:=s_printed o l
 have heq:=s_equalP (finL (newM o) l).prints p
 have hsb:decide ((finL (newM o) l).prints=p)=showB o l p:=rfl
 rw [hsb] at heq
 clear hsb
 generalize (finL (newM o) l).prints=Q at hpt heq
 generalize shrinkR o l p=R at hcs hn ⊢
 generalize checkO o=C at hc hpt hcs
 generalize showB o l p=b at heq hcs
 generalize shrL o p l=F at hcs
 obtain ⟨memory,shared,locks,buffer,cores⟩:=o
 refine Ctr.of hT hmix Tryz.func5 rfl (fun _ _=>by kernel_rfl) rfl fun hok => ?_
 clear hok
 conv=>whnf
 refine acall.pure _ (hc) rfl rfl fun _ => ?_
 conv=>whnf
 rcases hcs with ⟨g1,rfl⟩ | ⟨g1,g2,rfl⟩ | ⟨g1,g2,rfl,rfl⟩ | ⟨g1,g2,rfl,rfl⟩
 ·have e1:(C.1 != 0)=true:=by simpa using g1
  refine csplit (fun _ => ?_) (fun g=>ctf e1 g)
  conv=>whnf
  exact ⟨⟨.inl rfl,.inl rfl,trivial⟩,trivial⟩
 all_goals
  have e1:(C.1 != 0)=false:=by rw [g1]; rfl
  refine csplit (fun g=>ctf g e1) (fun _ => ?_)
  conv=>whnf
 ·have e2:decide (((l.map Stp.cells).length:Int) > 1024)=true:=by rw [hlm]; exact decide_eq_true (by omega)
  rw [e2]
  conv=>whnf
  exact ⟨⟨.inl rfl,.inl rfl,trivial⟩,trivial⟩
 all_goals
  have e2:decide (((l.map Stp.cells).length:Int) > 1024)=false:=by rw [hlm]; exact decide_eq_false (by omega)
  rw [e2]
  conv=>whnf
 ·refine acall.pure _ ((hpt g1 (by omega))) rfl rfl ?_
  conv=>whnf
  refine acall.pure _ (heq) rfl rfl ?_
  conv=>whnf
  refine ⟨by kernel_rfl,fun _ => ?_⟩
  conv=>whnf
  exact ⟨⟨.inl rfl,.inl rfl,trivial⟩,trivial⟩
 exact absurd rfl hn
end Go.Proofs.YtbflekglkkdipaaGreatDoor.am
namespace Go.Proofs.YtbflekglkkdipaaGreatDoor.am
open Go Go.Proofs
set_option linter.all false
set_option maxRecDepth 100000 in
theorem s_begun (o:Ob) (most:Nat) (h0:(checkO o).1=0) (hm:most≤1048576):K 30 [o.av,.tr (ti most)] [] (.ret (.tup [.ptr 0 0,.tr (ti 0)])) ((newM o).blks.map some):=by
 have hg:=check_good h0
 have hn1:=k_vnew o h0 hg.mem hg.cores (fun c hc=>(hg.code c hc).2)
 clear h0 hg
 generalize newM o=s0 at hn1 ⊢
 obtain ⟨memory,shared,locks,buffer,cores⟩:=o
 have c4:decide ((most:Int) > 1048576)=false:=decide_eq_false (by omega)
 refine Ctr.new [6] hT hmix Tryz.func30 rfl (fun _ _=>by kernel_rfl) rfl fun hok => ?_
 clear hok
 conv=>whnf
 refine acall.new [] [] _ _ _ _ hn1 rfl rfl rfl rfl aut aut rfl rfl fun _ => ?_
 conv=>whnf
 refine CutL.by (fun _:Unit=>⟨[(6,.ptr 0 0)],[(0,maB s0),(1,csB s0.cores),(2,meB s0.mem),(3,prB s0.prints)],10⟩) (fun _=>True) ?_ ?_
 ·conv=>whnf
  refine csplit (fun g=>ctf g c4) (fun _ => ?_)
  conv=>whnf
  exact ⟨(),[_,_,_,_],[],Sub.mk' rfl ⟨⟨rfl,rfl⟩,trivial⟩ ⟨⟨rfl,.inl rfl,.inl rfl,.inl rfl,.inl rfl,.inl rfl,⟨rfl,rfl⟩,⟨rfl,rfl⟩,⟨rfl,rfl⟩,trivial⟩,⟨rfl,rfl,rfl,rfl,.inl rfl⟩,⟨rfl,rfl,rfl,rfl⟩,⟨rfl,rfl,rfl,rfl⟩,trivial⟩ rfl rfl,trivial⟩
 ·rintro - - -
  conv=>whnf
  exact ⟨[0,1,2,3],rfl,rfl,⟨⟨rfl,rfl⟩,.inl rfl,trivial⟩,⟨rfl,.inl rfl,.inl rfl,.inl rfl,.inl rfl,.inl rfl,⟨rfl,rfl⟩,⟨rfl,rfl⟩,⟨rfl,rfl⟩,trivial⟩,⟨rfl,rfl,rfl,rfl,.inl rfl⟩,⟨rfl,rfl,rfl,rfl⟩,⟨rfl,rfl,rfl,rfl⟩,trivial⟩
abbrev ceB (c:Nat):Blk := .cells 3 [.tr (ti c)]
theorem s_isCore (x:Stp) (c:Nat):K 34 [.agg [.tr (tu x.kind),.tr (ti x.core)],.ptr 0 0] [ceB c] (.ret (.tr (tb (ofCore c x)))) [some (ceB c)]:=by
 have hB:ofCore c x=(x.core == (c:Int)):=rfl
 rw [hB]
 obtain ⟨k,q⟩:=x
 refine Ctr.of hT hmix Tryz.func34 rfl (fun _ _=>by kernel_rfl) rfl fun hok => ?_
 clear hok hB
 conv=>whnf
 exact ⟨.inl rfl,⟨rfl,.inl rfl,trivial⟩,trivial⟩
set_option maxRecDepth 100000 in
theorem s_idxStp (l:List Stp) (c:Nat):K 33 [.tr (stepsT l),.fn 34 [.ptr 0 0]] [ceB c] (.ret (.tr (ti (idxP (ofCore c) l 0)))) [some (ceB c)]:=by
 generalize hR:idxP (ofCore c) l 0=R
 refine Ctr.of hT hmix Tryz.func33 rfl (fun _ _=>by kernel_rfl) rfl fun hok => ?_
 obtain ⟨_,hl63,_⟩:=(hok.slot 0 rfl).tr.lst
 clear hok
 have hlm:(l.map Stp.cells).length=l.length:=List.length_map ..
 rw [hlm] at hl63
 conv=>whnf
 refine LoopL.by (fun i:Nat=>⟨[(0,.tr (stepsT l)),(1,.fn 34 [.ptr 0 0]),(7,.tr (ti (l.length:Int))),(8,.tr (ti i))],[(0,ceB c)],10⟩) (fun i=>i≤l.length∧idxP (ofCore c) (l.drop i) i=R) (fun i=>l.length - i) 0 [0] [] (Sub.mk' rfl ⟨.inl rfl,⟨rfl,⟨rfl,rfl⟩,trivial⟩,.inl (by rw [← hlm]),.inl rfl,trivial⟩ ⟨⟨rfl,.inl rfl,trivial⟩,trivial⟩ rfl rfl) ⟨Nat.zero_le _,hR⟩ ?_
 rintro i ⟨hi,hS⟩ -
 conv=>whnf
 refine csplit (fun hlt => ?_) (fun hge => ?_)
 ·have hlt:i<l.length:=by have:=of_decide_eq_true hlt; omega
  obtain ⟨d,hd⟩ : ∃ d,l[i]? = some d:=⟨l[i],by simp [hlt]⟩
  rw [idxP_drop hd] at hS
  have hct:=s_isCore d c
  replace hS:(bif (ofCore c d) then (i:Int) else idxP (ofCore c) (l.drop (i+1)) (i+1))=R:=hS
  generalize (ofCore c d)=b at hct hS
  conv=>whnf
  refine ⟨rfl,(show (0:Int)≤i by omega),(show (i:Int)<(l.map Stp.cells).length by rw [hlm]; omega),fun row hr => ?_⟩
  obtain ⟨d',hd',rfl⟩:=stp_get hr
  obtain rfl:d=d':=Option.some.inj (hd.symm.trans hd')
  clear hr hd'
  obtain ⟨xs,xl⟩:=d
  conv=>whnf
  refine acall.au [0] [] hct ?_
  intro _
  cases b
  ·have hS:idxP (ofCore c) (l.drop (i+1)) (i+1)=R:=hS
   conv=>whnf
   exact ⟨i+1,[0],[],Sub.mk' rfl ⟨.inl rfl,⟨rfl,⟨rfl,rfl⟩,trivial⟩,.inl rfl,.inl (ti_succ hlt hl63),trivial⟩ ⟨⟨rfl,.inl rfl,trivial⟩,trivial⟩ rfl rfl,⟨hlt,hS⟩,by omega⟩
  ·have hS:(i:Int)=R:=hS
   conv=>whnf
   exact ⟨.inl (congrArg ti hS),⟨rfl,.inl rfl,trivial⟩,trivial⟩
 ·have hge:i=l.length:=by have:=of_decide_eq_false hge; omega
  subst hge
  rw [List.drop_length] at hS
  have hS : -1=R:=hS
  conv=>whnf
  refine ⟨fun _ => ?_,fun h=>absurd rfl h⟩
  conv=>whnf
  exact ⟨.inl (congrArg ti hS),⟨rfl,.inl rfl,trivial⟩,trivial⟩
end Go.Proofs.YtbflekglkkdipaaGreatDoor.am
namespace Go.Proofs.YtbflekglkkdipaaGreatDoor.am
open Go Go.Proofs
set_option linter.all false
def turnsR (o:Ob) (most:Nat):Mst × List Stp:=turnsG most (most+1) (newM o) []
structure TuO (most:Nat) (X:Mst × List Stp) (s:Mst) (out:List Stp) (mv:Bool):Prop where
 inv:VInv s
 prints:s.prints.length≤out.length
 len:out.length≤most
 fin:(bif mv then turnsG most (most+1 - out.length) s out else (s,out))=X
structure TuI (most:Nat) (Y:Mst × List Stp) (C:Nat) (n0:Nat) (s:Mst) (out:List Stp) (k:Nat) (mv:Bool):Prop where
 inv:VInv s
 prints:s.prints.length≤out.length
 len:out.length≤most
 cores:s.cores.length=C
 le:k≤C
 mv:mv=decide (n0<out.length)
 len0:n0≤out.length
 fin:roundT most (C - k) k s out=Y
theorem TuO.go {most:Nat} {X:Mst × List Stp} {s:Mst} {out:List Stp} {mv:Bool} (h:TuO most X s out mv) (hm:mv=true) (hl:out.length<most) {s':Mst} {out':List Stp} {mv':Bool} (h':TuI most (roundT most s.cores.length 0 s out) s.cores.length out.length s' out' s.cores.length mv'):TuO most X s' out' mv':=by
 obtain ⟨i1,i2,i3,i4⟩:=h
 obtain ⟨j1,j2,j3,j4,j5,j6,j7,j8⟩:=h'
 subst hm
 rw [cond_true] at i4
 rw [Nat.sub_self] at j8
 have j8:(s',out')=roundT most s.cores.length 0 s out:=j8
 refine ⟨j1,j2,j3,?_⟩
 have hf:most+1 - out.length=(most - out.length)+1:=by omega
 rw [hf] at i4
 unfold turnsG at i4
 rw [decide_eq_true hl,Bool.true_and,← j8] at i4
 have i4:(bif !endedB s then turnsG most (most - out.length) s' out' else (s,out))=X:=i4
 cases mv' with
 | false =>
  have j6:=of_decide_eq_false j6.symm
  have hst:=round_stuck i1 hl (by rw [← j8]; show out'.length=out.length; omega)
  rw [hst.1] at i4
  have hst:=hst.2
  rw [← j8] at hst
  rw [hst]; exact i4
 | true =>
  have j6:=of_decide_eq_true j6.symm
  cases he:endedB s with
  | true =>
   have hst:=round_ended (most:=most) s.cores.length 0 (out:=out) he
   rw [← j8] at hst
   have hst:=congrArg (fun q:Mst × List Stp=>q.2.length) hst
   have hst:out'.length=out.length:=hst
   omega
  | false =>
   rw [he] at i4
   rw [cond_true,← i4]
   exact turnsG_fuel _ _ j1 j3 (by omega) (by omega)
theorem TuO.out {most:Nat} {X:Mst × List Stp} {s:Mst} {out:List Stp} {mv:Bool} (h:TuO most X s out mv) (hm:(mv && decide (out.length<most))=false):X=(s,out):=by
 obtain ⟨i1,i2,i3,i4⟩:=h
 cases mv with
 | false=>exact i4.symm
 | true =>
  rw [cond_true] at i4
  rw [← i4]
  refine turnsG_end _ ?_
  have hm:decide (out.length<most)=false:=hm
  rw [hm]; rfl
theorem TuI.full {most:Nat} {Y:Mst × List Stp} {C n0:Nat} {s:Mst} {out:List Stp} {k:Nat} {mv:Bool} (h:TuI most Y C n0 s out k mv) (hf : ¬out.length<most):TuI most Y C n0 s out C mv:=by
 obtain ⟨j1,j2,j3,j4,j5,j6,j7,j8⟩:=h
 refine ⟨j1,j2,j3,j4,Nat.le_refl _,j6,j7,?_⟩
 rw [Nat.sub_self]
 rw [← j8]
 cases hq:C - k with
 | zero=>rfl
 | succ q =>
  unfold roundT
  rw [decide_eq_false hf]; rfl
theorem TuI.skip {most:Nat} {Y:Mst × List Stp} {C n0:Nat} {s:Mst} {out:List Stp} {k:Nat} {mv:Bool} (h:TuI most Y C n0 s out k mv) (hk:k<C) (hl:out.length<most) (hn:chooseT s k=none):TuI most Y C n0 s out (k+1) mv:=by
 obtain ⟨j1,j2,j3,j4,j5,j6,j7,j8⟩:=h
 refine ⟨j1,j2,j3,j4,hk,j6,j7,?_⟩
 rw [← j8,show C - k=(C - (k+1))+1 by omega]
 conv=>rhs; unfold roundT
 rw [decide_eq_true hl,hn]; rfl
theorem TuI.step {most:Nat} {Y:Mst × List Stp} {C n0:Nat} {s:Mst} {out:List Stp} {k:Nat} {mv:Bool} (h:TuI most Y C n0 s out k mv) (hk:k<C) (hl:out.length<most) {x:Stp} (hn:chooseT s k=some x):TuI most Y C n0 (stepS s x.kind x.core).1 (out++[x]) (k+1) true:=by
 obtain ⟨j1,j2,j3,j4,j5,j6,j7,j8⟩:=h
 have hpr:=stepS_prints s x.kind x.core
 have hlen:(out++[x]).length=out.length+1:=by rw [List.length_append,List.length_singleton]
 refine ⟨stepS_inv j1 _ _,by omega,by omega,by rw [stepS_len]; exact j4,hk,(decide_eq_true (by omega)).symm,by omega,?_⟩
 rw [← j8,show C - k=(C - (k+1))+1 by omega]
 conv=>rhs; unfold roundT
 rw [decide_eq_true hl,hn]; rfl
set_option maxRecDepth 100000 in
set_option maxHeartbeats 8000000 in
theorem s_turns (o:Ob) (most:Nat) (h0:(checkO o).1=0) (hm:most≤1048576):K 11 [o.av,.tr (ti most)] [] (.ret (.tup [.tr (stepsT (turnsR o most).2),.tr (tb (endedB (turnsR o most).1)),.tr (ti 0)])) []:=by
 have hn1:=s_begun o most h0 hm
 have hV:=VInv.new h0
 have hpr0:(newM o).prints.length=0:=rfl
 generalize hX:turnsR o most=X
 unfold turnsR at hX
 clear h0
 generalize newM o=s0 at hn1 hV hpr0 hX
 obtain ⟨memory,shared,locks,buffer,cores⟩:=o
 refine Ctr.cut [15] hT hmix Tryz.func11 rfl (fun _ _=>by kernel_rfl) rfl fun hok => ?_
 clear hok
 conv=>whnf
 refine acall.new [] [] _ _ _ _ hn1 rfl rfl rfl rfl aut aut rfl rfl fun _ => ?_
 conv=>whnf
 refine LoopL.by (fun x:Mst × List Stp × Bool=>⟨[(1,.tr (ti most)),(7,.ptr 0 0),(9,.sl 4 x.2.1.length),(10,.tr (tb x.2.2))],[(0,maB x.1),(1,csB x.1.cores),(2,meB x.1.mem),(3,prB x.1.prints),(4,stV x.2.1)],10⟩) (fun x=>TuO most X x.1 x.2.1 x.2.2) (fun x=>2*(most - x.2.1.length)+x.2.2.toNat) (s0,[],true) [_,_,_,_] [4]
  (Sub.mk' rfl ⟨.inl rfl,⟨rfl,rfl⟩,⟨rfl,rfl,rfl,rfl⟩,.inl rfl,trivial⟩ ⟨⟨rfl,.inl rfl,.inl rfl,.inl rfl,.inl rfl,.inl rfl,⟨rfl,rfl⟩,⟨rfl,rfl⟩,⟨rfl,rfl⟩,trivial⟩,⟨rfl,rfl,rfl,rfl,.inl rfl⟩,⟨rfl,rfl,rfl,rfl⟩,⟨rfl,rfl,rfl,rfl⟩,⟨rfl,_,_,_,rfl,by decide⟩,trivial⟩ rfl rfl)
  ⟨hV,by show s0.prints.length≤0; omega,Nat.zero_le _,hX⟩ ?_
 clear hX hV hpr0 hn1
 rintro ⟨s,out,mv⟩ hO -
 simp only at hO
 have hlen:=hO.len
 have h16 : ∀ c ∈ s.cores,c.regs.length=16:=fun c hc=>by obtain ⟨k,hk,rfl⟩:=List.mem_iff_getElem.1 hc; obtain ⟨r,hr⟩:=hO.inv.cor (List.getElem?_eq_getElem hk); exact (hO.inv.core k _ r (List.getElem?_eq_getElem hk) hr).regs
 have hend:=s_ended s h16
 cases mv
 ·have hX:=hO.out rfl
  subst hX
  conv=>whnf
  refine ⟨fun _ => ?_,fun h=>absurd rfl h⟩
  conv=>whnf
  refine acall.au [0,1,2,3] [] hend ?_
  intro _
  conv=>whnf
  exact ⟨⟨⟨rfl,by rw [List.length_map]; exact Nat.le_refl _,by rw [List.take_of_length_le (by simp)]⟩,.inl rfl,.inl rfl,trivial⟩,trivial⟩
 conv=>whnf
 refine csplit (fun g1 => ?_) (fun g1 => ?_)
 case refine_2 =>
  have hge : ¬out.length<most:=by have:decide ((out.length:Int)<(most:Int))=false:=g1; have:=of_decide_eq_false this; omega
  have hX:=hO.out (by rw [decide_eq_false hge]; rfl)
  subst hX
  conv=>whnf
  refine ⟨fun _ => ?_,fun h=>absurd rfl h⟩
  conv=>whnf
  refine acall.au [0,1,2,3] [] hend ?_
  intro _
  conv=>whnf
  exact ⟨⟨⟨rfl,by rw [List.length_map]; exact Nat.le_refl _,by rw [List.take_of_length_le (by simp)]⟩,.inl rfl,.inl rfl,trivial⟩,trivial⟩
 have hlt:out.length<most:=by have:decide ((out.length:Int)<(most:Int))=true:=g1; have:=of_decide_eq_true this; omega
 clear hend h16 g1
 have hk8:s.cores.length≤8:=by rw [hO.inv.len]; exact (check_good hO.inv.chk).cores
 have hI0:TuI most (roundT most s.cores.length 0 s out) s.cores.length out.length s out 0 false:=⟨hO.inv,hO.prints,hO.len,rfl,Nat.zero_le _,(decide_eq_false (Nat.lt_irrefl _)).symm,Nat.le_refl _,rfl⟩
 have hGo:=fun s' out' mv' h'=>hO.go (s':=s') (out':=out') (mv':=mv') rfl hlt h'
 generalize hC:s.cores.length=C at hI0 hGo hk8
 generalize roundT most C 0 s out=Y at hI0 hGo
 clear hC
 have hmv : ∀ {s':Mst} {out':List Stp} {k:Nat} {mv':Bool},TuI most Y C out.length s' out' k mv'→2*(most - out'.length)+mv'.toNat<2*(most - out.length)+1:=by
  intro s' out' k mv' h
  have h1:=h.mv
  have h2:=h.len0
  have h3:=h.len
  cases mv' with
  | true=>have:=of_decide_eq_true h1.symm; show 2*(most - out'.length)+1<_; omega
  | false=>show 2*(most - out'.length)+0<_; omega
 conv=>whnf
 refine LoopL.by (fun x:Mst × List Stp × Nat × Bool=>⟨[(1,.tr (ti most)),(7,.ptr 0 0),(9,.sl 4 x.2.1.length),(10,.tr (tb x.2.2.2)),(11,.ptr 5 0)],[(0,maB x.1),(1,csB x.1.cores),(2,meB x.1.mem),(3,prB x.1.prints),(4,stV x.2.1),(5,ceB x.2.2.1)],10⟩) (fun x=>TuI most Y C out.length x.1 x.2.1 x.2.2.1 x.2.2.2) (fun x=>C - x.2.2.1) (s,out,0,false) [0,1,2,3,4,_] []
  (Sub.mk' rfl ⟨.inl rfl,⟨rfl,rfl⟩,⟨rfl,rfl⟩,.inl rfl,⟨rfl,rfl⟩,trivial⟩ ⟨⟨rfl,.inl rfl,.inl rfl,.inl rfl,.inl rfl,.inl rfl,⟨rfl,rfl⟩,⟨rfl,rfl⟩,⟨rfl,rfl⟩,trivial⟩,⟨rfl,rfl,rfl,rfl,.inl rfl⟩,⟨rfl,rfl,rfl,rfl⟩,⟨rfl,rfl,rfl,rfl⟩,⟨rfl,rfl,rfl,rfl⟩,⟨rfl,.inl rfl,trivial⟩,trivial⟩ rfl rfl)
  hI0 ?_
 clear hI0
 rintro ⟨s,o2,k,mv⟩ hI -
 simp only at hI
 have hlen2:=hI.len
 have hco:=s_cores s
 rw [hI.cores] at hco
 have hkC:=hI.le
 conv=>whnf
 refine acall.au [0,1,2,3] [] hco ?_
 by_cases hkC:k<C
 case neg =>
  have hkC:k=C:=by omega
  subst hkC
  have c1:decide ((k:Int)<(k:Int))=false:=decide_eq_false (by omega)
  conv=>whnf
  (repeat (refine csplit (fun g=>ctf g c1) (fun _ => ?_); conv=>whnf))
  refine ⟨by kernel_rfl,fun _ => ?_⟩
  conv=>whnf
  (repeat (refine csplit (fun g=>ctf g c1) (fun _ => ?_); conv=>whnf))
  refine ⟨fun _ => ?_,fun h=>absurd rfl h⟩
  conv=>whnf
  exact ⟨(s,o2,mv),[0,1,2,3,4],[],Sub.mk' rfl ⟨.inl rfl,⟨rfl,rfl⟩,⟨rfl,rfl⟩,.inl rfl,trivial⟩ ⟨⟨rfl,.inl rfl,.inl rfl,.inl rfl,.inl rfl,.inl rfl,⟨rfl,rfl⟩,⟨rfl,rfl⟩,⟨rfl,rfl⟩,trivial⟩,⟨rfl,rfl,rfl,rfl,.inl rfl⟩,⟨rfl,rfl,rfl,rfl⟩,⟨rfl,rfl,rfl,rfl⟩,⟨rfl,rfl,rfl,rfl⟩,trivial⟩ rfl rfl,hGo _ _ _ hI,hmv hI⟩
 have c1:decide ((k:Int)<(C:Int))=true:=decide_eq_true (by omega)
 conv=>whnf
 (repeat (refine csplit (fun _ => ?_) (fun g=>ctf c1 g); conv=>whnf))
 refine ⟨by kernel_rfl,fun _ => ?_⟩
 conv=>whnf
 (repeat (refine csplit (fun _ => ?_) (fun g=>ctf c1 g); conv=>whnf))
 refine csplit (fun g2 => ?_) (fun g2 => ?_)
 case refine_2 =>
  have hge : ¬o2.length<most:=by have:decide ((o2.length:Int)<(most:Int))=false:=g2; have:=of_decide_eq_false this; omega
  have hI:=hI.full hge
  conv=>whnf
  refine ⟨fun _ => ?_,fun h=>absurd rfl h⟩
  conv=>whnf
  exact ⟨(s,o2,mv),[0,1,2,3,4],[],Sub.mk' rfl ⟨.inl rfl,⟨rfl,rfl⟩,⟨rfl,rfl⟩,.inl rfl,trivial⟩ ⟨⟨rfl,.inl rfl,.inl rfl,.inl rfl,.inl rfl,.inl rfl,⟨rfl,rfl⟩,⟨rfl,rfl⟩,⟨rfl,rfl⟩,trivial⟩,⟨rfl,rfl,rfl,rfl,.inl rfl⟩,⟨rfl,rfl,rfl,rfl⟩,⟨rfl,rfl,rfl,rfl⟩,⟨rfl,rfl,rfl,rfl⟩,trivial⟩ rfl rfl,hGo _ _ _ hI,hmv hI⟩
 have hlt2:o2.length<most:=by have:decide ((o2.length:Int)<(most:Int))=true:=g2; have:=of_decide_eq_true this; omega
 clear g2
 have hre:=s_ready s hI.inv
 have hfi:=ready_find s k
 generalize hL:readyL s=L at hre hfi
 have hix:=s_idxStp L k
 have hcase:=idxP_find (ofCore k) L 0
 rw [hfi] at hcase
 generalize idxP (ofCore k) L 0=J at hix hcase
 conv=>whnf
 refine acall.au [0,1,2,3] [] hre ?_
 intro _
 conv=>whnf
 refine acall.au [5] [] hix ?_
 intro _
 conv=>whnf
 rcases hcase with ⟨rfl,hch⟩ | ⟨j,x,rfl,hj,hch⟩
 ·have hI2:=hI.skip hkC hlt2 hch
  conv=>whnf
  refine ⟨fun _ => ?_,fun h=>absurd rfl h⟩
  conv=>whnf
  exact ⟨(s,o2,k+1,mv),[0,1,2,3,4,_],[],Sub.mk' rfl ⟨.inl rfl,⟨rfl,rfl⟩,⟨rfl,rfl⟩,.inl rfl,⟨rfl,rfl⟩,trivial⟩ ⟨⟨rfl,.inl rfl,.inl rfl,.inl rfl,.inl rfl,.inl rfl,⟨rfl,rfl⟩,⟨rfl,rfl⟩,⟨rfl,rfl⟩,trivial⟩,⟨rfl,rfl,rfl,rfl,.inl rfl⟩,⟨rfl,rfl,rfl,rfl⟩,⟨rfl,rfl,rfl,rfl⟩,⟨rfl,rfl,rfl,rfl⟩,⟨rfl,.inl (ti_succ hkC (by omega)),trivial⟩,trivial⟩ rfl rfl,hI2,by show C - (k+1)<C - k; omega⟩
 ·have hI2:=hI.step hkC hlt2 hch
  rw [Nat.zero_add] at hix
  have hjl:j<L.length:=(List.getElem?_eq_some_iff.1 hj).1
  obtain ⟨kd,c⟩:=x
  have hda:(o2.map Stp.cells).take o2.length++[[tu kd,ti c]]=(o2++[Stp.mk kd c]).map Stp.cells:=by rw [List.take_of_length_le (by simp),List.map_append]; rfl
  have hst:=k_step s hI.inv (by have:=hI.prints; omega) kd c
  simp only at hI2
  generalize stepS s kd c=S at hst hI2
  obtain ⟨s',⟨dk,dc,da,dd,dw,dp,dn⟩,e⟩:=S
  simp only at hst hI2
  conv=>whnf
  refine CutL.by (fun _:Unit=>⟨[(1,.tr (ti most)),(7,.ptr 0 0),(9,.sl 4 o2.length),(11,.ptr 5 0),(12,.tr (stepsT L)),(13,.tr (ti j))],[(0,maB s'),(1,csB s'.cores),(2,meB s'.mem),(3,prB s'.prints),(4,stV o2),(5,ceB k)],10⟩) (fun _=>True) ?_ ?_
  ·conv=>whnf
   refine ⟨rfl,(show (0:Int)≤((0+j:Nat):Int) by omega),(show ((0+j:Nat):Int)<((L.map Stp.cells).length:Int) by rw [List.length_map]; omega),fun row hrow => ?_⟩
   replace hrow:(L.map Stp.cells)[0+j]? = some row:=hrow
   rw [Nat.zero_add,List.getElem?_map,hj] at hrow
   cases hrow
   conv=>whnf
   rcases hst with hst | hst
   ·refine acall.au [0,1,2,3] [] hst ?_
    intro _
    conv=>whnf
    exact ⟨(),[0,1,2,3,4,5],[],Sub.mk' rfl ⟨.inl rfl,⟨rfl,rfl⟩,⟨rfl,rfl⟩,⟨rfl,rfl⟩,.inl rfl,.inl (congrArg (fun n:Nat=>ti (n:Int)) (Nat.zero_add j)),trivial⟩ ⟨⟨rfl,.inl rfl,.inl rfl,.inl rfl,.inl rfl,.inl rfl,⟨rfl,rfl⟩,⟨rfl,rfl⟩,⟨rfl,rfl⟩,trivial⟩,⟨rfl,rfl,rfl,rfl,.inl rfl⟩,⟨rfl,rfl,rfl,rfl⟩,⟨rfl,rfl,rfl,rfl⟩,⟨rfl,rfl,rfl,rfl⟩,⟨rfl,.inl rfl,trivial⟩,trivial⟩ rfl rfl,trivial⟩
   ·refine acall.new [0,1,2,3] [] _ _ _ _ hst rfl rfl rfl rfl aut aut rfl rfl fun _ => ?_
    conv=>whnf
    exact ⟨(),[0,1,2,_,4,5],[],Sub.mk' rfl ⟨.inl rfl,⟨rfl,rfl⟩,⟨rfl,rfl⟩,⟨rfl,rfl⟩,.inl rfl,.inl (congrArg (fun n:Nat=>ti (n:Int)) (Nat.zero_add j)),trivial⟩ ⟨⟨rfl,.inl rfl,.inl rfl,.inl rfl,.inl rfl,.inl rfl,⟨rfl,rfl⟩,⟨rfl,rfl⟩,⟨rfl,rfl⟩,trivial⟩,⟨rfl,rfl,rfl,rfl,.inl rfl⟩,⟨rfl,rfl,rfl,rfl⟩,⟨rfl,rfl,rfl,rfl⟩,⟨rfl,rfl,rfl,rfl⟩,⟨rfl,.inl rfl,trivial⟩,trivial⟩ rfl rfl,trivial⟩
  rintro - - -
  conv=>whnf
  refine ⟨rfl,(show (0:Int)≤(j:Int) by omega),(show (j:Int)<((L.map Stp.cells).length:Int) by rw [List.length_map]; omega),fun row hrow => ?_⟩
  replace hrow:(L.map Stp.cells)[j]? = some row:=hrow
  rw [List.getElem?_map,hj] at hrow
  cases hrow
  conv=>whnf
  refine ⟨rfl,rfl,rfl,(by rw [List.length_map]; exact Nat.le_refl _),(show (o2.length+1)*16≤150000000000000 by omega),fun q hq => ?_,?_⟩
  ·cases hq with
   | head=>exact Nat.ne_of_beq_eq_false rfl
   | tail _ h=>cases h
  conv=>whnf
  exact ⟨(s',o2++[Stp.mk kd c],k+1,true),[0,1,2,3,_,_],[],Sub.mk' rfl ⟨.inl rfl,⟨rfl,rfl⟩,⟨rfl,by simp⟩,.inl rfl,⟨rfl,rfl⟩,trivial⟩ ⟨⟨rfl,.inl rfl,.inl rfl,.inl rfl,.inl rfl,.inl rfl,⟨rfl,rfl⟩,⟨rfl,rfl⟩,⟨rfl,rfl⟩,trivial⟩,⟨rfl,rfl,rfl,rfl,.inl rfl⟩,⟨rfl,rfl,rfl,rfl⟩,⟨rfl,rfl,rfl,rfl⟩,⟨rfl,rfl,rfl,hda⟩,⟨rfl,.inl (ti_succ hkC (by omega)),trivial⟩,trivial⟩ rfl rfl,hI2,by show C - (k+1)<C - k; omega⟩
end Go.Proofs.YtbflekglkkdipaaGreatDoor.am
namespace Go.Proofs.YtbflekglkkdipaaGreatDoor.am
open Go Go.Proofs
set_option linter.all false
def timedR (o:Ob) (l:List Pac) (most:Nat):Mst × List Thg × List Stp:=timedG l most (newM o) (startT o.cores.length) []
structure TmI (l:List Pac) (most:Nat) (X:Mst × List Thg × List Stp) (s:Mst) (R:List Com) (n:Nat) (put:Int) (out:List Stp) (T:List Thg):Prop where
 inv:VInv s
 prints:s.prints.length≤out.length
 ag:AInv R n T
 tin:TInv l s T (65536*out.length)
 cores:l.length=s.cores.length
 len:out.length≤most
 put0:0≤put
 put1:put≤l.length+2*out.length
 rl:R.length≤l.length+2*out.length+1
 fin:timedG l (most - out.length) s T out=X
theorem startT_succ (j:Nat):startT (j+1)=startT j++[⟨0,true,(j:Int)⟩]:=by
 unfold startT
 rw [List.range_succ,List.map_append]; rfl
theorem oneT_eq {l:List Pac} {s:Mst} {T:List Thg} {t c:Int} {b:Bool} (h:minT T=⟨t,b,c⟩):oneT l s T=bif b then ((stepS s 1 c).1,resT T++newT l ⟨t,true,c⟩ (stepS s 1 c).2.1 (stepS s 1 c).2.2,⟨1,c⟩) else ((stepS s 2 c).1,resT T,⟨2,c⟩):=by
 unfold oneT
 rw [h]
 cases b <;> rfl
theorem pac_row {l:List Pac} {c:Int} {row:List Tr} (h:(l.map Pac.cells)[c.toNat]? = some row):row=(pacAt l c).cells:=by
 obtain ⟨p,hp,rfl⟩:=pac_get h
 unfold pacAt
 rw [List.getD_eq_getElem?_getD,hp]; rfl
theorem pac_rng {l:List Pac} (hl : ∀ p ∈ l,pacOk p=true) {c:Int} (h0:0≤c) (h1:c<(l.length:Int)):(1≤(pacAt l c).step∧(pacAt l c).step≤65536)∧(0≤(pacAt l c).lag∧(pacAt l c).lag≤65536):=by
 have hpa:pacOk (pacAt l c)=true:=by
  unfold pacAt
  rw [List.getD_eq_getElem?_getD,List.getElem?_eq_getElem (by omega)]
  exact hl _ (List.getElem_mem _)
 unfold pacOk at hpa
 simp only [Bool.and_eq_true,decide_eq_true_eq] at hpa
 exact ⟨⟨hpa.1,hpa.2.1⟩,⟨hpa.2.2.1,hpa.2.2.2⟩⟩
theorem TmI.step {l:List Pac} {most:Nat} {X:Mst × List Thg × List Stp} {s:Mst} {R:List Com} {n:Nat} {put:Int} {out:List Stp} {T:List Thg} (h:TmI l most X s R (n+1) put out T) (hl : ∀ p ∈ l,pacOk p=true) (hlt:out.length<most) {t c:Int} {b:Bool} (hm:minT T=⟨t,b,c⟩)
  {s':Mst} {T1 T2:List Thg} {x:Stp} (h1:oneT l s T=(s',T1,x)) (hpm:T1.Perm T2) {R':List Com} {n':Nat} {put':Int} (hA:AInv R' n' T1) (hp0:0≤put') (hp1:put'≤put+2) (hr:R'.length≤R.length+2):TmI l most X s' R' n' put' (out++[x]) T1:=by
 have hT:0<T.length:=by have:=h.ag.size; omega
 have ht:=h.tin.one hT hl h.cores
 have hf:=h.fin
 rw [show most - out.length=(most - (out.length+1))+1 by omega,timedG_succ,decide_eq_true hT,cond_true,h1] at hf
 rw [h1] at ht
 have hs':s'=(stepS s x.kind x.core).1:=by
  have:=congrArg Prod.fst h1
  have h3:=congrArg (fun q=>q.2.2) h1
  rw [oneT_eq hm] at this h3
  cases b
  ·have h3:(⟨2,c⟩:Stp)=x:=h3
   rw [← h3]; exact this.symm
  ·have h3:(⟨1,c⟩:Stp)=x:=h3
   rw [← h3]; exact this.symm
 have hpr:=stepS_prints s x.kind x.core
 have hcl:=stepS_len s x.kind x.core
 rw [← hs'] at hpr hcl
 have hlen:(out++[x]).length=out.length+1:=by rw [List.length_append,List.length_singleton]
 have h4:=h.prints
 have h5:=h.put1
 have h6:=h.rl
 refine ⟨by rw [hs']; exact stepS_inv h.inv _ _,by omega,hA,?_,by rw [hcl]; exact h.cores,by omega,hp0,by rw [hlen]; omega,by rw [hlen]; omega,by rw [hlen]; exact hf⟩
 rw [hlen,show (65536:Int)*((out.length+1:Nat):Int)=65536*out.length+65536 by omega]
 exact ht
set_option maxRecDepth 100000 in
set_option maxHeartbeats 8000000 in
theorem s_timed (o:Ob) (l:List Pac) (most:Nat) (h0:(checkO o).1=0) (hl:l.length=o.cores.length) (hp : ∀ p ∈ l,pacOk p=true) (hm:most≤1048576):K 7 [o.av,.tr (pacT l),.tr (ti most)] [] (.ret (.tup [.tr (stepsT (timedR o l most).2.2),.tr (tb ((timedR o l most).2.1.length == 0)),.tr (ti 0)])) []:=by
 have hg:=check_good h0
 have hn1:=k_vnew o h0 hg.mem hg.cores (fun c hc=>(hg.code c hc).2)
 have hcp:=s_conPac l
 have hany:(l.any fun p => !pacOk p)=false:=by
  rw [List.any_eq_false]
  intro p hpl
  rw [hp p hpl]; decide
 rw [hany] at hcp
 have hV:=VInv.new h0
 have hpr0:(newM o).prints.length=0:=rfl
 have hcl0:(newM o).cores.length=o.cores.length:=by simp [newM]
 generalize hX:timedR o l most=X
 unfold timedR at hX
 rw [← hl] at hX hcl0
 have hk8:l.length≤8:=by rw [hl]; exact hg.cores
 have hlm:(l.map Pac.cells).length=l.length:=List.length_map ..
 have hcm:((o.cores.map Cor.cells).length:Int)=(l.length:Int):=by rw [List.length_map,hl]
 clear hl h0 hg hany
 generalize newM o=s0 at hn1 hV hpr0 hcl0 hX
 obtain ⟨memory,shared,locks,buffer,cores⟩:=o
 simp only at hcm
 have c1:(((l.map Pac.cells).length:Int) != ((cores.map Cor.cells).length:Int))=false:=by rw [hcm,hlm]; simp
 have c4:decide ((most:Int) > 1048576)=false:=decide_eq_false (by omega)
 refine Ctr.cut [17] hT hmix Tryz.func7 rfl (fun _ _=>by kernel_rfl) rfl fun hok => ?_
 clear hok
 conv=>whnf
 refine acall.new [] [] _ _ _ _ hn1 rfl rfl rfl rfl aut aut rfl rfl fun _ => ?_
 conv=>whnf
 refine csplit (fun g=>ctf g c1) (fun _ => ?_)
 conv=>whnf
 refine acall.au [] [] hcp ?_
 intro _
 conv=>whnf
 refine csplit (fun g=>ctf g c4) (fun _ => ?_)
 conv=>whnf
 refine LoopL.by (fun x:List Com × Nat=>⟨[(1,.tr (pacT l)),(2,.tr (ti most)),(9,.ptr 0 0),(12,.ptr 4 0),(48,.tr (ti l.length)),(49,.tr (ti x.2))],[(0,maB s0),(1,csB s0.cores),(2,meB s0.mem),(3,prB s0.prints),(4,agC 5 x.2 x.2),(5,coV x.1)],10⟩) (fun x=>x.2≤l.length∧AInv x.1 x.2 (startT x.2)∧x.1.length=x.2) (fun x=>l.length - x.2) ([],0) [_,_,_,_,_] [5]
  (Sub.mk' rfl ⟨.inl rfl,.inl rfl,⟨rfl,rfl⟩,⟨rfl,rfl⟩,.inl (by rw [← hlm]),.inl rfl,trivial⟩ ⟨⟨rfl,.inl rfl,.inl rfl,.inl rfl,.inl rfl,.inl rfl,⟨rfl,rfl⟩,⟨rfl,rfl⟩,⟨rfl,rfl⟩,trivial⟩,⟨rfl,rfl,rfl,rfl,.inl rfl⟩,⟨rfl,rfl,rfl,rfl⟩,⟨rfl,rfl,rfl,rfl⟩,⟨rfl,⟨rfl,rfl,rfl,rfl⟩,.inl rfl,trivial⟩,⟨rfl,_,_,_,rfl,by decide⟩,trivial⟩ rfl rfl)
  ⟨Nat.zero_le _,⟨Nat.le_refl _,(fun k _ hk=>by cases hk),(fun x hx=>by cases hx),List.Perm.refl _⟩,rfl⟩ ?_
 rintro ⟨R,j⟩ ⟨hj,hA,hRl⟩ -
 simp only at hj hA hRl
 conv=>whnf
 refine csplit (fun hlt => ?_) (fun hge => ?_)
 ·have hlt:j<l.length:=by have:=of_decide_eq_true hlt; omega
  have had:=s_add R j j 1 j 0 (by omega) (by omega) ⟨by omega,by omega⟩
  obtain ⟨hA2,hl2⟩:=hA.push (x:=⟨1,j,0,j⟩) (T':=startT (j+1)) (.inl rfl) (by rw [startT_succ]; exact (List.perm_append_singleton ..).symm)
  conv=>whnf
  refine acall.new [4,5] [] _ _ _ _ had rfl rfl rfl rfl aut aut rfl rfl fun _ => ?_
  conv=>whnf
  exact ⟨(pushS R j ⟨1,j,0,j⟩,j+1),[0,1,2,3,4,_],[],Sub.mk' rfl ⟨.inl rfl,.inl rfl,⟨rfl,rfl⟩,⟨rfl,rfl⟩,.inl rfl,.inl (ti_succ hlt (by omega)),trivial⟩ ⟨⟨rfl,.inl rfl,.inl rfl,.inl rfl,.inl rfl,.inl rfl,⟨rfl,rfl⟩,⟨rfl,rfl⟩,⟨rfl,rfl⟩,trivial⟩,⟨rfl,rfl,rfl,rfl,.inl rfl⟩,⟨rfl,rfl,rfl,rfl⟩,⟨rfl,rfl,rfl,rfl⟩,⟨rfl,⟨rfl,rfl⟩,.inl rfl,trivial⟩,⟨rfl,rfl,rfl,rfl⟩,trivial⟩ rfl rfl,⟨hlt,hA2,hl2⟩,by show l.length - (j+1)<l.length - j; omega⟩
 have hge:j=l.length:=by have:=of_decide_eq_false hge; omega
 subst hge
 conv=>whnf
 refine ⟨fun _ => ?_,fun h=>absurd rfl h⟩
 conv=>whnf
 refine LoopL.by (fun x:Mst × List Com × Nat × Int × List Stp × List Thg=>⟨[(1,.tr (pacT l)),(2,.tr (ti most)),(9,.ptr 0 0),(12,.ptr 4 0),(14,.sl 6 x.2.2.2.2.1.length)],[(0,maB x.1),(1,csB x.1.cores),(2,meB x.1.mem),(3,prB x.1.prints),(4,agC 5 x.2.2.1 x.2.2.2.1),(5,coV x.2.1),(6,stV x.2.2.2.2.1)],10⟩) (fun x=>TmI l most X x.1 x.2.1 x.2.2.1 x.2.2.2.1 x.2.2.2.2.1 x.2.2.2.2.2) (fun x=>most - x.2.2.2.2.1.length) (s0,R,l.length,(l.length:Int),[],startT l.length) [0,1,2,3,4,5] [6]
  (Sub.mk' rfl ⟨.inl rfl,.inl rfl,⟨rfl,rfl⟩,⟨rfl,rfl⟩,⟨rfl,rfl,rfl,rfl⟩,trivial⟩ ⟨⟨rfl,.inl rfl,.inl rfl,.inl rfl,.inl rfl,.inl rfl,⟨rfl,rfl⟩,⟨rfl,rfl⟩,⟨rfl,rfl⟩,trivial⟩,⟨rfl,rfl,rfl,rfl,.inl rfl⟩,⟨rfl,rfl,rfl,rfl⟩,⟨rfl,rfl,rfl,rfl⟩,⟨rfl,⟨rfl,rfl⟩,.inl rfl,trivial⟩,⟨rfl,rfl,rfl,rfl⟩,⟨rfl,_,_,_,rfl,by decide⟩,trivial⟩ rfl rfl)
  ⟨hV,by show s0.prints.length≤0; omega,hA,(by have:=TInv.start l s0; rw [hcl0] at this; exact this),hcl0.symm,Nat.zero_le _,Int.natCast_nonneg _,by show (l.length:Int)≤l.length+2*0; omega,by show R.length≤l.length+2*0+1; omega,hX⟩ ?_
 clear hA hX hRl hj hV hpr0 hcl0 hn1
 rintro ⟨s,R,n,put,out,T⟩ hI -
 simp only at hI
 have hnT:=hI.ag.size
 have hlen:=hI.len
 have hput1:=hI.put1
 have hrl:=hI.rl
 conv=>whnf
 refine acall.au [4,5] [] (s_len R n put) ?_
 intro _
 conv=>whnf
 refine csplit (fun g1 => ?_) (fun g1 => ?_)
 case refine_2 =>
  have hn0:n=0:=by have:decide ((n:Int) > 0)=false:=g1; have:=of_decide_eq_false this; omega
  have hf:=hI.fin
  have hT0:T=[]:=List.eq_nil_of_length_eq_zero (by omega)
  rw [hT0,timedG_end] at hf
  subst hf
  have hfb:((n:Int) == 0)=((([]:List Thg).length) == 0):=by rw [hn0]; rfl
  conv=>whnf
  refine ⟨fun _ => ?_,fun h=>absurd rfl h⟩
  conv=>whnf
  refine acall.au [4,5] [] (s_len R n put) ?_
  intro _
  conv=>whnf
  exact ⟨⟨⟨rfl,by rw [List.length_map]; exact Nat.le_refl _,by rw [List.take_of_length_le (by simp)]⟩,.inl (congrArg tb hfb),.inl rfl,trivial⟩,trivial⟩
 have hn0:0<n:=by have:decide ((n:Int) > 0)=true:=g1; have:=of_decide_eq_true this; omega
 conv=>whnf
 refine csplit (fun g2 => ?_) (fun g2 => ?_)
 case refine_2 =>
  have hfu:out.length=most:=by have:decide ((out.length:Int)<(most:Int))=false:=g2; have:=of_decide_eq_false this; omega
  have hf:=hI.fin
  rw [hfu,Nat.sub_self] at hf
  have hf:(s,T,out)=X:=hf
  subst hf
  have hfb:((n:Int) == 0)=(T.length == 0):=by
   rw [hnT]
   cases T <;> simp
   omega
  conv=>whnf
  refine ⟨fun _ => ?_,fun h=>absurd rfl h⟩
  conv=>whnf
  refine acall.au [4,5] [] (s_len R n put) ?_
  intro _
  conv=>whnf
  exact ⟨⟨⟨rfl,by rw [List.length_map]; exact Nat.le_refl _,by rw [List.take_of_length_le (by simp)]⟩,.inl (congrArg tb hfb),.inl rfl,trivial⟩,trivial⟩
 have hlt:out.length<most:=by have:decide ((out.length:Int)<(most:Int))=true:=g2; have:=of_decide_eq_true this; omega
 obtain ⟨n,rfl⟩ : ∃ q,n=q+1:=⟨n - 1,by omega⟩
 have hpop:=s_heapPop R n put hI.ag.len (by omega)
 obtain ⟨p1,p2,p3,p4⟩:=hI.ag.pop
 generalize (popS R n).getD n zeroC0=y at hpop p1 p2
 obtain ⟨k,c,t,nu⟩:=y
 have hmem:minT T ∈ T:=(resT_perm (by omega)).mem_iff.1 (.head _)
 have hmc:=hI.tin.core _ hmem
 have hmt:=hI.tin.time _ hmem
 rw [← p1] at hmc hmt
 have hmc:0≤c∧c<(s.cores.length:Int):=hmc
 have hmt:0≤t∧t≤65536*(out.length:Int):=hmt
 have hput0:=hI.put0
 have hal:=hI.ag.len
 have hda : ∀ k:Int,(out.map Stp.cells).take out.length++[[tu k,ti c]]=(out++[Stp.mk k c]).map Stp.cells:=fun k=>by rw [List.take_of_length_le (by simp),List.map_append]; rfl
 conv=>whnf
 refine acall.au [4,5] [] hpop ?_
 intro _
 conv=>whnf
 rcases p2 with hk | hk
 ·have hk:k=1:=hk
  subst hk
  have hm1:minT T=⟨t,true,c⟩:=p1.symm
  have hone:=oneT_eq (l:=l) (s:=s) hm1
  have hst:=k_step s hI.inv (by have:=hI.prints; omega) 1 c
  generalize stepS s 1 c=S at hst hone
  obtain ⟨s',⟨dk,dc,da,dd,dw,dp,dn⟩,e⟩:=S
  simp only at hst hone
  refine CutL.by (fun _:Unit=>⟨[(1,.tr (pacT l)),(2,.tr (ti most)),(9,.ptr 0 0),(12,.ptr 4 0),(14,.sl 6 out.length),(15,.ptr 7 0),(16,.ptr 8 0),(17,.tr (ti e))],[(0,maB s'),(1,csB s'.cores),(2,meB s'.mem),(3,prB s'.prints),(4,agC 5 n put),(5,coV (popS R n)),(6,stV out),(7,.cells 69 [.tr (tu 1),.tr (ti c),.tr (ti t),.tr (ti nu)]),(8,diB ⟨dk,dc,da,dd,dw,dp,dn⟩)],10⟩) (fun _=>True) ?_ ?_
  ·conv=>whnf
   rcases hst with hst | hst
   ·refine acall.au [0,1,2,3] [] hst ?_
    intro _
    conv=>whnf
    exact ⟨(),[0,1,2,3,4,5,6,_,_],[],Sub.mk' rfl ⟨.inl rfl,.inl rfl,⟨rfl,rfl⟩,⟨rfl,rfl⟩,⟨rfl,rfl⟩,⟨rfl,rfl⟩,⟨rfl,rfl⟩,.inl rfl,trivial⟩ ⟨⟨rfl,.inl rfl,.inl rfl,.inl rfl,.inl rfl,.inl rfl,⟨rfl,rfl⟩,⟨rfl,rfl⟩,⟨rfl,rfl⟩,trivial⟩,⟨rfl,rfl,rfl,rfl,.inl rfl⟩,⟨rfl,rfl,rfl,rfl⟩,⟨rfl,rfl,rfl,rfl⟩,⟨rfl,⟨rfl,rfl⟩,.inl rfl,trivial⟩,⟨rfl,rfl,rfl,rfl⟩,⟨rfl,rfl,rfl,rfl⟩,⟨rfl,.inl rfl,.inl rfl,.inl rfl,.inl rfl,trivial⟩,⟨rfl,.inl rfl,.inl rfl,.inl rfl,.inl rfl,.inl rfl,.inl rfl,.inl rfl,trivial⟩,trivial⟩ rfl rfl,trivial⟩
   ·refine acall.new [0,1,2,3] [] _ _ _ _ hst rfl rfl rfl rfl aut aut rfl rfl fun _ => ?_
    conv=>whnf
    exact ⟨(),[0,1,2,_,4,5,6,_,_],[],Sub.mk' rfl ⟨.inl rfl,.inl rfl,⟨rfl,rfl⟩,⟨rfl,rfl⟩,⟨rfl,rfl⟩,⟨rfl,rfl⟩,⟨rfl,rfl⟩,.inl rfl,trivial⟩ ⟨⟨rfl,.inl rfl,.inl rfl,.inl rfl,.inl rfl,.inl rfl,⟨rfl,rfl⟩,⟨rfl,rfl⟩,⟨rfl,rfl⟩,trivial⟩,⟨rfl,rfl,rfl,rfl,.inl rfl⟩,⟨rfl,rfl,rfl,rfl⟩,⟨rfl,rfl,rfl,rfl⟩,⟨rfl,⟨rfl,rfl⟩,.inl rfl,trivial⟩,⟨rfl,rfl,rfl,rfl⟩,⟨rfl,rfl,rfl,rfl⟩,⟨rfl,.inl rfl,.inl rfl,.inl rfl,.inl rfl,trivial⟩,⟨rfl,.inl rfl,.inl rfl,.inl rfl,.inl rfl,.inl rfl,.inl rfl,.inl rfl,trivial⟩,trivial⟩ rfl rfl,trivial⟩
  rintro - - -
  have hda:=hda 1
  conv=>whnf
  refine ⟨rfl,rfl,rfl,(by rw [List.length_map]; exact Nat.le_refl _),(show (out.length+1)*16≤150000000000000 by omega),fun q hq => ?_,?_⟩
  ·cases hq with
   | head=>exact Nat.ne_of_beq_eq_false rfl
   | tail _ h=>cases h
  conv=>whnf
  obtain ⟨⟨r1,r2⟩,⟨r3,r4⟩⟩:=pac_rng hp (c:=c) hmc.1 (by rw [hI.cores]; exact hmc.2)
  have hrowP := @pac_row l c
  have hlc:c<(l.length:Int):=by rw [hI.cores]; exact hmc.2
  generalize hpe:pacAt l c=P at r1 r2 r3 r4 hrowP
  obtain ⟨ps,pl⟩:=P
  simp only at r1 r2 r3 r4 hrowP
  have hw1:IntKind.i64.wrap (t+ps)=t+ps:=w64 (by omega) (by omega)
  have hw2:IntKind.i64.wrap (t+pl)=t+pl:=w64 (by omega) (by omega)
  have hagd:againB ⟨dk,dc,da,dd,dw,dp,dn⟩ e=(e == 181 || (dk != 0 && dk != 7)):=rfl
  refine csplit (fun g3 => ?_) (fun g3 => ?_)
  ·replace g3:(e == 181)=true:=g3
   have hag:againB ⟨dk,dc,da,dd,dw,dp,dn⟩ e=true:=by rw [hagd,g3]; rfl
   obtain ⟨hA1,hl1⟩:=p3.push (x:=⟨1,c,t+ps,put⟩) (T':=⟨t+ps,true,c⟩::resT T) (.inl rfl) (List.Perm.refl _)
   have had1:=s_add (popS R n) n put 1 c (t+ps) p3.len (by omega) ⟨hput0,by omega⟩
   have had2:=s_add (pushS (popS R n) n ⟨1,c,t+ps,put⟩) (n+1) (put+1) 2 c (t+pl) (by rw [hl1]; exact Nat.le_refl _) (by rw [hl1]; omega) ⟨by omega,by omega⟩
   conv=>whnf
   refine ⟨rfl,hmc.1,(show c<((l.map Pac.cells).length:Int) by rw [hlm]; omega),fun row hrow => ?_⟩
   obtain rfl:=hrowP hrow
   clear hrow
   conv=>whnf
   rw [hw1]
   refine acall.new [4,5] [] _ _ _ _ had1 rfl rfl rfl rfl aut aut rfl rfl ?_
   conv=>whnf
   refine ⟨by kernel_rfl,fun _ => ?_⟩
   conv=>whnf
   refine csplit (fun h3 => ?_) (fun h3 => ?_)
   ·replace h3:(dk == 3)=true:=h3
    have hnt:newT l ⟨t,true,c⟩ ⟨dk,dc,da,dd,dw,dp,dn⟩ e=[⟨t+pl,false,c⟩]++[⟨t+ps,true,c⟩]:=by unfold newT; rw [hag,h3,hpe]; rfl
    rw [hnt] at hone
    have hpm:(Thg.mk (t+pl) false c::Thg.mk (t+ps) true c::resT T).Perm (resT T++([Thg.mk (t+pl) false c]++[Thg.mk (t+ps) true c])):=List.perm_append_comm (l₁:=[Thg.mk (t+pl) false c,Thg.mk (t+ps) true c]) (l₂:=resT T)
    obtain ⟨hA2,hl2⟩:=hA1.push (x:=⟨2,c,t+pl,put+1⟩) (T':=resT T++([Thg.mk (t+pl) false c]++[Thg.mk (t+ps) true c])) (.inr rfl) hpm
    have hI2:=hI.step hp hlt hm1 hone (List.Perm.refl _) hA2 (show 0≤put+1+1 by omega) (by omega) (by rw [hl2]; have:=hI.ag.len; omega)
    conv=>whnf
    refine ⟨rfl,hmc.1,(show c<((l.map Pac.cells).length:Int) by rw [hlm]; omega),fun row hrow => ?_⟩
    obtain rfl:=hrowP hrow
    clear hrow
    conv=>whnf
    rw [hw2]
    refine acall.new [4,_] [] _ _ _ _ had2 rfl rfl rfl rfl aut aut rfl rfl ?_
    conv=>whnf
    refine ⟨by kernel_rfl,fun _ => ?_⟩
    conv=>whnf
    exact ⟨(s',pushS (pushS (popS R n) n ⟨1,c,t+ps,put⟩) (n+1) ⟨2,c,t+pl,put+1⟩,n+1+1,put+1+1,out++[Stp.mk 1 c],resT T++([⟨t+pl,false,c⟩]++[⟨t+ps,true,c⟩])),[0,1,2,3,4,_,_],[],Sub.mk' rfl ⟨.inl rfl,.inl rfl,⟨rfl,rfl⟩,⟨rfl,rfl⟩,⟨rfl,by simp⟩,trivial⟩ ⟨⟨rfl,.inl rfl,.inl rfl,.inl rfl,.inl rfl,.inl rfl,⟨rfl,rfl⟩,⟨rfl,rfl⟩,⟨rfl,rfl⟩,trivial⟩,⟨rfl,rfl,rfl,rfl,.inl rfl⟩,⟨rfl,rfl,rfl,rfl⟩,⟨rfl,rfl,rfl,rfl⟩,⟨rfl,⟨rfl,rfl⟩,.inl rfl,trivial⟩,⟨rfl,rfl,rfl,rfl⟩,⟨rfl,rfl,rfl,hda⟩,trivial⟩ rfl rfl,hI2,by show most - (out++[_]).length<most - out.length; rw [List.length_append,List.length_singleton]; omega⟩
   ·replace h3:(dk == 3)=false:=h3
    have hnt:newT l ⟨t,true,c⟩ ⟨dk,dc,da,dd,dw,dp,dn⟩ e=[⟨t+ps,true,c⟩]:=by unfold newT; rw [hag,h3,hpe]; rfl
    rw [hnt] at hone
    have hA1':AInv (pushS (popS R n) n ⟨1,c,t+ps,put⟩) (n+1) (resT T++[⟨t+ps,true,c⟩]):=⟨hA1.len,hA1.heap,hA1.ok,hA1.perm.trans (List.perm_append_singleton ..).symm⟩
    have hI2:=hI.step hp hlt hm1 hone (List.Perm.refl _) hA1' (show 0≤put+1 by omega) (by omega) (by rw [hl1]; have:=hI.ag.len; omega)
    conv=>whnf
    exact ⟨(s',pushS (popS R n) n ⟨1,c,t+ps,put⟩,n+1,put+1,out++[Stp.mk 1 c],resT T++[⟨t+ps,true,c⟩]),[0,1,2,3,4,_,_],[],Sub.mk' rfl ⟨.inl rfl,.inl rfl,⟨rfl,rfl⟩,⟨rfl,rfl⟩,⟨rfl,by simp⟩,trivial⟩ ⟨⟨rfl,.inl rfl,.inl rfl,.inl rfl,.inl rfl,.inl rfl,⟨rfl,rfl⟩,⟨rfl,rfl⟩,⟨rfl,rfl⟩,trivial⟩,⟨rfl,rfl,rfl,rfl,.inl rfl⟩,⟨rfl,rfl,rfl,rfl⟩,⟨rfl,rfl,rfl,rfl⟩,⟨rfl,⟨rfl,rfl⟩,.inl rfl,trivial⟩,⟨rfl,rfl,rfl,rfl⟩,⟨rfl,rfl,rfl,hda⟩,trivial⟩ rfl rfl,hI2,by show most - (out++[_]).length<most - out.length; rw [List.length_append,List.length_singleton]; omega⟩
  replace g3:(e == 181)=false:=g3
  conv=>whnf
  refine csplit (fun g4 => ?_) (fun g4 => ?_)
  case refine_2 =>
   replace g4:(dk != 0)=false:=g4
   have hag:againB ⟨dk,dc,da,dd,dw,dp,dn⟩ e=false:=by rw [hagd,g3,g4]; rfl
   have h3:(dk == 3)=false:=(by have h:dk=0:=(by simpa using g4); rw [h]; rfl)
   have hnt:newT l ⟨t,true,c⟩ ⟨dk,dc,da,dd,dw,dp,dn⟩ e=[]:=by unfold newT; rw [hag,h3]; rfl
   rw [hnt,List.append_nil] at hone
   have hI2:=hI.step hp hlt hm1 hone (List.Perm.refl _) p3 hput0 (by omega) (by omega)
   conv=>whnf
   refine csplit (fun g=>ctf g h3) (fun _ => ?_)
   conv=>whnf
   exact ⟨(s',popS R n,n,put,out++[Stp.mk 1 c],resT T),[0,1,2,3,4,5,_],[],Sub.mk' rfl ⟨.inl rfl,.inl rfl,⟨rfl,rfl⟩,⟨rfl,rfl⟩,⟨rfl,by simp⟩,trivial⟩ ⟨⟨rfl,.inl rfl,.inl rfl,.inl rfl,.inl rfl,.inl rfl,⟨rfl,rfl⟩,⟨rfl,rfl⟩,⟨rfl,rfl⟩,trivial⟩,⟨rfl,rfl,rfl,rfl,.inl rfl⟩,⟨rfl,rfl,rfl,rfl⟩,⟨rfl,rfl,rfl,rfl⟩,⟨rfl,⟨rfl,rfl⟩,.inl rfl,trivial⟩,⟨rfl,rfl,rfl,rfl⟩,⟨rfl,rfl,rfl,hda⟩,trivial⟩ rfl rfl,hI2,by show most - (out++[_]).length<most - out.length; rw [List.length_append,List.length_singleton]; omega⟩
  replace g4:(dk != 0)=true:=g4
  conv=>whnf
  refine csplit (fun g5 => ?_) (fun g5 => ?_)
  case refine_2 =>
   replace g5:(dk != 7)=false:=g5
   have hag:againB ⟨dk,dc,da,dd,dw,dp,dn⟩ e=false:=by rw [hagd,g3,g4,g5]; rfl
   have h3:(dk == 3)=false:=(by have h:dk=7:=(by simpa using g5); rw [h]; rfl)
   have hnt:newT l ⟨t,true,c⟩ ⟨dk,dc,da,dd,dw,dp,dn⟩ e=[]:=by unfold newT; rw [hag,h3]; rfl
   rw [hnt,List.append_nil] at hone
   have hI2:=hI.step hp hlt hm1 hone (List.Perm.refl _) p3 hput0 (by omega) (by omega)
   conv=>whnf
   refine csplit (fun g=>ctf g h3) (fun _ => ?_)
   conv=>whnf
   exact ⟨(s',popS R n,n,put,out++[Stp.mk 1 c],resT T),[0,1,2,3,4,5,_],[],Sub.mk' rfl ⟨.inl rfl,.inl rfl,⟨rfl,rfl⟩,⟨rfl,rfl⟩,⟨rfl,by simp⟩,trivial⟩ ⟨⟨rfl,.inl rfl,.inl rfl,.inl rfl,.inl rfl,.inl rfl,⟨rfl,rfl⟩,⟨rfl,rfl⟩,⟨rfl,rfl⟩,trivial⟩,⟨rfl,rfl,rfl,rfl,.inl rfl⟩,⟨rfl,rfl,rfl,rfl⟩,⟨rfl,rfl,rfl,rfl⟩,⟨rfl,⟨rfl,rfl⟩,.inl rfl,trivial⟩,⟨rfl,rfl,rfl,rfl⟩,⟨rfl,rfl,rfl,hda⟩,trivial⟩ rfl rfl,hI2,by show most - (out++[_]).length<most - out.length; rw [List.length_append,List.length_singleton]; omega⟩
  replace g5:(dk != 7)=true:=g5
  have hag:againB ⟨dk,dc,da,dd,dw,dp,dn⟩ e=true:=by rw [hagd,g3,g4,g5]; rfl
  obtain ⟨hA1,hl1⟩:=p3.push (x:=⟨1,c,t+ps,put⟩) (T':=⟨t+ps,true,c⟩::resT T) (.inl rfl) (List.Perm.refl _)
  have had1:=s_add (popS R n) n put 1 c (t+ps) p3.len (by omega) ⟨hput0,by omega⟩
  have had2:=s_add (pushS (popS R n) n ⟨1,c,t+ps,put⟩) (n+1) (put+1) 2 c (t+pl) (by rw [hl1]; exact Nat.le_refl _) (by rw [hl1]; omega) ⟨by omega,by omega⟩
  conv=>whnf
  refine ⟨rfl,hmc.1,(show c<((l.map Pac.cells).length:Int) by rw [hlm]; omega),fun row hrow => ?_⟩
  obtain rfl:=hrowP hrow
  clear hrow
  conv=>whnf
  rw [hw1]
  refine acall.new [4,5] [] _ _ _ _ had1 rfl rfl rfl rfl aut aut rfl rfl ?_
  conv=>whnf
  refine ⟨by kernel_rfl,fun _ => ?_⟩
  conv=>whnf
  refine csplit (fun h3 => ?_) (fun h3 => ?_)
  ·replace h3:(dk == 3)=true:=h3
   have hnt:newT l ⟨t,true,c⟩ ⟨dk,dc,da,dd,dw,dp,dn⟩ e=[⟨t+pl,false,c⟩]++[⟨t+ps,true,c⟩]:=by unfold newT; rw [hag,h3,hpe]; rfl
   rw [hnt] at hone
   have hpm:(Thg.mk (t+pl) false c::Thg.mk (t+ps) true c::resT T).Perm (resT T++([Thg.mk (t+pl) false c]++[Thg.mk (t+ps) true c])):=List.perm_append_comm (l₁:=[Thg.mk (t+pl) false c,Thg.mk (t+ps) true c]) (l₂:=resT T)
   obtain ⟨hA2,hl2⟩:=hA1.push (x:=⟨2,c,t+pl,put+1⟩) (T':=resT T++([Thg.mk (t+pl) false c]++[Thg.mk (t+ps) true c])) (.inr rfl) hpm
   have hI2:=hI.step hp hlt hm1 hone (List.Perm.refl _) hA2 (show 0≤put+1+1 by omega) (by omega) (by rw [hl2]; have:=hI.ag.len; omega)
   conv=>whnf
   refine ⟨rfl,hmc.1,(show c<((l.map Pac.cells).length:Int) by rw [hlm]; omega),fun row hrow => ?_⟩
   obtain rfl:=hrowP hrow
   clear hrow
   conv=>whnf
   rw [hw2]
   refine acall.new [4,_] [] _ _ _ _ had2 rfl rfl rfl rfl aut aut rfl rfl ?_
   conv=>whnf
   refine ⟨by kernel_rfl,fun _ => ?_⟩
   conv=>whnf
   exact ⟨(s',pushS (pushS (popS R n) n ⟨1,c,t+ps,put⟩) (n+1) ⟨2,c,t+pl,put+1⟩,n+1+1,put+1+1,out++[Stp.mk 1 c],resT T++([⟨t+pl,false,c⟩]++[⟨t+ps,true,c⟩])),[0,1,2,3,4,_,_],[],Sub.mk' rfl ⟨.inl rfl,.inl rfl,⟨rfl,rfl⟩,⟨rfl,rfl⟩,⟨rfl,by simp⟩,trivial⟩ ⟨⟨rfl,.inl rfl,.inl rfl,.inl rfl,.inl rfl,.inl rfl,⟨rfl,rfl⟩,⟨rfl,rfl⟩,⟨rfl,rfl⟩,trivial⟩,⟨rfl,rfl,rfl,rfl,.inl rfl⟩,⟨rfl,rfl,rfl,rfl⟩,⟨rfl,rfl,rfl,rfl⟩,⟨rfl,⟨rfl,rfl⟩,.inl rfl,trivial⟩,⟨rfl,rfl,rfl,rfl⟩,⟨rfl,rfl,rfl,hda⟩,trivial⟩ rfl rfl,hI2,by show most - (out++[_]).length<most - out.length; rw [List.length_append,List.length_singleton]; omega⟩
  ·replace h3:(dk == 3)=false:=h3
   have hnt:newT l ⟨t,true,c⟩ ⟨dk,dc,da,dd,dw,dp,dn⟩ e=[⟨t+ps,true,c⟩]:=by unfold newT; rw [hag,h3,hpe]; rfl
   rw [hnt] at hone
   have hA1':AInv (pushS (popS R n) n ⟨1,c,t+ps,put⟩) (n+1) (resT T++[⟨t+ps,true,c⟩]):=⟨hA1.len,hA1.heap,hA1.ok,hA1.perm.trans (List.perm_append_singleton ..).symm⟩
   have hI2:=hI.step hp hlt hm1 hone (List.Perm.refl _) hA1' (show 0≤put+1 by omega) (by omega) (by rw [hl1]; have:=hI.ag.len; omega)
   conv=>whnf
   exact ⟨(s',pushS (popS R n) n ⟨1,c,t+ps,put⟩,n+1,put+1,out++[Stp.mk 1 c],resT T++[⟨t+ps,true,c⟩]),[0,1,2,3,4,_,_],[],Sub.mk' rfl ⟨.inl rfl,.inl rfl,⟨rfl,rfl⟩,⟨rfl,rfl⟩,⟨rfl,by simp⟩,trivial⟩ ⟨⟨rfl,.inl rfl,.inl rfl,.inl rfl,.inl rfl,.inl rfl,⟨rfl,rfl⟩,⟨rfl,rfl⟩,⟨rfl,rfl⟩,trivial⟩,⟨rfl,rfl,rfl,rfl,.inl rfl⟩,⟨rfl,rfl,rfl,rfl⟩,⟨rfl,rfl,rfl,rfl⟩,⟨rfl,⟨rfl,rfl⟩,.inl rfl,trivial⟩,⟨rfl,rfl,rfl,rfl⟩,⟨rfl,rfl,rfl,hda⟩,trivial⟩ rfl rfl,hI2,by show most - (out++[_]).length<most - out.length; rw [List.length_append,List.length_singleton]; omega⟩
 ·have hk:k=2:=hk
  subst hk
  have hm1:minT T=⟨t,false,c⟩:=p1.symm
  have hone:=oneT_eq (l:=l) (s:=s) hm1
  have hst:=k_step s hI.inv (by have:=hI.prints; omega) 2 c
  generalize stepS s 2 c=S at hst hone
  obtain ⟨s',⟨dk,dc,da,dd,dw,dp,dn⟩,e⟩:=S
  simp only at hst hone
  refine CutL.by (fun _:Unit=>⟨[(1,.tr (pacT l)),(2,.tr (ti most)),(9,.ptr 0 0),(12,.ptr 4 0),(14,.sl 6 out.length),(15,.ptr 7 0),(16,.ptr 8 0),(17,.tr (ti e))],[(0,maB s'),(1,csB s'.cores),(2,meB s'.mem),(3,prB s'.prints),(4,agC 5 n put),(5,coV (popS R n)),(6,stV out),(7,.cells 69 [.tr (tu 2),.tr (ti c),.tr (ti t),.tr (ti nu)]),(8,diB ⟨dk,dc,da,dd,dw,dp,dn⟩)],10⟩) (fun _=>True) ?_ ?_
  ·conv=>whnf
   rcases hst with hst | hst
   ·refine acall.au [0,1,2,3] [] hst ?_
    intro _
    conv=>whnf
    exact ⟨(),[0,1,2,3,4,5,6,_,_],[],Sub.mk' rfl ⟨.inl rfl,.inl rfl,⟨rfl,rfl⟩,⟨rfl,rfl⟩,⟨rfl,rfl⟩,⟨rfl,rfl⟩,⟨rfl,rfl⟩,.inl rfl,trivial⟩ ⟨⟨rfl,.inl rfl,.inl rfl,.inl rfl,.inl rfl,.inl rfl,⟨rfl,rfl⟩,⟨rfl,rfl⟩,⟨rfl,rfl⟩,trivial⟩,⟨rfl,rfl,rfl,rfl,.inl rfl⟩,⟨rfl,rfl,rfl,rfl⟩,⟨rfl,rfl,rfl,rfl⟩,⟨rfl,⟨rfl,rfl⟩,.inl rfl,trivial⟩,⟨rfl,rfl,rfl,rfl⟩,⟨rfl,rfl,rfl,rfl⟩,⟨rfl,.inl rfl,.inl rfl,.inl rfl,.inl rfl,trivial⟩,⟨rfl,.inl rfl,.inl rfl,.inl rfl,.inl rfl,.inl rfl,.inl rfl,.inl rfl,trivial⟩,trivial⟩ rfl rfl,trivial⟩
   ·refine acall.new [0,1,2,3] [] _ _ _ _ hst rfl rfl rfl rfl aut aut rfl rfl fun _ => ?_
    conv=>whnf
    exact ⟨(),[0,1,2,_,4,5,6,_,_],[],Sub.mk' rfl ⟨.inl rfl,.inl rfl,⟨rfl,rfl⟩,⟨rfl,rfl⟩,⟨rfl,rfl⟩,⟨rfl,rfl⟩,⟨rfl,rfl⟩,.inl rfl,trivial⟩ ⟨⟨rfl,.inl rfl,.inl rfl,.inl rfl,.inl rfl,.inl rfl,⟨rfl,rfl⟩,⟨rfl,rfl⟩,⟨rfl,rfl⟩,trivial⟩,⟨rfl,rfl,rfl,rfl,.inl rfl⟩,⟨rfl,rfl,rfl,rfl⟩,⟨rfl,rfl,rfl,rfl⟩,⟨rfl,⟨rfl,rfl⟩,.inl rfl,trivial⟩,⟨rfl,rfl,rfl,rfl⟩,⟨rfl,rfl,rfl,rfl⟩,⟨rfl,.inl rfl,.inl rfl,.inl rfl,.inl rfl,trivial⟩,⟨rfl,.inl rfl,.inl rfl,.inl rfl,.inl rfl,.inl rfl,.inl rfl,.inl rfl,trivial⟩,trivial⟩ rfl rfl,trivial⟩
  rintro - - -
  have hda:=hda 2
  have hI2:=hI.step hp hlt hm1 hone (List.Perm.refl _) p3 hput0 (by omega) (by omega)
  conv=>whnf
  refine ⟨rfl,rfl,rfl,(by rw [List.length_map]; exact Nat.le_refl _),(show (out.length+1)*16≤150000000000000 by omega),fun q hq => ?_,?_⟩
  ·cases hq with
   | head=>exact Nat.ne_of_beq_eq_false rfl
   | tail _ h=>cases h
  conv=>whnf
  refine ⟨fun _ => ?_,fun h=>absurd rfl h⟩
  conv=>whnf
  exact ⟨(s',popS R n,n,put,out++[Stp.mk 2 c],resT T),[0,1,2,3,4,5,_],[],Sub.mk' rfl ⟨.inl rfl,.inl rfl,⟨rfl,rfl⟩,⟨rfl,rfl⟩,⟨rfl,by simp⟩,trivial⟩ ⟨⟨rfl,.inl rfl,.inl rfl,.inl rfl,.inl rfl,.inl rfl,⟨rfl,rfl⟩,⟨rfl,rfl⟩,⟨rfl,rfl⟩,trivial⟩,⟨rfl,rfl,rfl,rfl,.inl rfl⟩,⟨rfl,rfl,rfl,rfl⟩,⟨rfl,rfl,rfl,rfl⟩,⟨rfl,⟨rfl,rfl⟩,.inl rfl,trivial⟩,⟨rfl,rfl,rfl,rfl⟩,⟨rfl,rfl,rfl,hda⟩,trivial⟩ rfl rfl,hI2,by show most - (out++[_]).length<most - out.length; rw [List.length_append,List.length_singleton]; omega⟩
end Go.Proofs.YtbflekglkkdipaaGreatDoor.am
namespace Go.Proofs.YtbflekglkkdipaaGreatDoor.am
open Go Go.Proofs
set_option linter.all false
theorem str_get {l:List ByteArray} {i:Nat} {row:List Tr} (h:(l.map srow)[i]? = some row) : ∃ x,l[i]? = some x∧row=srow x:=by
 rw [List.getElem?_map,Option.map_eq_some_iff] at h
 obtain ⟨x,h1,rfl⟩:=h
 exact ⟨x,h1,rfl⟩
theorem parG_drop {W:List ByteArray} {i:Nat} {w:ByteArray} {out:List Stp} {at_:Int} (h:W[i]? = some w):parG (W.drop i) out at_=bif !(wordR w).2.2 || lastIs out (wordR w).1 then ([],errSched,at_) else bif decide ((out.length:Int)+(wordR w).2.1 > 1048576) then ([],3,0) else parG (W.drop (i+1)) (out++List.replicate (wordR w).2.1.toNat (wordR w).1) (at_+w.size+1):=by
 have hlt:=(List.getElem?_eq_some_iff.1 h).1
 rw [List.drop_eq_getElem_cons hlt,(List.getElem?_eq_some_iff.1 h).2]
 rfl
theorem sp_len (s:ByteArray):(splitBl s).length≤s.size+1:=by
 rw [splitBl_len]
 have:=count_size s
 omega
theorem sp_size (s:ByteArray) : ∀ w ∈ splitBl s,w.size≤s.size:=splitB_size blank _ s
set_option maxRecDepth 100000 in
set_option maxHeartbeats 4000000 in
theorem s_parse (s:ByteArray) (hs:s.size≤4194304):K 10 [.tr (ts s)] [] (.ret (.tup [.tr (stepsT (parT s).1),.tr (ti (parT s).2.1),.tr (ti (parT s).2.2)])) []:=by
 have hsp:=k_split s (by omega)
 have hWl:=sp_len s
 have hWz:=sp_size s
 generalize hP:parT s=P
 unfold parT at hP
 generalize splitBl s=W at hsp hWl hWz hP
 have hWm:(W.map srow).length=W.length:=List.length_map ..
 refine Ctr.of hT hmix Tryz.func10 rfl (fun _ _=>by kernel_rfl) rfl fun hok => ?_
 clear hok
 conv=>whnf
 refine csplit (fun h1 => ?_) (fun h1 => ?_)
 ·replace h1:(s.toList == emB.toList)=true:=h1
  rw [h1] at hP
  have hP:(([]:List Stp),(0:Int),(0:Int))=P:=hP
  subst hP
  conv=>whnf
  exact ⟨⟨.inr ⟨rfl,_,_,rfl⟩,.inl rfl,.inl rfl,trivial⟩,trivial⟩
 replace h1:(s.toList == emB.toList)=false:=h1
 rw [h1] at hP
 have hP:parG W [] 0=P:=hP
 conv=>whnf
 refine acall.pure _ (hsp) rfl rfl fun _ => ?_
 conv=>whnf
 refine LoopL.by (fun x:List Stp × (Nat × Nat)=>⟨[(5,.sl 0 x.1.length),(6,.tr (ti x.2.2)),(15,.tr (strsT W)),(16,.tr (ti W.length)),(17,.tr (ti x.2.1))],[(0,stV x.1)],10⟩) (fun x=>x.2.1≤W.length∧x.1.length≤1048576∧x.2.2≤x.2.1*4194305∧parG (W.drop x.2.1) x.1 x.2.2=P) (fun x=>W.length - x.2.1) ([],0,0) [] [0]
  (Sub.mk' rfl ⟨⟨rfl,rfl,rfl,rfl⟩,.inl rfl,.inl rfl,.inl (by rw [← hWm]),.inl rfl,trivial⟩ ⟨⟨rfl,_,_,_,rfl,by decide⟩,trivial⟩ rfl rfl) ⟨Nat.zero_le _,Nat.zero_le _,Nat.zero_le _,hP⟩ ?_
 rintro ⟨out,i,a⟩ ⟨hi,hol,ha,hS⟩ -
 simp only at hi hol ha hS
 conv=>whnf
 refine csplit (fun hlt => ?_) (fun hge => ?_)
 ·have hlt:i<W.length:=by have:decide ((i:Int)<(W.length:Int))=true:=hlt; have:=of_decide_eq_true this; omega
  obtain ⟨w,hw⟩ : ∃ w,W[i]? = some w:=⟨W[i],by simp [hlt]⟩
  have hwz:=hWz w (List.mem_of_getElem? hw)
  rw [parG_drop hw] at hS
  have hsw:=s_word w (by omega)
  have hbk := @word_backR w
  generalize wordR w=r at hS hsw hbk
  obtain ⟨⟨xk,xc⟩,n,okw⟩:=r
  simp only at hS hsw hbk
  have hai:IntKind.i64.wrap ((a:Int)+IntKind.i64.wrap ((w.size:Int)+1))=((a+w.size+1:Nat):Int):=by
   have h3:a≤17592194433025:=by omega
   rw [w64 (n:=(w.size:Int)+1) (by omega) (by omega),w64 (by omega) (by omega)]; omega
  have ha':a+w.size+1≤(i+1)*4194305:=by omega
  conv=>whnf
  refine ⟨rfl,(show (0:Int)≤i by omega),(show (i:Int)<(W.map srow).length by rw [hWm]; omega),fun row hr => ?_⟩
  obtain ⟨w',hw',rfl⟩:=str_get hr
  obtain rfl:w=w':=Option.some.inj (hw.symm.trans hw')
  clear hr hw'
  conv=>whnf
  refine acall.pure _ (hsw) rfl rfl fun _ => ?_
  conv=>whnf
  cases okw
  ·have hS:(([]:List Stp),errSched,(a:Int))=P:=hS
   subst hS
   conv=>whnf
   refine ⟨by kernel_rfl,fun _ => ?_⟩
   conv=>whnf
   exact ⟨⟨.inr ⟨rfl,_,_,rfl⟩,.inl rfl,.inl rfl,trivial⟩,trivial⟩
  obtain ⟨m,hn,hm1,hm2,_,_⟩:=hbk rfl
  subst hn
  have hS:(bif lastIs out ⟨xk,xc⟩ then ([],errSched,(a:Int)) else bif decide ((out.length:Int)+(m:Int) > 1048576) then ([],3,0) else parG (W.drop (i+1)) (out++List.replicate (m:Int).toNat ⟨xk,xc⟩) (a+w.size+1))=P:=hS
  rw [Int.toNat_natCast] at hS
  have hom:IntKind.i64.wrap ((out.length:Int)+(m:Int))=((out.length+m:Nat):Int):=by rw [w64 (by omega) (by omega)]; omega
  cases hd:decide ((out.length:Int) > 0) with
  | false =>
   have h0:out=[]:=List.eq_nil_of_length_eq_zero (by have:=of_decide_eq_false hd; omega)
   rw [show lastIs out ⟨xk,xc⟩=false by rw [h0]; rfl,cond_false] at hS
   clear h0
   conv=>whnf
   rw [hd]
   conv=>whnf
   refine ⟨by kernel_rfl,fun _ => ?_⟩
   conv=>whnf
   rw [hom]
   cases hg:decide (((out.length+m:Nat):Int) > 1048576) with
   | true =>
    have hg':=of_decide_eq_true hg
    rw [decide_eq_true (show (out.length:Int)+(m:Int) > 1048576 by omega)] at hS
    have hS:(([]:List Stp),(3:Int),(0:Int))=P:=hS
    subst hS
    conv=>whnf
    exact ⟨⟨.inr ⟨rfl,_,_,rfl⟩,.inl rfl,.inl rfl,trivial⟩,trivial⟩
   | false =>
    have hg':=of_decide_eq_false hg
    rw [decide_eq_false (show ¬ ((out.length:Int)+(m:Int) > 1048576) by omega)] at hS
    have hS:parG (W.drop (i+1)) (out++List.replicate m ⟨xk,xc⟩) (a+w.size+1)=P:=hS
    conv=>whnf
    refine LoopL.by (fun j:Nat=>⟨[(5,.sl 0 (out.length+j)),(6,.tr (ti a)),(8,.tr (ts w)),(9,.ptr 1 0),(15,.tr (strsT W)),(16,.tr (ti W.length)),(17,.tr (ti i)),(50,.tr (ti m)),(51,.tr (ti j))],[(0,stV (out++List.replicate j ⟨xk,xc⟩)),(1,.cells 34 [.tr (tu xk),.tr (ti xc)])],10⟩) (fun j=>j≤m) (fun j=>m - j) 0 [0,_] []
     (Sub.mk' rfl ⟨⟨rfl,rfl⟩,.inl rfl,.inl rfl,⟨rfl,rfl⟩,.inl rfl,.inl rfl,.inl rfl,.inl rfl,.inl rfl,trivial⟩ ⟨⟨rfl,rfl,rfl,by rw [List.replicate_zero,List.append_nil]⟩,⟨rfl,.inl rfl,.inl rfl,trivial⟩,trivial⟩ rfl rfl) (Nat.zero_le _) ?_
    rintro j hj -
    have hjl:(out++List.replicate j (Stp.mk xk xc)).length=out.length+j:=by simp
    have hda:((out++List.replicate j (Stp.mk xk xc)).map Stp.cells).take (out.length+j)++[[tu xk,ti xc]]=(out++List.replicate (j+1) (Stp.mk xk xc)).map Stp.cells:=by
     rw [List.take_of_length_le (by rw [List.length_map,hjl]; exact Nat.le_refl _),List.replicate_succ',← List.append_assoc,List.map_append (l₁:=out++_)]; rfl
    conv=>whnf
    refine csplit (fun hjlt => ?_) (fun hjge => ?_)
    ·have hjlt:j<m:=by have:decide ((j:Int)<(m:Int))=true:=hjlt; have:=of_decide_eq_true this; omega
     conv=>whnf
     refine ⟨rfl,rfl,rfl,(by rw [List.length_map,hjl]; exact Nat.le_refl _),(show (out.length+j+1)*16≤150000000000000 by omega),fun q hq => ?_,?_⟩
     ·cases hq with
      | head=>exact Nat.ne_of_beq_eq_false rfl
      | tail _ h=>cases h
     conv=>whnf
     exact ⟨j+1,[_,1],[],Sub.mk' rfl ⟨⟨rfl,rfl⟩,.inl rfl,.inl rfl,⟨rfl,rfl⟩,.inl rfl,.inl rfl,.inl rfl,.inl rfl,.inl (ti_succ hjlt (by omega)),trivial⟩ ⟨⟨rfl,rfl,rfl,hda⟩,⟨rfl,.inl rfl,.inl rfl,trivial⟩,trivial⟩ rfl rfl,hjlt,by omega⟩
    ·have hjge:j=m:=by have:decide ((j:Int)<(m:Int))=false:=hjge; have:=of_decide_eq_false this; omega
     subst hjge
     conv=>whnf
     refine ⟨fun _ => ?_,fun h=>absurd rfl h⟩
     conv=>whnf
     exact ⟨(out++List.replicate j ⟨xk,xc⟩,i+1,a+w.size+1),[0],[],Sub.mk' rfl ⟨⟨rfl,hjl.symm⟩,.inl (congrArg ti hai),.inl rfl,.inl rfl,.inl (ti_succ hlt (by omega)),trivial⟩ ⟨⟨rfl,rfl,rfl,rfl⟩,trivial⟩ rfl rfl,⟨hlt,by show (out++_).length≤1048576; rw [hjl]; omega,ha',by exact_mod_cast hS⟩,by show W.length - (i+1)<W.length - i; omega⟩
  | true =>
   have h0:=of_decide_eq_true hd
   obtain ⟨⟨yk,yc⟩,hy⟩ : ∃ y,out[out.length - 1]? = some y:=⟨_,List.getElem?_eq_getElem (by omega)⟩
   have hla:lastIs out ⟨xk,xc⟩=((yk == xk) && ((yc == xc) && true)):=by
    unfold lastIs
    rw [List.getLast?_eq_getElem?,hy]
    by_cases e1:yk=xk <;> by_cases e2:yc=xc <;> simp [e1,e2]
   have hwl:IntKind.i64.wrap ((out.length:Int) - 1)=((out.length - 1:Nat):Int):=by rw [w64 (by omega) (by omega)]; omega
   have yget : ∀ row,(out.map Stp.cells)[out.length - 1]? = some row→row=[tu yk,ti yc]:=fun row hr=>by
    obtain ⟨d',hd',rfl⟩:=stp_get hr
    rw [Option.some.inj (hd'.symm.trans hy)]; rfl
   rw [hla] at hS
   conv=>whnf
   rw [hd]
   conv=>whnf
   rw [hwl]
   refine ⟨rfl,(show (0:Int)≤((out.length - 1:Nat):Int) by omega),(show ((out.length - 1:Nat):Int)<(out.length:Int) by omega),?_⟩
   conv=>whnf
   refine ⟨rfl,(by rw [List.length_map]; show out.length - 1<out.length; omega),fun row hrow => ?_⟩
   obtain rfl:=yget row hrow
   clear hrow
   refine ⟨Nat.le_of_ble_eq_true rfl,?_⟩
   conv=>whnf
   refine ⟨by kernel_rfl,fun _ => ?_⟩
   conv=>whnf
   generalize ((yk == xk) && ((yc == xc) && true))=B at hS ⊢
   clear hla
   cases B
   ·rw [cond_false] at hS
    conv=>whnf
    rw [hom]
    cases hg:decide (((out.length+m:Nat):Int) > 1048576) with
    | true =>
     have hg':=of_decide_eq_true hg
     rw [decide_eq_true (show (out.length:Int)+(m:Int) > 1048576 by omega)] at hS
     have hS:(([]:List Stp),(3:Int),(0:Int))=P:=hS
     subst hS
     conv=>whnf
     exact ⟨⟨.inr ⟨rfl,_,_,rfl⟩,.inl rfl,.inl rfl,trivial⟩,trivial⟩
    | false =>
     have hg':=of_decide_eq_false hg
     rw [decide_eq_false (show ¬ ((out.length:Int)+(m:Int) > 1048576) by omega)] at hS
     have hS:parG (W.drop (i+1)) (out++List.replicate m ⟨xk,xc⟩) (a+w.size+1)=P:=hS
     conv=>whnf
     refine LoopL.by (fun j:Nat=>⟨[(5,.sl 0 (out.length+j)),(6,.tr (ti a)),(8,.tr (ts w)),(9,.ptr 1 0),(15,.tr (strsT W)),(16,.tr (ti W.length)),(17,.tr (ti i)),(50,.tr (ti m)),(51,.tr (ti j))],[(0,stV (out++List.replicate j ⟨xk,xc⟩)),(1,.cells 34 [.tr (tu xk),.tr (ti xc)])],10⟩) (fun j=>j≤m) (fun j=>m - j) 0 [0,_] []
      (Sub.mk' rfl ⟨⟨rfl,rfl⟩,.inl rfl,.inl rfl,⟨rfl,rfl⟩,.inl rfl,.inl rfl,.inl rfl,.inl rfl,.inl rfl,trivial⟩ ⟨⟨rfl,rfl,rfl,by rw [List.replicate_zero,List.append_nil]⟩,⟨rfl,.inl rfl,.inl rfl,trivial⟩,trivial⟩ rfl rfl) (Nat.zero_le _) ?_
     rintro j hj -
     have hjl:(out++List.replicate j (Stp.mk xk xc)).length=out.length+j:=by simp
     have hda:((out++List.replicate j (Stp.mk xk xc)).map Stp.cells).take (out.length+j)++[[tu xk,ti xc]]=(out++List.replicate (j+1) (Stp.mk xk xc)).map Stp.cells:=by
      rw [List.take_of_length_le (by rw [List.length_map,hjl]; exact Nat.le_refl _),List.replicate_succ',← List.append_assoc,List.map_append (l₁:=out++_)]; rfl
     conv=>whnf
     refine csplit (fun hjlt => ?_) (fun hjge => ?_)
     ·have hjlt:j<m:=by have:decide ((j:Int)<(m:Int))=true:=hjlt; have:=of_decide_eq_true this; omega
      conv=>whnf
      refine ⟨rfl,rfl,rfl,(by rw [List.length_map,hjl]; exact Nat.le_refl _),(show (out.length+j+1)*16≤150000000000000 by omega),fun q hq => ?_,?_⟩
      ·cases hq with
       | head=>exact Nat.ne_of_beq_eq_false rfl
       | tail _ h=>cases h
      conv=>whnf
      exact ⟨j+1,[_,1],[],Sub.mk' rfl ⟨⟨rfl,rfl⟩,.inl rfl,.inl rfl,⟨rfl,rfl⟩,.inl rfl,.inl rfl,.inl rfl,.inl rfl,.inl (ti_succ hjlt (by omega)),trivial⟩ ⟨⟨rfl,rfl,rfl,hda⟩,⟨rfl,.inl rfl,.inl rfl,trivial⟩,trivial⟩ rfl rfl,hjlt,by omega⟩
     ·have hjge:j=m:=by have:decide ((j:Int)<(m:Int))=false:=hjge; have:=of_decide_eq_false this; omega
      subst hjge
      conv=>whnf
      refine ⟨fun _ => ?_,fun h=>absurd rfl h⟩
      conv=>whnf
      exact ⟨(out++List.replicate j ⟨xk,xc⟩,i+1,a+w.size+1),[0],[],Sub.mk' rfl ⟨⟨rfl,hjl.symm⟩,.inl (congrArg ti hai),.inl rfl,.inl rfl,.inl (ti_succ hlt (by omega)),trivial⟩ ⟨⟨rfl,rfl,rfl,rfl⟩,trivial⟩ rfl rfl,⟨hlt,by show (out++_).length≤1048576; rw [hjl]; omega,ha',by exact_mod_cast hS⟩,by show W.length - (i+1)<W.length - i; omega⟩
   ·have hS:(([]:List Stp),errSched,(a:Int))=P:=hS
    subst hS
    conv=>whnf
    exact ⟨⟨.inr ⟨rfl,_,_,rfl⟩,.inl rfl,.inl rfl,trivial⟩,trivial⟩
 ·have hge:i=W.length:=by have:decide ((i:Int)<(W.length:Int))=false:=hge; have:=of_decide_eq_false this; omega
  subst hge
  rw [List.drop_length] at hS
  have hS:(out,(0:Int),(0:Int))=P:=hS
  subst hS
  conv=>whnf
  refine ⟨fun _ => ?_,fun h=>absurd rfl h⟩
  conv=>whnf
  exact ⟨⟨⟨rfl,by rw [List.length_map]; exact Nat.le_refl _,by rw [List.take_of_length_le (by simp)]⟩,.inl rfl,.inl rfl,trivial⟩,trivial⟩
end Go.Proofs.YtbflekglkkdipaaGreatDoor.am
namespace Go.Proofs.YtbflekglkkdipaaGreatDoor.am
open Go Go.Proofs
set_option linter.all false
set_option maxRecDepth 100000 in
theorem z_sameSt (l:List Stp):K 6 [.tr (stepsT l),.tr (stepsT l)] [] (.ret (.tr (tb true))) []:=by
 refine Ctr.of hT hmix Tryz.func6 rfl (fun _ _=>by kernel_rfl) rfl fun hok => ?_
 have hl:=(hok.slot 0 rfl).tr.lst.2.1
 have hlm:(l.map Stp.cells).length=l.length:=List.length_map ..
 rw [hlm] at hl
 clear hok
 conv=>whnf
 refine csplit (fun h=>absurd h (by simp)) (fun _ => ?_)
 conv=>whnf
 refine LoopL.by (fun i:Nat=>⟨[(0,.tr (stepsT l)),(1,.tr (stepsT l)),(5,.tr (ti i))],[],10⟩) (fun i=>i≤l.length) (fun i=>l.length - i) 0 [] [] (Sub.mk' rfl ⟨.inl rfl,.inl rfl,.inl rfl,trivial⟩ trivial rfl rfl) (Nat.zero_le _) ?_
 rintro i hi -
 conv=>whnf
 refine csplit (fun hlt => ?_) (fun hge => ?_)
 ·have hlt:i<l.length:=by
   have hlt:decide ((i:Int)<((l.map Stp.cells).length:Int))=true:=hlt
   have:=of_decide_eq_true hlt
   omega
  obtain ⟨d,hd⟩ : ∃ d,l[i]? = some d:=⟨l[i],by simp [hlt]⟩
  conv=>whnf
  refine ⟨rfl,(show (0:Int)≤i by omega),(show (i:Int)<(l.map Stp.cells).length by rw [hlm]; omega),fun row hr => ?_⟩
  obtain ⟨d',hd',rfl⟩:=stp_get hr
  obtain rfl:d=d':=Option.some.inj (hd.symm.trans hd')
  clear hr hd'
  obtain ⟨k1,k2⟩:=d
  conv=>whnf
  refine ⟨rfl,(show (0:Int)≤i by omega),(show (i:Int)<(l.map Stp.cells).length by rw [hlm]; omega),fun row hr => ?_⟩
  obtain ⟨d',hd',rfl⟩:=stp_get hr
  obtain rfl:=Option.some.inj (hd.symm.trans hd')
  clear hr hd'
  conv=>whnf
  refine ⟨by kernel_rfl,fun _ => ?_⟩
  conv=>whnf
  refine csplit (fun h=>absurd h (by simp)) (fun _ => ?_)
  conv=>whnf
  exact ⟨i+1,[],[],Sub.mk' rfl ⟨.inl rfl,.inl rfl,.inl (ti_succ hlt hl),trivial⟩ trivial rfl rfl,hlt,by omega⟩
 ·have hge:i=l.length:=by
   have hge:decide ((i:Int)<((l.map Stp.cells).length:Int))=false:=hge
   have:=of_decide_eq_false hge
   omega
  conv=>whnf
  refine ⟨fun _ => ?_,fun h=>absurd rfl h⟩
  conv=>whnf
  exact ⟨.inl rfl,trivial⟩
def oneI:List Ins:=[⟨1,0,0,0,0,0,0,1,0⟩,⟨4,0,0,0,0,0,0,0,0⟩,⟨10,0,0,0,0,0,0,0,0⟩]
def oneO:Ob:=⟨[0],0,0,1,[⟨⟨#[65]⟩,oneI⟩]⟩
def oneL:List Stp:=[⟨1,0⟩,⟨1,0⟩,⟨1,0⟩,⟨2,0⟩]
theorem oneO_check:(checkO oneO).1=0:=by kernel_rfl
theorem one_timed:(timedR oneO [⟨2,5⟩] 99).2.2=oneL:=by kernel_rfl
theorem one_timed1:((timedR oneO [⟨2,5⟩] 99).2.1.length == 0)=true:=by kernel_rfl
theorem one_turns:(turnsR oneO 9).2=oneL:=by kernel_rfl
theorem one_turns1:endedB (turnsR oneO 9).1=true:=by kernel_rfl
theorem one_print:prtT oneL=(⟨#[114,48,120,51,32,100,48]⟩,0):=by kernel_rfl
theorem one_parse:parT ⟨#[114,48,120,51,32,100,48]⟩=(oneL,0,0):=by kernel_rfl
theorem one_over:(parT ⟨#[114,48,32,114,48]⟩).2=(260,3):=by kernel_rfl
theorem oneI_leaf:leafR (oneI.map Ins.cells):=code_leaf0 oneI
set_option maxRecDepth 100000 in
theorem s_one:K 8 [] [] (.ret oneO.av) []:=by
 refine Ctr.pk [] hT hmix Tryz.func8 rfl (fun _ _=>by kernel_rfl) rfl fun hok => ?_
 clear hok
 conv=>whnf
 refine ⟨[7],?_⟩
 conv=>whnf
 refine ⟨rfl,rfl,by decide,oneI_leaf,?_⟩
 exact ⟨[],rfl,rfl,⟨⟨rfl,by decide,rfl⟩,.inl rfl,.inl rfl,.inl rfl,⟨rfl,by decide,rfl⟩,trivial⟩,trivial⟩
theorem acall.sn2 {P:Program} {m:Mem} {nh f h n:Nat} {x:AV} {xs:List AV} {K:EE} (ars:List AV) (res:AE) (hc:Ctr P f ars [] res [])
  (h5:cvL m [] [] (seenS [] [h]) (x :: .sl h n::xs) ars) (h7:(m h).isSome=true) (h8:res.lowH 0=true)
  (hK:K (res.out []) (rdOf m [h]) (callUp [] [h] res [])):acall P m nh f (x :: .sl h n::xs) K :=
 acall.gen [] [h] ars [] res [] hc rfl rfl rfl rfl h5 trivial (by simp [h7]) h8 hK
set_option maxRecDepth 100000 in
theorem s_begins:K 4 [] [] (.ret (.tr (tb true))) []:=by
 have h1:=s_one
 have hti:=s_timed oneO [⟨2,5⟩] 99 oneO_check rfl (by decide) (by decide)
 rw [one_timed,one_timed1] at hti
 have htu:=s_turns oneO 9 oneO_check (by decide)
 rw [one_turns,one_turns1] at htu
 have hpr:=s_print oneL
 rw [one_print] at hpr
 obtain ⟨S,hS⟩ : ∃ S:ByteArray,S=⟨#[114,48,120,51,32,100,48]⟩:=⟨_,rfl⟩
 replace hpr:K 9 [.tr (stepsT oneL)] [] (.ret (.tup [.tr (ts S),.tr (ti 0)])) []:=by rw [hS]; exact hpr
 have e:(S.toList == ByteArray.toList ⟨#[114,48,120,51,32,100,48]⟩)=true:=by rw [hS]; exact beq_self_eq_true _
 clear hS
 have hpa:=s_parse ⟨#[114,48,120,51,32,100,48]⟩ (by decide)
 rw [one_parse] at hpa
 have hov:=s_parse ⟨#[114,48,32,114,48]⟩ (by decide)
 have hsa:=z_sameSt oneL
 rw [one_over] at hov
 generalize (parT ⟨#[114,48,32,114,48]⟩).1=ov at hov
 refine Ctr.of hT hmix Tryz.func4 rfl (fun _ _=>by kernel_rfl) rfl fun hok => ?_
 clear hok
 conv=>whnf
 refine acall.pure _ (h1) rfl rfl fun _ => ?_
 conv=>whnf
 refine acall.sn2 _ _ hti ⟨⟨.inl rfl,.inl rfl,.inl rfl,.inl rfl,.inl rfl,trivial⟩,⟨rfl,by decide,rfl⟩,.inl rfl,trivial⟩ rfl rfl fun _ => ?_
 conv=>whnf
 refine acall.pure _ (hpr) rfl rfl fun _ => ?_
 conv=>whnf
 refine acall.pure _ (hpa) rfl rfl fun _ => ?_
 conv=>whnf
 refine acall.pure _ (hov) rfl rfl fun _ => ?_
 conv=>whnf
 refine acall.pure _ (h1) rfl rfl fun _ => ?_
 conv=>whnf
 refine acall.pure _ (htu) rfl rfl fun _ => ?_
 conv=>whnf
 (repeat (refine csplit (fun _ => ?_) (fun g=>ctf e g); conv=>whnf))
 refine acall.pure _ (hsa) rfl rfl fun _ => ?_
 conv=>whnf
 refine acall.pure _ (hsa) rfl rfl fun _ => ?_
 conv=>whnf
 exact ⟨.inl rfl,trivial⟩
end Go.Proofs.YtbflekglkkdipaaGreatDoor.am
namespace Go.Proofs.YtbflekglkkdipaaGreatDoor.am
open Go Go.Proofs
set_option linter.all false
theorem stp_setO (l:List Stp) (i:Nat) (w:Stp) {row:List Tr} (h:row.length=2):(l.map Stp.cells).set i (row.take 0++w.cells++row.drop (0+2))=(l.set i w).map Stp.cells:=by
 rw [List.map_set,List.take_zero,List.nil_append,List.drop_of_length_le (by omega),List.append_nil]
set_option maxRecDepth 100000 in
set_option maxHeartbeats 2000000 in
theorem kSOwn (o:Ob) (l:List Stp) (p:List Prn):K 3 [o.av,.tr (stepsT l),.tr (prT p)] [] (.ret (.tr (tb true))) []:=by
 have hb:=s_begins
 have h2:=s_shrink o l p
 have hsa1:=z_sameSt l
 have hlm:(l.map Stp.cells).length=l.length:=List.length_map ..
 by_cases hz:(shrinkR o l p).2=0
 ·obtain ⟨g1,g2,g3,e⟩:(checkO o).1=0∧l.length≤1024∧showB o l p=true∧shrinkR o l p=(shrL o p l,0):=by
   rcases shrinkR_cases o l p with ⟨g1,e⟩ | ⟨g1,g2,e⟩ | ⟨g1,g2,_,e⟩ | ⟨g1,g2,g3,e⟩
   ·rw [e] at hz; exact absurd hz g1
   ·rw [e] at hz; cases hz
   ·rw [e] at hz; cases hz
   ·exact ⟨g1,g2,g3,e⟩
  have h1:=s_shrinkO o l p g1 g2 g3
  have hFl:(shrL o p l).length≤l.length:=(shrL_prop o p g3).1.length_le
  rw [e] at h2
  simp only at h2
  clear e hz
  generalize shrL o p l=F at h1 h2 hFl
  have hsa2:=z_sameSt F
  have hFm:(F.map Stp.cells).length=F.length:=List.length_map ..
  obtain ⟨memory,shared,locks,buffer,cores⟩:=o
  clear g1 g3
  refine Ctr.cut [4,5,6,11] hT hmix Tryz.func3 rfl (fun _ _=>by kernel_rfl) rfl fun hok => ?_
  clear hok
  conv=>whnf
  refine acall.pure _ (hb) rfl rfl fun _ => ?_
  conv=>whnf
  refine CutL.by (fun _:Unit=>⟨[(1,.tr (stepsT l)),(2,.tr (prT p)),(3,.ptr 0 0),(7,.tr (stepsT l))],[(0,.cells 25 [.tr (intsT memory),.tr (ti shared),.tr (ti locks),.tr (ti buffer),.tr (coresT cores)])],10⟩) (fun _=>True) ?_ ?_
  ·conv=>whnf
   refine ⟨rfl,rfl,rfl,Nat.zero_le _,(by show (0+(l.map Stp.cells).length)*16≤150000000000000; rw [hlm]; omega),(fun q hq=>by cases hq),?_⟩
   conv=>whnf
   exact ⟨(),[0],[],Sub.mk' rfl ⟨.inl rfl,.inl rfl,⟨rfl,rfl⟩,⟨rfl,by simp,by simp [List.take_of_length_le]⟩,trivial⟩ ⟨⟨rfl,.inl rfl,.inl rfl,.inl rfl,.inl rfl,.inl rfl,trivial⟩,trivial⟩ rfl rfl,trivial⟩
  rintro - - -
  conv=>whnf
  refine CutL.by (fun _:Unit=>⟨[(1,.tr (stepsT l)),(2,.tr (prT p)),(3,.ptr 0 0),(7,.tr (stepsT l)),(8,.sl 1 F.length),(9,.tr (ti 0))],[(0,.cells 25 [.tr (intsT memory),.tr (ti shared),.tr (ti locks),.tr (ti buffer),.tr (coresT cores)]),(1,stO F)],10⟩) (fun _=>True) ?_ ?_
  ·conv=>whnf
   refine acall.new [] [] _ _ _ _ h1 rfl rfl rfl rfl aut aut rfl rfl fun _ => ?_
   conv=>whnf
   exact ⟨(),[0,_],[],Sub.mk' rfl ⟨.inl rfl,.inl rfl,⟨rfl,rfl⟩,.inl rfl,⟨rfl,rfl⟩,.inl rfl,trivial⟩ ⟨⟨rfl,.inl rfl,.inl rfl,.inl rfl,.inl rfl,.inl rfl,trivial⟩,⟨rfl,rfl,rfl,rfl,.inl rfl⟩,trivial⟩ rfl rfl,trivial⟩
  rintro - - -
  clear h1
  conv=>whnf
  refine CutL.by (fun _:Unit=>⟨[(1,.tr (stepsT l)),(2,.tr (prT p)),(3,.ptr 0 0),(7,.tr (stepsT l)),(8,.sl 1 F.length),(9,.tr (ti 0)),(10,.tr (stepsT F))],[(0,.cells 25 [.tr (intsT memory),.tr (ti shared),.tr (ti locks),.tr (ti buffer),.tr (coresT cores)]),(1,stO F)],10⟩) (fun _=>True) ?_ ?_
  ·conv=>whnf
   refine ⟨stp_leaf F,hFm.symm,rfl,rfl,rfl,Nat.zero_le _,(by show (0+(F.map Stp.cells).length)*16≤150000000000000; rw [hFm]; omega),(fun q hq=>by simp at hq; subst hq; simp),?_⟩
   conv=>whnf
   exact ⟨(),[0,1],[],Sub.mk' rfl ⟨.inl rfl,.inl rfl,⟨rfl,rfl⟩,.inl rfl,⟨rfl,rfl⟩,.inl rfl,⟨rfl,by simp,by simp [List.take_of_length_le]⟩,trivial⟩ ⟨⟨rfl,.inl rfl,.inl rfl,.inl rfl,.inl rfl,.inl rfl,trivial⟩,⟨rfl,rfl,rfl,rfl,.inl rfl⟩,trivial⟩ rfl rfl,trivial⟩
  rintro - - -
  conv=>whnf
  refine LoopL.by (fun x:List Stp × Nat=>⟨[(1,.tr (stepsT l)),(2,.tr (prT p)),(3,.ptr 0 0),(7,.tr (stepsT l)),(8,.sl 1 F.length),(9,.tr (ti 0)),(10,.tr (stepsT F)),(11,.tr (ti x.2))],[(0,.cells 25 [.tr (intsT memory),.tr (ti shared),.tr (ti locks),.tr (ti buffer),.tr (coresT cores)]),(1,stO x.1)],10⟩) (fun x=>x.1.length=F.length∧x.2≤F.length) (fun x=>F.length - x.2) (F,0) [0,1] []
   (Sub.mk' rfl ⟨.inl rfl,.inl rfl,⟨rfl,rfl⟩,.inl rfl,⟨rfl,rfl⟩,.inl rfl,.inl rfl,.inl rfl,trivial⟩ ⟨⟨rfl,.inl rfl,.inl rfl,.inl rfl,.inl rfl,.inl rfl,trivial⟩,⟨rfl,rfl,rfl,rfl,.inl rfl⟩,trivial⟩ rfl rfl) ⟨rfl,Nat.zero_le _⟩ ?_
  rintro ⟨A,i⟩ ⟨hA,hi⟩ -
  simp only at hA hi
  have hAm:(A.map Stp.cells).length=F.length:=by rw [List.length_map,hA]
  conv=>whnf
  refine csplit (fun hlt => ?_) (fun hge => ?_)
  ·have hlt:i<F.length:=by have:decide ((i:Int)<(F.length:Int))=true:=hlt; have:=of_decide_eq_true this; omega
   conv=>whnf
   refine ⟨rfl,(show (0:Int)≤i by omega),(show (i:Int)<(F.length:Int) by omega),?_⟩
   conv=>whnf
   refine ⟨rfl,rfl,rfl,(by show i<(A.map Stp.cells).length; omega),trivial,fun row hrow => ?_⟩
   obtain ⟨d,hd,rfl⟩:=stp_get hrow
   clear hrow hd
   refine ⟨(show 0+2≤2 by decide),?_⟩
   conv=>whnf
   exact ⟨(A.set i ⟨0,0⟩,i+1),[0,1],[],Sub.mk' rfl ⟨.inl rfl,.inl rfl,⟨rfl,rfl⟩,.inl rfl,⟨rfl,rfl⟩,.inl rfl,.inl rfl,.inl (ti_succ hlt (by omega)),trivial⟩ ⟨⟨rfl,.inl rfl,.inl rfl,.inl rfl,.inl rfl,.inl rfl,trivial⟩,⟨rfl,rfl,rfl,rfl,.inl (stp_setO A i ⟨0,0⟩ (row:=d.cells) rfl)⟩,trivial⟩ rfl rfl,⟨by show (A.set i _).length=_; rw [List.length_set]; exact hA,hlt⟩,by show F.length - (i+1)<F.length - i; omega⟩
  ·have hge:i=F.length:=by have:decide ((i:Int)<(F.length:Int))=false:=hge; have:=of_decide_eq_false this; omega
   conv=>whnf
   refine ⟨fun _ => ?_,fun h=>absurd rfl h⟩
   conv=>whnf
   refine CutL.by (fun _:Unit=>⟨[(1,.tr (stepsT l)),(2,.tr (prT p)),(3,.ptr 0 0),(7,.tr (stepsT l)),(8,.sl 1 (F.length+2)),(9,.tr (ti 0)),(10,.tr (stepsT F))],[(0,.cells 25 [.tr (intsT memory),.tr (ti shared),.tr (ti locks),.tr (ti buffer),.tr (coresT cores)]),(1,stO (A++[⟨0,0⟩,⟨0,0⟩]))],10⟩) (fun _=>True) ?_ ?_
   ·conv=>whnf
    refine ⟨hAm.symm,rfl,(show 1≤2 by decide),(by show (F.length+2)*16≤150000000000000; omega),trivial,stp_leaf [⟨0,0⟩,⟨0,0⟩],trivial,?_⟩
    conv=>whnf
    exact ⟨(),[0,_],[],Sub.mk' rfl ⟨.inl rfl,.inl rfl,⟨rfl,rfl⟩,.inl rfl,⟨rfl,rfl⟩,.inl rfl,.inl rfl,trivial⟩ ⟨⟨rfl,.inl rfl,.inl rfl,.inl rfl,.inl rfl,.inl rfl,trivial⟩,⟨rfl,rfl,rfl,rfl,.inl (by rw [List.map_append]; rfl)⟩,trivial⟩ rfl rfl,trivial⟩
   rintro - - -
   conv=>whnf
   refine acall.pure _ (h2) rfl rfl fun _ => ?_
   conv=>whnf
   refine acall.pure _ (hsa2) rfl rfl fun _ => ?_
   conv=>whnf
   refine acall.pure _ (hsa1) rfl rfl fun _ => ?_
   conv=>whnf
   have e1:decide (((F.length+2:Nat):Int) ≥ 2)=true:=decide_eq_true (by omega)
   refine ⟨.inl (congrArg tb e1),trivial⟩
 ·have h1:=s_shrinkN o l p hz
  have e0:(shrinkR o l p).1=[]:=by
   rcases shrinkR_cases o l p with ⟨g1,e⟩ | ⟨g1,g2,e⟩ | ⟨g1,g2,_,e⟩ | ⟨g1,g2,g3,e⟩
   ·rw [e]
   ·rw [e]
   ·rw [e]
   ·rw [e] at hz; exact absurd rfl hz
  rw [e0] at h2
  clear hz e0
  generalize (shrinkR o l p).2=w at h1 h2
  have hsa2:=z_sameSt []
  obtain ⟨memory,shared,locks,buffer,cores⟩:=o
  refine Ctr.cut [4,5,6,11] hT hmix Tryz.func3 rfl (fun _ _=>by kernel_rfl) rfl fun hok => ?_
  obtain ⟨_,hb1,_⟩:=(hok.slot 1 rfl).tr.lst
  rw [hlm] at hb1
  clear hok
  conv=>whnf
  refine acall.pure _ (hb) rfl rfl fun _ => ?_
  conv=>whnf
  refine CutL.by (fun _:Unit=>⟨[(1,.tr (stepsT l)),(2,.tr (prT p)),(3,.ptr 0 0),(7,.tr (stepsT l))],[(0,.cells 25 [.tr (intsT memory),.tr (ti shared),.tr (ti locks),.tr (ti buffer),.tr (coresT cores)])],10⟩) (fun _=>True) ?_ ?_
  ·conv=>whnf
   refine ⟨rfl,rfl,rfl,Nat.zero_le _,(by show (0+(l.map Stp.cells).length)*16≤150000000000000; rw [hlm]; omega),(fun q hq=>by cases hq),?_⟩
   conv=>whnf
   exact ⟨(),[0],[],Sub.mk' rfl ⟨.inl rfl,.inl rfl,⟨rfl,rfl⟩,⟨rfl,by simp,by simp [List.take_of_length_le]⟩,trivial⟩ ⟨⟨rfl,.inl rfl,.inl rfl,.inl rfl,.inl rfl,.inl rfl,trivial⟩,trivial⟩ rfl rfl,trivial⟩
  rintro - - -
  conv=>whnf
  refine CutL.by (fun _:Unit=>⟨[(1,.tr (stepsT l)),(2,.tr (prT p)),(3,.ptr 0 0),(7,.tr (stepsT l)),(8,.tr (.v (.slice none 0 0))),(9,.tr (ti w))],[(0,.cells 25 [.tr (intsT memory),.tr (ti shared),.tr (ti locks),.tr (ti buffer),.tr (coresT cores)])],10⟩) (fun _=>True) ?_ ?_
  ·conv=>whnf
   refine acall.pure _ (h1) rfl rfl fun _ => ?_
   conv=>whnf
   exact ⟨(),[0],[],Sub.mk' rfl ⟨.inl rfl,.inl rfl,⟨rfl,rfl⟩,.inl rfl,.inl rfl,.inl rfl,trivial⟩ ⟨⟨rfl,.inl rfl,.inl rfl,.inl rfl,.inl rfl,.inl rfl,trivial⟩,trivial⟩ rfl rfl,trivial⟩
  rintro - - -
  conv=>whnf
  refine CutL.by (fun _:Unit=>⟨[(1,.tr (stepsT l)),(2,.tr (prT p)),(3,.ptr 0 0),(7,.tr (stepsT l)),(8,.tr (.v (.slice none 0 0))),(9,.tr (ti w)),(10,.tr (stepsT []))],[(0,.cells 25 [.tr (intsT memory),.tr (ti shared),.tr (ti locks),.tr (ti buffer),.tr (coresT cores)])],10⟩) (fun _=>True) ?_ ?_
  ·conv=>whnf
   refine ⟨rfl,rfl,rfl,Nat.zero_le _,(by decide),(fun q hq=>by cases hq),?_⟩
   conv=>whnf
   exact ⟨(),[0],[],Sub.mk' rfl ⟨.inl rfl,.inl rfl,⟨rfl,rfl⟩,.inl rfl,.inl rfl,.inl rfl,⟨rfl,by simp,by simp⟩,trivial⟩ ⟨⟨rfl,.inl rfl,.inl rfl,.inl rfl,.inl rfl,.inl rfl,trivial⟩,trivial⟩ rfl rfl,trivial⟩
  rintro - - -
  conv=>whnf
  refine LoopL.un 1 ?_
  conv=>whnf
  refine ⟨fun _ => ?_,fun h=>absurd rfl h⟩
  conv=>whnf
  refine CutL.by (fun _:Unit=>⟨[(1,.tr (stepsT l)),(2,.tr (prT p)),(3,.ptr 0 0),(7,.tr (stepsT l)),(8,.sl 1 2),(9,.tr (ti w)),(10,.tr (stepsT []))],[(0,.cells 25 [.tr (intsT memory),.tr (ti shared),.tr (ti locks),.tr (ti buffer),.tr (coresT cores)]),(1,.vec 34 2 16 ([⟨0,0⟩,⟨0,0⟩].map Stp.cells))],10⟩) (fun _=>True) ?_ ?_
  ·conv=>whnf
   refine ⟨by decide,?_⟩
   conv=>whnf
   exact ⟨(),[0,_],[],Sub.mk' rfl ⟨.inl rfl,.inl rfl,⟨rfl,rfl⟩,.inl rfl,⟨rfl,rfl⟩,.inl rfl,.inl rfl,trivial⟩ ⟨⟨rfl,.inl rfl,.inl rfl,.inl rfl,.inl rfl,.inl rfl,trivial⟩,⟨rfl,rfl,rfl,rfl⟩,trivial⟩ rfl rfl,trivial⟩
  rintro - - -
  conv=>whnf
  refine acall.pure _ (h2) rfl rfl fun _ => ?_
  conv=>whnf
  have e1:(w == w)=true:=beq_self_eq_true _
  (repeat (refine csplit (fun _ => ?_) (fun g=>ctf e1 g); conv=>whnf))
  refine acall.pure _ (hsa2) rfl rfl fun _ => ?_
  conv=>whnf
  (repeat (refine csplit (fun _ => ?_) (fun g=>ctf e1 g); conv=>whnf))
  refine acall.pure _ (hsa1) rfl rfl fun _ => ?_
  conv=>whnf
  (repeat (refine csplit (fun _ => ?_) (fun g=>ctf e1 g); conv=>whnf))
  exact ⟨.inl rfl,trivial⟩
end Go.Proofs.YtbflekglkkdipaaGreatDoor.am

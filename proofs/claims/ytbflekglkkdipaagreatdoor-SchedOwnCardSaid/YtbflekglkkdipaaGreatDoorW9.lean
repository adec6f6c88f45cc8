/- Plain: what a step leaves, and what it tells. Contracts of the reference's machine: New, Waits. Contracts of vm: Ended, Prints, Ready. -/
import Derived.Test.YtbflekglkkdipaaGreatDoorW8
set_option linter.all false
namespace Go.Proofs.YtbflekglkkdipaaGreatDoor.am
open Go Go.Proofs
end Go.Proofs.YtbflekglkkdipaaGreatDoor.am
namespace Go.Proofs.YtbflekglkkdipaaGreatDoor.am
open Go Go.Proofs
abbrev csT (l:List Cst):Tr := .lst 19 168 (l.map Cst.row)
abbrev prT (l:List Prn):Tr := .lst 2 16 (l.map Prn.row)
theorem regs16 {l:List Int} (h:l.length=16) : ∃ r0 r1 r2 r3 r4 r5 r6 r7 r8 r9 r10 r11 r12 r13 r14 r15,l=[r0,r1,r2,r3,r4,r5,r6,r7,r8,r9,r10,r11,r12,r13,r14,r15]:=by
 match l,h with
 | [r0,r1,r2,r3,r4,r5,r6,r7,r8,r9,r10,r11,r12,r13,r14,r15],_=>exact ⟨_,_,_,_,_,_,_,_,_,_,_,_,_,_,_,_,rfl⟩
end Go.Proofs.YtbflekglkkdipaaGreatDoor.am
namespace Go.Proofs.YtbflekglkkdipaaGreatDoor.am
open Go Go.Proofs
set_option linter.all false
def runsB (c:Cst):Bool := !c.halted || decide ((c.buf.length:Int) > 0)
set_option maxRecDepth 100000 in
theorem s_ended1 (c:Cst) (h16:c.regs.length=16):K 58 [.agg (c.row.map .tr)] [] (.ret (.tr (tb (runsB c)))) []:=by
 obtain ⟨ca,ch,cr,cb⟩:=c
 simp only at h16
 obtain ⟨r0,r1,r2,r3,r4,r5,r6,r7,r8,r9,r10,r11,r12,r13,r14,r15,rfl⟩:=regs16 h16
 have hbl:(cb.map Sto.row).length=cb.length:=List.length_map ..
 generalize hB:runsB _=B
 unfold runsB at hB
 simp only at hB
 rw [← hbl] at hB
 refine Ctr.of hT hmix Tryz.func58 rfl (fun _ _=>by kernel_rfl) rfl fun hok => ?_
 clear hok
 conv=>whnf
 refine .inl ?_
 conv=>whnf
 cases ch
 ·conv=>whnf
  exact ⟨.inl (congrArg tb hB),trivial⟩
 ·conv=>whnf
  exact ⟨.inl (congrArg tb hB),trivial⟩
end Go.Proofs.YtbflekglkkdipaaGreatDoor.am

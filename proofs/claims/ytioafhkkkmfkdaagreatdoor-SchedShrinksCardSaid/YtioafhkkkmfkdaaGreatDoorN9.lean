/- Contracts of the reference's words: Do, One. Contracts of trace: Of. Contracts of trace: stepOf. Contracts of trace: Steps. Contracts of trace: Check. Plain: what a step leaves, and what it tells. Contracts of the reference's machine: New, Waits. Contracts of vm: Ended, Prints, Ready. Contracts of the reference's machine: Copy, what a load sees. Contracts of the reference's machine: Run. Contracts of the reference's machine: Copy, as one sees it; Drain. Contracts of the reference's machine: Run, Step, in one. Contracts of the reference: right objects. -/
import Derived.Test.YtioafhkkkmfkdaaGreatDoorN7
import Derived.Test.YtioafhkkkmfkdaaGreatDoorN8
set_option linter.all false

namespace Go.Proofs.YtioafhkkkmfkdaaGreatDoor.am
open Go Go.Proofs
theorem ofInt_u64 (b : Int) : BitVec.ofInt 64 (IntKind.u64.wrap b) = BitVec.ofInt 64 b := by
  apply BitVec.eq_of_toNat_eq
  simp only [BitVec.toNat_ofInt, IntKind.wrap, IntKind.signed, IntKind.bits, Bool.false_and]
  congr 1
  show (b % 2 ^ 64) % (2 ^ 64 : Nat) = b % (2 ^ 64 : Nat)
  omega
theorem and63 (b : Int) : (BitVec.ofInt 64 b &&& BitVec.ofInt 64 63).toNat ≤ 63 := by
  rw [BitVec.toNat_and]
  exact Nat.and_le_right
def shR (b : Int) : Nat := min (IntKind.u64.wrap (IntKind.i64.wrap ((BitVec.ofInt IntKind.i64.bits b &&& BitVec.ofInt IntKind.i64.bits 63).toNat : Int))).toNat IntKind.i64.bits
theorem shR_eq (b : Int) : shR b = shN b := by
  have h := and63 b
  have e := ofInt_u64 b
  unfold shR shN
  show min (IntKind.u64.wrap (IntKind.i64.wrap ((BitVec.ofInt 64 b &&& BitVec.ofInt 64 63).toNat : Int))).toNat 64 = min (IntKind.u64.wrap ((BitVec.ofInt 64 (IntKind.u64.wrap b) &&& BitVec.ofInt 64 63).toNat : Int)).toNat 64
  rw [e, w64 (by omega) (by omega)]
theorem z_truth (b : Bool) : K 129 [.tr (tb b)] [] (.ret (.tup [.tr (ti (truW b)), .tr (ti 0)])) [] := by
  refine Ctr.of hT hmix Tryz.func129 rfl (fun _ _ => by kernel_rfl) rfl fun hok => ?_
  clear hok
  cases b
  · conv => whnf
    exact ⟨⟨.inl rfl, .inl rfl, trivial⟩, trivial⟩
  · conv => whnf
    exact ⟨⟨.inl rfl, .inl rfl, trivial⟩, trivial⟩
theorem z_quo (a b : Int) : K 130 [.tr (ti a), .tr (ti b)] [] (.ret (.tr (ti (divW a b)))) [] := by
  refine Ctr.of hT hmix Tryz.func130 rfl (fun _ _ => by kernel_rfl) rfl fun hok => ?_
  clear hok
  unfold divW
  conv => whnf
  refine csplit (fun h1 => ?_) (fun h1 => ?_)
  · replace h1 : (b == 0) = true := h1
    rw [h1]
    conv => whnf
    exact ⟨.inl rfl, trivial⟩
  replace h1 : (b == 0) = false := h1
  rw [h1]
  conv => whnf
  refine csplit (fun h2 => ?_) (fun h2 => ?_)
  · replace h2 : (b == -1) = true := h2
    rw [h2]
    conv => whnf
    exact ⟨.inl rfl, trivial⟩
  replace h2 : (b == -1) = false := h2
  rw [h2]
  conv => whnf
  refine ⟨by simpa using h1, ?_⟩
  conv => whnf
  exact ⟨.inl rfl, trivial⟩
set_option maxRecDepth 100000 in
theorem z_do1 (a b : Int) : K 97 [.tr (tu 1), .tr (ti a), .tr (ti b)] [] (.ret (.tup [.tr (ti (opW 1 a b)), .tr (ti 0)])) [] := by
  refine Ctr.of hT hmix Tryz.func97 rfl (fun _ _ => by kernel_rfl) rfl fun hok => ?_
  clear hok
  conv => whnf
  exact ⟨⟨.inl rfl, .inl rfl, trivial⟩, trivial⟩
set_option maxRecDepth 100000 in
theorem z_do2 (a b : Int) : K 97 [.tr (tu 2), .tr (ti a), .tr (ti b)] [] (.ret (.tup [.tr (ti (opW 2 a b)), .tr (ti 0)])) [] := by
  refine Ctr.of hT hmix Tryz.func97 rfl (fun _ _ => by kernel_rfl) rfl fun hok => ?_
  clear hok
  conv => whnf
  exact ⟨⟨.inl rfl, .inl rfl, trivial⟩, trivial⟩
set_option maxRecDepth 100000 in
theorem z_do3 (a b : Int) : K 97 [.tr (tu 3), .tr (ti a), .tr (ti b)] [] (.ret (.tup [.tr (ti (opW 3 a b)), .tr (ti 0)])) [] := by
  refine Ctr.of hT hmix Tryz.func97 rfl (fun _ _ => by kernel_rfl) rfl fun hok => ?_
  clear hok
  conv => whnf
  exact ⟨⟨.inl rfl, .inl rfl, trivial⟩, trivial⟩
set_option maxRecDepth 100000 in
theorem z_do4 (a b : Int) : K 97 [.tr (tu 4), .tr (ti a), .tr (ti b)] [] (.ret (.tup [.tr (ti (opW 4 a b)), .tr (ti 0)])) [] := by
  refine Ctr.of hT hmix Tryz.func97 rfl (fun _ _ => by kernel_rfl) rfl fun hok => ?_
  clear hok
  conv => whnf
  refine acall.pure _ (z_quo a b) rfl rfl fun _ => ?_
  conv => whnf
  exact ⟨⟨.inl rfl, .inl rfl, trivial⟩, trivial⟩
set_option maxRecDepth 100000 in
theorem z_do5 (a b : Int) : K 97 [.tr (tu 5), .tr (ti a), .tr (ti b)] [] (.ret (.tup [.tr (ti (opW 5 a b)), .tr (ti 0)])) [] := by
  refine Ctr.of hT hmix Tryz.func97 rfl (fun _ _ => by kernel_rfl) rfl fun hok => ?_
  clear hok
  conv => whnf
  refine csplit (fun h1 => ?_) (fun h1 => ?_)
  · replace h1 : (b == 0) = true := h1
    conv => whnf
    exact ⟨⟨.inl (congrArg ti (by show a = bif b == 0 then a else _; rw [h1]; rfl)), .inl rfl, trivial⟩, trivial⟩
  · replace h1 : (b == 0) = false := h1
    conv => whnf
    refine acall.pure _ (z_quo a b) rfl rfl fun _ => ?_
    conv => whnf
    exact ⟨⟨.inl (congrArg ti (by show _ = bif b == 0 then a else _; rw [h1]; rfl)), .inl rfl, trivial⟩, trivial⟩
set_option maxRecDepth 100000 in
theorem z_do6 (a b : Int) : K 97 [.tr (tu 6), .tr (ti a), .tr (ti b)] [] (.ret (.tup [.tr (ti (opW 6 a b)), .tr (ti 0)])) [] := by
  refine Ctr.of hT hmix Tryz.func97 rfl (fun _ _ => by kernel_rfl) rfl fun hok => ?_
  clear hok
  conv => whnf
  exact ⟨⟨.inl rfl, .inl rfl, trivial⟩, trivial⟩
set_option maxRecDepth 100000 in
theorem z_do7 (a b : Int) : K 97 [.tr (tu 7), .tr (ti a), .tr (ti b)] [] (.ret (.tup [.tr (ti (opW 7 a b)), .tr (ti 0)])) [] := by
  refine Ctr.of hT hmix Tryz.func97 rfl (fun _ _ => by kernel_rfl) rfl fun hok => ?_
  clear hok
  conv => whnf
  exact ⟨⟨.inl rfl, .inl rfl, trivial⟩, trivial⟩
set_option maxRecDepth 100000 in
theorem z_do8 (a b : Int) : K 97 [.tr (tu 8), .tr (ti a), .tr (ti b)] [] (.ret (.tup [.tr (ti (opW 8 a b)), .tr (ti 0)])) [] := by
  refine Ctr.of hT hmix Tryz.func97 rfl (fun _ _ => by kernel_rfl) rfl fun hok => ?_
  clear hok
  conv => whnf
  exact ⟨⟨.inl rfl, .inl rfl, trivial⟩, trivial⟩
set_option maxRecDepth 100000 in
theorem z_do9 (a b : Int) : K 97 [.tr (tu 9), .tr (ti a), .tr (ti b)] [] (.ret (.tup [.tr (ti (opW 9 a b)), .tr (ti 0)])) [] := by
  refine Ctr.of hT hmix Tryz.func97 rfl (fun _ _ => by kernel_rfl) rfl fun hok => ?_
  clear hok
  conv => whnf
  refine ⟨u64_nn _, ?_⟩
  conv => whnf
  exact ⟨⟨.inl (congrArg ti (by show i64 (a * 2 ^ shR b) = i64 (a * 2 ^ shN b); rw [shR_eq])), .inl rfl, trivial⟩, trivial⟩
set_option maxRecDepth 100000 in
theorem z_do10 (a b : Int) : K 97 [.tr (tu 10), .tr (ti a), .tr (ti b)] [] (.ret (.tup [.tr (ti (opW 10 a b)), .tr (ti 0)])) [] := by
  refine Ctr.of hT hmix Tryz.func97 rfl (fun _ _ => by kernel_rfl) rfl fun hok => ?_
  clear hok
  conv => whnf
  refine ⟨u64_nn _, ?_⟩
  conv => whnf
  exact ⟨⟨.inl (congrArg ti (by show a.fdiv (2 ^ shR b) = a.fdiv (2 ^ shN b); rw [shR_eq])), .inl rfl, trivial⟩, trivial⟩
set_option maxRecDepth 100000 in
theorem z_do11 (a b : Int) : K 97 [.tr (tu 11), .tr (ti a), .tr (ti b)] [] (.ret (.tup [.tr (ti (opW 11 a b)), .tr (ti 0)])) [] := by
  refine Ctr.of hT hmix Tryz.func97 rfl (fun _ _ => by kernel_rfl) rfl fun hok => ?_
  clear hok
  conv => whnf
  refine acall.pure _ (z_truth (a == b)) rfl rfl fun _ => ?_
  conv => whnf
  exact ⟨⟨.inl rfl, .inl rfl, trivial⟩, trivial⟩
set_option maxRecDepth 100000 in
theorem z_do12 (a b : Int) : K 97 [.tr (tu 12), .tr (ti a), .tr (ti b)] [] (.ret (.tup [.tr (ti (opW 12 a b)), .tr (ti 0)])) [] := by
  refine Ctr.of hT hmix Tryz.func97 rfl (fun _ _ => by kernel_rfl) rfl fun hok => ?_
  clear hok
  conv => whnf
  refine acall.pure _ (z_truth (a != b)) rfl rfl fun _ => ?_
  conv => whnf
  exact ⟨⟨.inl rfl, .inl rfl, trivial⟩, trivial⟩
set_option maxRecDepth 100000 in
theorem z_do13 (a b : Int) : K 97 [.tr (tu 13), .tr (ti a), .tr (ti b)] [] (.ret (.tup [.tr (ti (opW 13 a b)), .tr (ti 0)])) [] := by
  refine Ctr.of hT hmix Tryz.func97 rfl (fun _ _ => by kernel_rfl) rfl fun hok => ?_
  clear hok
  conv => whnf
  refine acall.pure _ (z_truth (decide (a < b))) rfl rfl fun _ => ?_
  conv => whnf
  exact ⟨⟨.inl rfl, .inl rfl, trivial⟩, trivial⟩
set_option maxRecDepth 100000 in
theorem z_do14 (a b : Int) : K 97 [.tr (tu 14), .tr (ti a), .tr (ti b)] [] (.ret (.tup [.tr (ti (opW 14 a b)), .tr (ti 0)])) [] := by
  refine Ctr.of hT hmix Tryz.func97 rfl (fun _ _ => by kernel_rfl) rfl fun hok => ?_
  clear hok
  conv => whnf
  refine acall.pure _ (z_truth (decide (a ≤ b))) rfl rfl fun _ => ?_
  conv => whnf
  exact ⟨⟨.inl rfl, .inl rfl, trivial⟩, trivial⟩
set_option maxRecDepth 100000 in
theorem z_do15 (a b : Int) : K 97 [.tr (tu 15), .tr (ti a), .tr (ti b)] [] (.ret (.tup [.tr (ti (opW 15 a b)), .tr (ti 0)])) [] := by
  refine Ctr.of hT hmix Tryz.func97 rfl (fun _ _ => by kernel_rfl) rfl fun hok => ?_
  clear hok
  conv => whnf
  refine acall.pure _ (z_truth (decide (a > b))) rfl rfl fun _ => ?_
  conv => whnf
  exact ⟨⟨.inl rfl, .inl rfl, trivial⟩, trivial⟩
set_option maxRecDepth 100000 in
theorem z_do16 (a b : Int) : K 97 [.tr (tu 16), .tr (ti a), .tr (ti b)] [] (.ret (.tup [.tr (ti (opW 16 a b)), .tr (ti 0)])) [] := by
  refine Ctr.of hT hmix Tryz.func97 rfl (fun _ _ => by kernel_rfl) rfl fun hok => ?_
  clear hok
  conv => whnf
  refine acall.pure _ (z_truth (decide (a ≥ b))) rfl rfl fun _ => ?_
  conv => whnf
  exact ⟨⟨.inl rfl, .inl rfl, trivial⟩, trivial⟩
theorem two_lit {op : Int} (h : two op = true) : op = 1 ∨ op = 2 ∨ op = 3 ∨ op = 4 ∨ op = 5 ∨ op = 6 ∨ op = 7 ∨ op = 8 ∨ op = 9 ∨ op = 10 ∨ op = 11 ∨ op = 12 ∨ op = 13 ∨ op = 14 ∨ op = 15 ∨ op = 16 := by
  have hr : 1 ≤ op ∧ op ≤ 16 := by unfold two at h; simpa using h
  omega
theorem z_do (op a b : Int) (h : two op = true) : K 97 [.tr (tu op), .tr (ti a), .tr (ti b)] [] (.ret (.tup [.tr (ti (opW op a b)), .tr (ti 0)])) [] := by
  rcases two_lit h with rfl | rfl | rfl | rfl | rfl | rfl | rfl | rfl | rfl | rfl | rfl | rfl | rfl | rfl | rfl | rfl
  · exact z_do1 a b
  · exact z_do2 a b
  · exact z_do3 a b
  · exact z_do4 a b
  · exact z_do5 a b
  · exact z_do6 a b
  · exact z_do7 a b
  · exact z_do8 a b
  · exact z_do9 a b
  · exact z_do10 a b
  · exact z_do11 a b
  · exact z_do12 a b
  · exact z_do13 a b
  · exact z_do14 a b
  · exact z_do15 a b
  · exact z_do16 a b
set_option maxRecDepth 100000 in
theorem z_one17 (a : Int) : K 95 [.tr (tu 17), .tr (ti a)] [] (.ret (.tup [.tr (ti (oneW 17 a)), .tr (ti 0)])) [] := by
  refine Ctr.of hT hmix Tryz.func95 rfl (fun _ _ => by kernel_rfl) rfl fun hok => ?_
  clear hok
  conv => whnf
  exact ⟨⟨.inl rfl, .inl rfl, trivial⟩, trivial⟩
set_option maxRecDepth 100000 in
theorem z_one18 (a : Int) : K 95 [.tr (tu 18), .tr (ti a)] [] (.ret (.tup [.tr (ti (oneW 18 a)), .tr (ti 0)])) [] := by
  refine Ctr.of hT hmix Tryz.func95 rfl (fun _ _ => by kernel_rfl) rfl fun hok => ?_
  clear hok
  conv => whnf
  refine acall.pure _ (z_truth (a == 0)) rfl rfl fun _ => ?_
  conv => whnf
  exact ⟨⟨.inl rfl, .inl rfl, trivial⟩, trivial⟩
set_option maxRecDepth 100000 in
theorem z_oneN (op a : Int) (h : two op = true) : K 95 [.tr (tu op), .tr (ti a)] [] (.ret (.tup [.tr (ti 0), .tr (ti 2)])) [] := by
  have hr : 1 ≤ op ∧ op ≤ 16 := by unfold two at h; simpa using h
  refine Ctr.of hT hmix Tryz.func95 rfl (fun _ _ => by kernel_rfl) rfl fun hok => ?_
  clear hok
  conv => whnf
  refine csplit (fun g => absurd (show (op == 17) = true from g) (by simp; omega)) (fun _ => ?_)
  conv => whnf
  refine csplit (fun g => absurd (show (op == 18) = true from g) (by simp; omega)) (fun _ => ?_)
  conv => whnf
  exact ⟨⟨.inl rfl, .inl rfl, trivial⟩, trivial⟩
theorem z_drains (k : Int) : K 70 [.tr (tu k)] [] (.ret (.tr (tb (k == 5 || (k == 6 || k == 7))))) [] := by
  refine Ctr.of hT hmix Tryz.func70 rfl (fun _ _ => by kernel_rfl) rfl fun hok => ?_
  clear hok
  conv => whnf
  (repeat' (refine csplit (fun g => ?_) (fun g => ?_) <;> conv => whnf))
  all_goals (refine ⟨.inl (congrArg tb ?_), trivial⟩; simp only [*, Bool.true_or, Bool.or_true, Bool.false_or, Bool.or_false] <;> rfl)
end Go.Proofs.YtioafhkkkmfkdaaGreatDoor.am

namespace Go.Proofs.YtioafhkkkmfkdaaGreatDoor.am
open Go Go.Proofs
def keepB (p : Did × Int) : Bool := p.2 == 0 && p.1.kind != 0
/-- what a schedule's steps did -/
def ofP (l : List (Did × Int)) : List Did := (l.filter keepB).map (·.1)
def ofS (o : Ob) (l : List Stp) : List Did := ofP (playL (newM o) l)
theorem take_succ' {α : Type} {l : List α} {i : Nat} {x : α} (h : l[i]? = some x) : l.take (i + 1) = l.take i ++ [x] := by
  rw [List.take_add_one, h]; rfl
end Go.Proofs.YtioafhkkkmfkdaaGreatDoor.am

namespace Go.Proofs.YtioafhkkkmfkdaaGreatDoor.am
open Go Go.Proofs
def stepK (d : Did) : Int := bif d.kind == 8 then 2 else 1
end Go.Proofs.YtioafhkkkmfkdaaGreatDoor.am

namespace Go.Proofs.YtioafhkkkmfkdaaGreatDoor.am
open Go Go.Proofs
def stepD (d : Did) : Stp := ⟨stepK d, d.core⟩
def stepsE (l : List Did) : Int := bif l.all rightD then 0 else 190
end Go.Proofs.YtioafhkkkmfkdaaGreatDoor.am

namespace Go.Proofs.YtioafhkkkmfkdaaGreatDoor.am
open Go Go.Proofs
def sameD (a b : Did) : Bool := a.kind == b.kind && (a.core == b.core && (a.at_ == b.at_ && (a.addr == b.addr && (a.word == b.word && (a.put == b.put && (a.own == b.own && true))))))
/-- the first that is not what its step does -/
def chkL : Mst → List Did → Nat → Nat
  | _, [], i => i
  | s, d :: l, i => bif !rightD d then i else bif (stepS s (stepK d) d.core).2.2 != 0 || !sameD (stepS s (stepK d) d.core).2.1 d then i else chkL (stepS s (stepK d) d.core).1 l (i + 1)
def chkE (o : Ob) (l : List Did) : Int := bif (checkO o).1 == 0 && decide ((l.length : Int) > 1048576) then 3 else (checkO o).1
end Go.Proofs.YtioafhkkkmfkdaaGreatDoor.am

namespace Go.Proofs.YtioafhkkkmfkdaaGreatDoor.am
open Go Go.Proofs
/-- what is known of a step that did something -/
structure StepF (s : Mst) (kd k : Int) (s' : Mst) (d : Did) : Prop where
  right : rightD d = true
  core : d.core = k
  kind : stepK d = kd
  addr : addrK d.kind = true → 0 ≤ d.addr ∧ d.addr < s.mem.length
  load : d.kind = 2 → d.own = false → d.word = s.mem.getD d.addr.toNat 0
  swap : d.kind = 4 → d.word = s.mem.getD d.addr.toNat 0 ∧ s'.mem = s.mem.set d.addr.toNat d.put
  drain : d.kind = 8 → s'.mem = s.mem.set d.addr.toNat d.word
  mem : d.kind ≠ 4 → d.kind ≠ 8 → s'.mem = s.mem
/-! lists of steps -/
end Go.Proofs.YtioafhkkkmfkdaaGreatDoor.am

namespace Go.Proofs.YtioafhkkkmfkdaaGreatDoor.am
open Go Go.Proofs
/-- what a result stands for, it stands for otherwise too -/
theorem Ctr.res {P : Program} {f : Nat} {args : List AV} {bin : List Blk} {a a' : AV} {bout : List (Option Blk)} (h : Ctr P f args bin (.ret a) bout) (hc : ∀ (g : Gh) (w : World) (v : Value), Rep g w v a → Rep g w v a') : Ctr P f args bin (.ret a') bout :=
  ⟨h.callable, fun g w vs h1 h2 h3 h4 => (h.run g w vs h1 h2 h3 h4).mono fun e w' ⟨g', q1, q2, q3, q4⟩ => ⟨g', q1, q2, q3, by
    cases e with
    | returned v => exact hc g' w' v q4
    | _ => exact q4⟩⟩
theorem RepT.nlr {ok : Nat → Prop} {w : World} {v : Value} {n B : Nat} {rows rows' : List (List Tr)} (h : RepT ok w v (.lst n B rows)) (hr : nlR rows rows') : RepT ok w v (.lst n B rows') := by
  obtain ⟨hl, hg⟩ := nlR_get hr
  cases h with
  | lst f h1 h2 h3 h4 h5 h6 h7 =>
    refine .lst f (h1.trans hl) h2 h3 h4 h5 (fun i row' hi => ?_) (fun i row' j t' hi hj => ?_)
    · obtain ⟨row, e1, e2⟩ := hg i row' hi
      obtain ⟨q1, q2⟩ := h6 i row e1
      exact ⟨(nlL_get e2).1.symm.trans q1, q2⟩
    · obtain ⟨row, e1, e2⟩ := hg i row' hi
      obtain ⟨t, e3, e4⟩ := (nlL_get e2).2 j t' hj
      have := h7 i row j t e1 e3
      rcases e4 with rfl | ⟨rfl, n2, B2, rfl⟩
      · exact this
      · exact this.nil n2 B2
abbrev csT (l : List Cst) : Tr := .lst 19 168 (l.map Cst.row)
abbrev prT (l : List Prn) : Tr := .lst 2 16 (l.map Prn.row)
abbrev stX (o : Ob) (a b c : AV) : AV := .agg [.tr (intsT o.memory), .tr (ti o.shared), .tr (ti o.locks), .tr (ti o.buffer), .tr (coresT o.cores), a, b, c]
abbrev stA (s : Mst) : AV := stX s.o (.tr (csT s.cores)) (.tr (intsT s.mem)) (.tr (prT s.prints))
set_option maxRecDepth 100000 in
theorem z_new0 (o : Ob) (hm : o.memory.length ≤ 4096) (hk : o.cores.length ≤ 8) : K 36 [o.av] [] (.ret (stX o (.tr (.lst 19 168 (List.replicate (((o.cores.map Cor.cells).length : Int)).toNat zeroC))) (.tr (intsT o.memory)) (.tr (prT [])))) [] := by
  obtain ⟨memory, shared, locks, buffer, cores⟩ := o
  simp only at hm hk
  refine Ctr.of hT hmix Tryz.func36 rfl (fun _ _ => by kernel_rfl) rfl fun hok => ?_
  clear hok
  conv => whnf
  refine ⟨(show (0 : Int) ≤ ((cores.map Cor.cells).length : Int) by omega), Int.le_refl _, (show ((cores.map Cor.cells).length : Int) * 168 ≤ 140737488351232 by rw [List.length_map]; omega), ?_⟩
  conv => whnf
  refine ⟨rfl, rfl, rfl, by simp, (show (0 + (memory.map irow).length) * 8 ≤ 150000000000000 by rw [List.length_map]; omega), fun q hq => (by cases hq), ?_⟩
  conv => whnf
  refine ⟨by kernel_rfl, fun _ => ?_⟩
  conv => whnf
  exact ⟨⟨.inl rfl, .inl rfl, .inl rfl, .inl rfl, .inl rfl, ⟨rfl, by simp, congrArg (Tr.lst 19 168) (List.take_of_length_le (Nat.le_of_eq (List.length_replicate ..))).symm⟩, ⟨rfl, by simp, (by simp; rw [List.take_of_length_le (by simp)])⟩, .inr ⟨rfl, _, _, rfl⟩, trivial⟩, trivial⟩
theorem z_new (o : Ob) (hm : o.memory.length ≤ 4096) (hk : o.cores.length ≤ 8) : K 36 [o.av] [] (.ret (stA (newM o))) [] :=
  (z_new0 o hm hk).res fun g w v h => by
    cases h with
    | agg h1 h2 h3 =>
      refine .agg h1 (fun a ha => ?_) (fun i c a e1 e2 => ?_)
      · simp only [List.mem_cons, List.not_mem_nil, or_false] at ha
        rcases ha with rfl | rfl | rfl | rfl | rfl | rfl | rfl | rfl <;> rfl
      · match i, e2 with
        | 0, e2 => exact h3 0 c a e1 e2
        | 1, e2 => exact h3 1 c a e1 e2
        | 2, e2 => exact h3 2 c a e1 e2
        | 3, e2 => exact h3 3 c a e1 e2
        | 4, e2 => exact h3 4 c a e1 e2
        | 5, e2 =>
          cases e2
          exact .tr ((h3 5 c _ e1 rfl).tr_inv.nlr (new_rows o.cores))
        | 6, e2 => exact h3 6 c a e1 e2
        | 7, e2 => exact h3 7 c a e1 e2
theorem regs16 {l : List Int} (h : l.length = 16) : ∃ r0 r1 r2 r3 r4 r5 r6 r7 r8 r9 r10 r11 r12 r13 r14 r15, l = [r0, r1, r2, r3, r4, r5, r6, r7, r8, r9, r10, r11, r12, r13, r14, r15] := by
  match l, h with
  | [r0, r1, r2, r3, r4, r5, r6, r7, r8, r9, r10, r11, r12, r13, r14, r15], _ => exact ⟨_, _, _, _, _, _, _, _, _, _, _, _, _, _, _, _, rfl⟩
theorem cor_get {l : List Cor} {i : Nat} {row : List Tr} (h : (l.map Cor.cells)[i]? = some row) : ∃ d, l[i]? = some d ∧ row = d.cells := by
  rw [List.getElem?_map, Option.map_eq_some_iff] at h
  obtain ⟨d, h1, rfl⟩ := h
  exact ⟨d, h1, rfl⟩
theorem ins_get {l : List Ins} {i : Nat} {row : List Tr} (h : (l.map Ins.cells)[i]? = some row) : ∃ d, l[i]? = some d ∧ row = d.cells := by
  rw [List.getElem?_map, Option.map_eq_some_iff] at h
  obtain ⟨d, h1, rfl⟩ := h
  exact ⟨d, h1, rfl⟩
theorem stall_ref (s : Mst) (c : Cst) (i : Ins) : stallB s c i = bif (i.kind == 5 || (i.kind == 6 || i.kind == 7)) && decide ((c.buf.length : Int) > 0) then true else (i.kind == 4 && decide ((c.buf.length : Int) ≥ s.o.buffer)) := by
  unfold stallB
  by_cases h4 : i.kind = 4
  · rw [h4]
    simp
  · rw [show (i.kind == 4) = false by simpa using h4]
    cases i.kind == 5 <;> cases i.kind == 6 <;> cases i.kind == 7 <;> simp
set_option maxRecDepth 100000 in
set_option maxHeartbeats 1000000 in
theorem z_waits (s : Mst) (k : Nat) {c : Cst} {r : Cor} {i : Ins} (hc : s.cores[k]? = some c) (h16 : c.regs.length = 16) (hr : s.o.cores[k]? = some r) (h0 : 0 ≤ c.at_) (hi : r.code[c.at_.toNat]? = some i) : K 38 [stA s, .tr (ti k)] [] (.ret (.tr (tb (stallB s c i)))) [] := by
  have hdr := z_drains i.kind
  have hB := stall_ref s c i
  generalize stallB s c i = R at hB
  obtain ⟨o, cores, mem, prints⟩ := s
  obtain ⟨memory, shared, locks, buffer, ocores⟩ := o
  simp only at hc hr hB
  have hkl : k < cores.length := (List.getElem?_eq_some_iff.1 hc).1
  have hkr : k < ocores.length := (List.getElem?_eq_some_iff.1 hr).1
  have hci : c.at_ < (r.code.length : Int) := by have := (List.getElem?_eq_some_iff.1 hi).1; omega
  have hbl : (c.buf.map Sto.row).length = c.buf.length := List.length_map ..
  rw [← hbl] at hB
  clear hbl
  obtain ⟨ca, ch, cr, cb⟩ := c
  obtain ⟨r0, r1, r2, r3, r4, r5, r6, r7, r8, r9, r10, r11, r12, r13, r14, r15, rfl⟩ := regs16 h16
  refine Ctr.of hT hmix Tryz.func38 rfl (fun _ _ => by kernel_rfl) rfl fun hok => ?_
  clear hok
  conv => whnf
  refine ⟨rfl, (show (0 : Int) ≤ k by omega), (show (k : Int) < ((cores.map Cst.row).length : Int) by rw [List.length_map]; omega), fun row hrow => ?_⟩
  obtain rfl := row_of hc hrow
  clear hrow
  conv => whnf
  refine .inl ?_
  conv => whnf
  refine ⟨rfl, (show (0 : Int) ≤ k by omega), (show (k : Int) < ((ocores.map Cor.cells).length : Int) by rw [List.length_map]; omega), fun row hrow => ?_⟩
  obtain ⟨r', hr', rfl⟩ := cor_get hrow
  obtain rfl : r = r' := Option.some.inj (hr.symm.trans hr')
  clear hrow hr'
  conv => whnf
  refine ⟨rfl, h0, (show ca < ((r.code.map Ins.cells).length : Int) by rw [List.length_map]; exact hci), fun row hrow => ?_⟩
  obtain ⟨i', hi', rfl⟩ := ins_get hrow
  obtain rfl : i = i' := Option.some.inj (hi.symm.trans hi')
  clear hrow hi'
  obtain ⟨kind, op, D, a, b, addr, to_, word, from_⟩ := i
  simp only at hdr hB
  conv => whnf
  refine ⟨by kernel_rfl, fun _ => ?_⟩
  conv => whnf
  refine acall.pure _ (hdr) rfl rfl fun _ => ?_
  conv => whnf
  (repeat' (refine csplit (fun g => ?_) (fun g => ?_) <;> conv => whnf))
  all_goals (refine ⟨.inl (congrArg tb ?_), trivial⟩; rw [hB]; simp only [*, Bool.true_or, Bool.or_true, Bool.false_or, Bool.or_false, Bool.true_and, Bool.false_and, Bool.and_true, Bool.and_false, cond_true, cond_false] <;> rfl)
end Go.Proofs.YtioafhkkkmfkdaaGreatDoor.am

namespace Go.Proofs.YtioafhkkkmfkdaaGreatDoor.am
open Go Go.Proofs
set_option linter.all false

def runsB (c : Cst) : Bool := !c.halted || decide ((c.buf.length : Int) > 0)
set_option maxRecDepth 100000 in
theorem s_ended1 (c : Cst) (h16 : c.regs.length = 16) : K 59 [.agg (c.row.map .tr)] [] (.ret (.tr (tb (runsB c)))) [] := by
  obtain ⟨ca, ch, cr, cb⟩ := c
  simp only at h16
  obtain ⟨r0, r1, r2, r3, r4, r5, r6, r7, r8, r9, r10, r11, r12, r13, r14, r15, rfl⟩ := regs16 h16
  have hbl : (cb.map Sto.row).length = cb.length := List.length_map ..
  generalize hB : runsB _ = B
  unfold runsB at hB
  simp only at hB
  rw [← hbl] at hB
  refine Ctr.of hT hmix Tryz.func59 rfl (fun _ _ => by kernel_rfl) rfl fun hok => ?_
  clear hok
  conv => whnf
  refine .inl ?_
  conv => whnf
  cases ch
  · conv => whnf
    exact ⟨.inl (congrArg tb hB), trivial⟩
  · conv => whnf
    exact ⟨.inl (congrArg tb hB), trivial⟩
end Go.Proofs.YtioafhkkkmfkdaaGreatDoor.am

namespace Go.Proofs.YtioafhkkkmfkdaaGreatDoor.am
open Go Go.Proofs
set_option maxRecDepth 100000 in
set_option maxHeartbeats 2000000 in
theorem z_copy (s : Mst) (h16 : ∀ c ∈ s.cores, c.regs.length = 16) (hbf : ∀ c ∈ s.cores, c.buf.length ≤ 64) (hm : s.mem.length ≤ 4096) (hk : s.cores.length ≤ 8) (hp : s.prints.length ≤ 2000000) :
    K 94 [stA s] [] (.ret (stX s.o (.sl 0 s.cores.length) (.sl 1 s.mem.length) (.sl 2 s.prints.length))) [some (csB s.cores), some (meB s.mem), some (prB s.prints)] := by
  obtain ⟨o, cores, mem, prints⟩ := s
  obtain ⟨memory, shared, locks, buffer, ocores⟩ := o
  simp only at h16 hbf hm hk hp
  have hcl : (cores.map Cst.row).length = cores.length := List.length_map ..
  refine Ctr.new [] hT hmix Tryz.func94 rfl (fun _ _ => by kernel_rfl) rfl fun hok => ?_
  clear hok
  conv => whnf
  refine ⟨rfl, rfl, rfl, by simp, (show (0 + (mem.map irow).length) * 8 ≤ 150000000000000 by rw [List.length_map]; omega), fun q hq => (by cases hq), ?_⟩
  conv => whnf
  refine ⟨rfl, rfl, rfl, by simp, (show (0 + (prints.map Prn.row).length) * 16 ≤ 150000000000000 by rw [List.length_map]; omega), fun q hq => (by cases hq), ?_⟩
  conv => whnf
  refine LoopL.by (fun j : Nat => ⟨[(1, .ptr 0 0), (2, .ptr 1 0), (3, .sl 4 j), (4, .tr (ti j))], [(0, .cells 72 [.tr (intsT memory), .tr (ti shared), .tr (ti locks), .tr (ti buffer), .tr (coresT ocores), .tr (csT cores), .sl 2 mem.length, .sl 3 prints.length]), (1, .cells 72 [.tr (.v (.slice none 0 0)), .tr (ti 0), .tr (ti 0), .tr (ti 0), .tr (.v (.slice none 0 0)), .tr (.v (.slice none 0 0)), .tr (.v (.slice none 0 0)), .tr (.v (.slice none 0 0))]), (2, meB mem), (3, prB prints), (4, .own 19 168 ((cores.take j).map Cst.row) [])], 10⟩)
    (fun j => j ≤ cores.length) (fun j => cores.length - j) 0 [_, _, _, _] [4]
    (Sub.mk' rfl ⟨⟨rfl, rfl⟩, ⟨rfl, rfl⟩, ⟨rfl, rfl, rfl, rfl⟩, .inl rfl, trivial⟩ ⟨⟨rfl, .inl rfl, .inl rfl, .inl rfl, .inl rfl, .inl rfl, .inl rfl, ⟨rfl, by simp⟩, ⟨rfl, by simp⟩, trivial⟩, ⟨rfl, .inl rfl, .inl rfl, .inl rfl, .inl rfl, .inl rfl, .inl rfl, .inl rfl, .inl rfl, trivial⟩, ⟨rfl, rfl, rfl, by simp⟩, ⟨rfl, rfl, rfl, by simp⟩, ⟨rfl, rfl, rfl, by decide⟩, trivial⟩ rfl rfl) (Nat.zero_le _) ?_
  rintro j hj -
  have hj1 : IntKind.i64.wrap ((j : Int) + 1) = ((j + 1 : Nat) : Int) := by rw [w64 (by omega) (by omega)]; omega
  conv => whnf
  refine csplit (fun h1 => ?_) (fun h1 => ?_)
  · have hjl : j < cores.length := by
      have : decide ((j : Int) < ((cores.map Cst.row).length : Int)) = true := h1
      have := of_decide_eq_true this
      omega
    obtain ⟨c, hc⟩ : ∃ c, cores[j]? = some c := ⟨cores[j], by simp [hjl]⟩
    have hmem := List.mem_of_getElem? hc
    have h16c := h16 c hmem
    have hbc := hbf c hmem
    have hsn := take_succ' hc
    obtain ⟨ca, ch, cr, cb⟩ := c
    simp only at hbc
    obtain ⟨r0, r1, r2, r3, r4, r5, r6, r7, r8, r9, r10, r11, r12, r13, r14, r15, rfl⟩ := regs16 h16c
    conv => whnf
    refine ⟨rfl, (show (0 : Int) ≤ (j : Int) by omega), (show (j : Int) < ((cores.map Cst.row).length : Int) by rw [hcl]; omega), fun row hrow => ?_⟩
    obtain rfl := row_of hc hrow
    clear hrow
    conv => whnf
    refine .inl ?_
    conv => whnf
    refine ⟨rfl, rfl, rfl, by simp, (show (0 + (cb.map Sto.row).length) * 24 ≤ 150000000000000 by rw [List.length_map]; omega), fun q hq => (by cases hq), ?_⟩
    conv => whnf
    refine ⟨by simp; omega, rfl, Nat.le_refl _, (show (j + 1) * 168 ≤ 150000000000000 by omega), trivial, trivial, trivial, ?_⟩
    conv => whnf
    refine ⟨j + 1, [0, 1, 2, 3, 31], [], Sub.pk [31] ?_, hjl, by omega⟩
    conv => whnf
    refine ⟨rfl, rfl, (by simp), (by simp; exact sto_leaf cb), ?_⟩
    refine Sub0.mk' rfl ⟨⟨rfl, rfl⟩, ⟨rfl, rfl⟩, ⟨rfl, rfl⟩, .inl (congrArg ti hj1), trivial⟩ ⟨⟨rfl, .inl rfl, .inl rfl, .inl rfl, .inl rfl, .inl rfl, .inl rfl, ⟨rfl, rfl⟩, ⟨rfl, rfl⟩, trivial⟩, ⟨rfl, .inl rfl, .inl rfl, .inl rfl, .inl rfl, .inl rfl, .inl rfl, .inl rfl, .inl rfl, trivial⟩, ⟨rfl, rfl, rfl, rfl⟩, ⟨rfl, rfl, rfl, rfl⟩, ⟨rfl, rfl, rfl, rfl, .inl ?_⟩, trivial⟩ rfl rfl
    refine (setC_last (by simp; omega)).trans ?_
    rw [hsn, List.map_append]
    congr 1
    simp [Cst.row]
    exact List.take_of_length_le (by simp)
  · have hjl : j = cores.length := by
      have : decide ((j : Int) < ((cores.map Cst.row).length : Int)) = false := h1
      have := of_decide_eq_false this
      omega
    subst hjl
    conv => whnf
    refine ⟨fun _ => ?_, fun h => absurd rfl h⟩
    conv => whnf
    exact ⟨[4, 2, 3], rfl, rfl, ⟨.inl rfl, .inl rfl, .inl rfl, .inl rfl, .inl rfl, ⟨rfl, rfl⟩, ⟨rfl, rfl⟩, ⟨rfl, rfl⟩, trivial⟩, ⟨rfl, rfl, rfl, rfl, .inl (by rw [List.take_of_length_le (Nat.le_refl _)])⟩, ⟨rfl, rfl, rfl, rfl⟩, ⟨rfl, rfl, rfl, rfl⟩, trivial⟩
/-! what a load sees -/
theorem seeB_snoc (l : List Sto) (x : Sto) (a : Int) (p : Int × Bool) : seeB (l ++ [x]) a p = bif x.addr == a then (x.word, true) else seeB l a p := by
  induction l generalizing p with
  | nil =>
    show seeB [] a (bif x.addr == a then (x.word, true) else p) = _
    rfl
  | cons y l ih =>
    show seeB (l ++ [x]) a _ = bif x.addr == a then _ else seeB l a _
    exact ih _
abbrev cstX (c : Cst) (b : AV) : AV := .agg (.tr (ti c.at_) :: .tr (tb c.halted) :: ((c.regs.map fun r => AV.tr (ti r)) ++ [b]))
set_option maxRecDepth 100000 in
set_option maxHeartbeats 1000000 in
theorem z_seen (s : Mst) (k : Nat) (c : Cst) (addr : Int) (h16 : c.regs.length = 16) (hb : c.buf.length ≤ 64) (hm0 : 0 ≤ addr) (hm1 : addr < (s.mem.length : Int)) :
    K 98 [stX s.o (.sl 0 s.cores.length) (.tr (intsT s.mem)) (.tr (prT s.prints)), cstX c (.sl 1 c.buf.length), .tr (ti addr)] [.own 19 168 (s.cores.map Cst.row) [((k, 18), (1, c.buf.length))], .own 3 24 (c.buf.map Sto.row) []]
      (.ret (.tup [.tr (ti (seeB c.buf addr (s.mem.getD addr.toNat 0, false)).1), .tr (tb (seeB c.buf addr (s.mem.getD addr.toNat 0, false)).2)])) [some (.own 19 168 (s.cores.map Cst.row) [((k, 18), (1, c.buf.length))]), some (.own 3 24 (c.buf.map Sto.row) [])] := by
  obtain ⟨o, cores, mem, prints⟩ := s
  obtain ⟨memory, shared, locks, buffer, ocores⟩ := o
  simp only at hm1
  obtain ⟨ca, ch, cr, cb⟩ := c
  obtain ⟨r0, r1, r2, r3, r4, r5, r6, r7, r8, r9, r10, r11, r12, r13, r14, r15, rfl⟩ := regs16 h16
  simp only at hb
  generalize hR : seeB cb addr (mem.getD addr.toNat 0, false) = R
  refine Ctr.of hT hmix Tryz.func98 rfl (fun _ _ => by kernel_rfl) rfl fun hok => ?_
  clear hok
  conv => whnf
  refine .inl ?_
  conv => whnf
  have hw1 : IntKind.i64.wrap ((cb.length : Int) - 1) = (cb.length : Int) - 1 := by rw [w64 (by omega) (by omega)]
  refine LoopL.by (fun x : Int × Nat => ⟨[(2, .tr (ti addr)), (3, .ptr 2 0), (4, .ptr 3 0), (8, .tr (ti x.1))], [(0, .own 19 168 (cores.map Cst.row) [((k, 18), (1, cb.length))]), (1, .own 3 24 (cb.map Sto.row) []), (2, .cells 72 [.tr (intsT memory), .tr (ti shared), .tr (ti locks), .tr (ti buffer), .tr (coresT ocores), .sl 0 cores.length, .tr (intsT mem), .tr (prT prints)]), (3, .cells 78 [.tr (ti ca), .tr (tb ch), .tr (ti r0), .tr (ti r1), .tr (ti r2), .tr (ti r3), .tr (ti r4), .tr (ti r5), .tr (ti r6), .tr (ti r7), .tr (ti r8), .tr (ti r9), .tr (ti r10), .tr (ti r11), .tr (ti r12), .tr (ti r13), .tr (ti r14), .tr (ti r15), .sl 1 cb.length])], 10⟩)
    (fun x => x.1 = (x.2 : Int) - 1 ∧ x.2 ≤ cb.length ∧ R = seeB (cb.take x.2) addr (mem.getD addr.toNat 0, false)) (fun x => x.2) ((cb.length : Int) - 1, cb.length) [0, 1, _, _] []
    (Sub.mk' rfl ⟨.inl rfl, ⟨rfl, rfl⟩, ⟨rfl, rfl⟩, .inl (congrArg ti hw1), trivial⟩ ⟨⟨rfl, rfl, rfl, rfl, .inl rfl⟩, ⟨rfl, rfl, rfl, rfl, .inl rfl⟩, ⟨rfl, .inl rfl, .inl rfl, .inl rfl, .inl rfl, .inl rfl, ⟨rfl, rfl⟩, .inl rfl, .inl rfl, trivial⟩, ⟨rfl, .inl rfl, .inl rfl, .inl rfl, .inl rfl, .inl rfl, .inl rfl, .inl rfl, .inl rfl, .inl rfl, .inl rfl, .inl rfl, .inl rfl, .inl rfl, .inl rfl, .inl rfl, .inl rfl, .inl rfl, .inl rfl, ⟨rfl, rfl⟩, trivial⟩, trivial⟩ rfl rfl) ⟨rfl, Nat.le_refl _, by rw [List.take_length]; exact hR.symm⟩ ?_
  rintro ⟨i, n⟩ ⟨hin, hn, hRn⟩ -
  simp only at hin hn hRn
  conv => whnf
  refine csplit (fun h1 => ?_) (fun h1 => ?_)
  · have hi0 : 0 ≤ i := of_decide_eq_true h1
    obtain ⟨m, rfl⟩ := Int.eq_ofNat_of_zero_le hi0
    obtain rfl : n = m + 1 := by omega
    have hml : m < cb.length := by omega
    obtain ⟨x, hx⟩ : ∃ x, cb[m]? = some x := ⟨cb[m], by simp [hml]⟩
    rw [take_succ' hx, seeB_snoc] at hRn
    have hm2 : IntKind.i64.wrap ((m : Int) - 1) = (m : Int) - 1 := by rw [w64 (by omega) (by omega)]
    conv => whnf
    refine ⟨rfl, (show (0 : Int) ≤ (m : Int) by omega), (show (m : Int) < (cb.length : Int) by omega), ?_⟩
    conv => whnf
    refine ⟨rfl, (by rw [List.length_map]; exact hml), fun row hrow => ?_⟩
    obtain ⟨y, hy, rfl⟩ := buf_get hrow
    obtain rfl : y = x := by
      have hy : cb[m]? = some y := hy
      rw [hx] at hy
      exact (Option.some.inj hy).symm
    refine ⟨(show 0 + 1 < 3 by decide), fun t ht => ?_⟩
    obtain rfl : t = ti y.addr := (Option.some.inj ht).symm
    clear ht hrow hy
    conv => whnf
    refine csplit (fun h2 => ?_) (fun h2 => ?_)
    · replace h2 : (y.addr == addr) = true := h2
      rw [h2] at hRn
      obtain rfl : R = (y.word, true) := hRn
      conv => whnf
      refine ⟨rfl, (show (0 : Int) ≤ (m : Int) by omega), (show (m : Int) < (cb.length : Int) by omega), ?_⟩
      conv => whnf
      refine ⟨rfl, (by rw [List.length_map]; exact hml), fun row hrow => ?_⟩
      obtain ⟨z, hz, rfl⟩ := buf_get hrow
      obtain rfl : z = y := by
        have hz : cb[m]? = some z := hz
        rw [hx] at hz
        exact (Option.some.inj hz).symm
      refine ⟨(show 0 + 2 < 3 by decide), fun t ht => ?_⟩
      obtain rfl : t = ti z.word := (Option.some.inj ht).symm
      clear ht hrow hz
      conv => whnf
      exact ⟨⟨.inl rfl, .inl rfl, trivial⟩, ⟨rfl, rfl, rfl, rfl, .inl rfl⟩, ⟨rfl, rfl, rfl, rfl, .inl rfl⟩, trivial⟩
    · replace h2 : (y.addr == addr) = false := h2
      rw [h2] at hRn
      have hRn : R = seeB (cb.take m) addr (mem.getD addr.toNat 0, false) := hRn
      conv => whnf
      exact ⟨((m : Int) - 1, m), [0, 1, 2, 3], [], Sub.mk' rfl ⟨.inl rfl, ⟨rfl, rfl⟩, ⟨rfl, rfl⟩, .inl (congrArg ti hm2), trivial⟩ ⟨⟨rfl, rfl, rfl, rfl, .inl rfl⟩, ⟨rfl, rfl, rfl, rfl, .inl rfl⟩, ⟨rfl, .inl rfl, .inl rfl, .inl rfl, .inl rfl, .inl rfl, ⟨rfl, rfl⟩, .inl rfl, .inl rfl, trivial⟩, ⟨rfl, .inl rfl, .inl rfl, .inl rfl, .inl rfl, .inl rfl, .inl rfl, .inl rfl, .inl rfl, .inl rfl, .inl rfl, .inl rfl, .inl rfl, .inl rfl, .inl rfl, .inl rfl, .inl rfl, .inl rfl, .inl rfl, ⟨rfl, rfl⟩, trivial⟩, trivial⟩ rfl rfl, ⟨rfl, by show m ≤ cb.length; omega, hRn⟩, Nat.lt_succ_self m⟩
  · have hi0 : ¬ i ≥ 0 := of_decide_eq_false h1
    obtain rfl : n = 0 := by omega
    obtain rfl : R = (mem.getD addr.toNat 0, false) := hRn
    conv => whnf
    refine ⟨fun _ => ?_, fun h => absurd rfl h⟩
    conv => whnf
    refine ⟨rfl, hm0, (show addr < ((mem.map irow).length : Int) by rw [List.length_map]; exact hm1), fun row hrow => ?_⟩
    obtain ⟨x, hx, rfl⟩ := mem_get hrow
    obtain rfl : x = mem.getD addr.toNat 0 := by rw [List.getD_eq_getElem?_getD, show mem[addr.toNat]? = some x from hx]; rfl
    clear hrow hx
    conv => whnf
    exact ⟨⟨.inl rfl, .inl rfl, trivial⟩, ⟨rfl, rfl, rfl, rfl, .inl rfl⟩, ⟨rfl, rfl, rfl, rfl, .inl rfl⟩, trivial⟩
end Go.Proofs.YtioafhkkkmfkdaaGreatDoor.am

namespace Go.Proofs.YtioafhkkkmfkdaaGreatDoor.am
open Go Go.Proofs
theorem row_lf {c : Cst} (h : c.regs.length = 16) : ∀ (k : Nat) (t : Tr), 0 ≤ k → k < 0 + 19 → k ≠ 18 → c.row[k]? = some t → ∃ x, t = .v x := by
  intro k t _ h1 h2 h3
  match k with
  | 0 => cases h3; exact ⟨_, rfl⟩
  | 1 => cases h3; exact ⟨_, rfl⟩
  | k + 2 =>
    have h3 : (c.regs.map ti ++ [bufT c.buf])[k]? = some t := h3
    rw [List.getElem?_append_left (by rw [List.length_map]; omega), List.getElem?_map, Option.map_eq_some_iff] at h3
    obtain ⟨x, _, rfl⟩ := h3
    exact ⟨_, rfl⟩
/-- a core's own row -/
abbrev rowX (c : Cst) : List Tr := ti c.at_ :: tb c.halted :: (c.regs.map ti ++ [.v (.slice none 0 0)])
theorem rowX_reg {c : Cst} (h : c.regs.length = 16) {d : Int} (h0 : 0 ≤ d) (h1 : d < 16) {t : Tr} (ht : (rowX c)[0 + 2 + d.toNat * 1]? = some t) : t = ti (c.reg d) := by
  have e : (ti c.at_ :: tb c.halted :: (c.regs.map ti ++ [Tr.v (.slice none 0 0)]))[2 + d.toNat]? = some t := by
    rw [show 2 + d.toNat = 0 + 2 + d.toNat * 1 by omega]; exact ht
  rw [Nat.add_comm, List.getElem?_cons_succ, List.getElem?_cons_succ, List.getElem?_append_left (by rw [List.length_map]; omega), List.getElem?_map, Option.map_eq_some_iff] at e
  obtain ⟨x, h2, rfl⟩ := e
  unfold Cst.reg
  rw [List.getD_eq_getElem?_getD, h2]
  rfl
theorem rowX_len {c : Cst} (h : c.regs.length = 16) : (rowX c).length = 19 := by simp [rowX, h]
theorem rowX_set {c : Cst} (h : c.regs.length = 16) {d : Int} (h0 : 0 ≤ d) (h1 : d < 16) (w : Int) : (rowX c).take (0 + 2 + d.toNat * 1) ++ [ti w] ++ (rowX c).drop (0 + 2 + d.toNat * 1 + 1) = rowX (c.setReg d w) := by
  obtain ⟨n, rfl⟩ := Int.eq_ofNat_of_zero_le h0
  have hn : n < 16 := by omega
  show (ti c.at_ :: tb c.halted :: (c.regs.map ti ++ [Tr.v (.slice none 0 0)])).take (0 + 2 + n * 1) ++ [ti w] ++ (ti c.at_ :: tb c.halted :: (c.regs.map ti ++ [Tr.v (.slice none 0 0)])).drop (0 + 2 + n * 1 + 1) = ti c.at_ :: tb c.halted :: ((c.regs.set n w).map ti ++ [Tr.v (.slice none 0 0)])
  rw [show 0 + 2 + n * 1 + 1 = (n + 1) + 1 + 1 by omega, show 0 + 2 + n * 1 = n + 1 + 1 by omega, List.take_succ_cons, List.take_succ_cons, List.drop_succ_cons, List.drop_succ_cons, List.cons_append, List.cons_append, List.cons_append, List.cons_append]
  rw [List.take_append_of_le_length (by rw [List.length_map]; omega), List.drop_append_of_le_length (by rw [List.length_map]; omega), List.map_set, ← List.append_assoc]
  congr 3
  rw [List.set_eq_take_append_cons_drop, if_pos (by rw [List.length_map]; omega), List.append_assoc]; rfl
theorem lnk_lo {p : Nat × Nat} {d : Int} (h1 : d < 16) : lnk [((0, 18), p)] 0 (0 + 2 + d.toNat * 1) = none := by
  show (bif Nat.beq 18 _ && Nat.beq 0 0 then _ else _) = _
  rw [show Nat.beq 18 (0 + 2 + d.toNat * 1) = false by
    rw [Bool.eq_false_iff]; intro h; have := Nat.eq_of_beq_eq_true h; omega]
  rfl
theorem vleaf (l : List Value) {j : Nat} {t : Tr} (h : (l.map Tr.v)[j]? = some t) : ∃ x, t = .v x := by
  rw [List.getElem?_map, Option.map_eq_some_iff] at h
  obtain ⟨x, _, h⟩ := h
  exact ⟨x, h.symm⟩
theorem lnCut_lo {p : Nat × Nat} {d : Int} (h1 : d < 16) : lnCut (0 + 2 + d.toNat * 1) 1 [((0, 18), p)] = [((0, 18), p)] := by
  show (bif Nat.ble _ 18 && Nat.blt 18 _ then _ else _) = _
  rw [show Nat.blt 18 (0 + 2 + d.toNat * 1 + 1) = false by
    rw [Bool.eq_false_iff]; intro h; have := Nat.le_of_ble_eq_true h; omega, Bool.and_false]
  rfl
theorem rowX_nil {c : Cst} (h : c.regs.length = 16) : (rowX c).take (0 + 18) ++ [Tr.v (.slice none 0 0)] ++ (rowX c).drop (0 + 18 + 1) = rowX c := by
  obtain ⟨ca, ch, cr, cb⟩ := c
  obtain ⟨r0, r1, r2, r3, r4, r5, r6, r7, r8, r9, r10, r11, r12, r13, r14, r15, rfl⟩ := regs16 h
  rfl
theorem setC_len {rows : List (List Tr)} {i j : Nat} {t : Tr} : (setC rows i j t).length = rows.length := by
  simp [setC]
theorem csX {cores : List Cst} {k n : Nat} {r : List Tr} {t : Tr} {c : Cst} (hk : k < cores.length) (hn : n = cores.length) (e : r.set 18 t = c.row) : csT (cores.set k c) = .lst 19 168 ((setC ((cores.map Cst.row).set k r) k 18 t).take n) := by
  rw [setC_set (by rw [List.length_map]; exact hk), e, cores_set, List.take_of_length_le (by rw [List.length_map, List.length_set, hn]; exact Nat.le_refl _)]
theorem rowX_off {c : Cst} (h : c.regs.length = 16) {d : Int} (h1 : d < 16) : 0 + 2 + d.toNat * 1 < (rowX c).length := by rw [rowX_len h]; omega
theorem rowX_off1 {c : Cst} (h : c.regs.length = 16) {d : Int} (h1 : d < 16) : 0 + 2 + d.toNat * 1 + 1 ≤ (rowX c).length := by rw [rowX_len h]; omega
set_option maxRecDepth 100000 in
set_option maxHeartbeats 8000000 in
theorem z_run (s : Mst) (hI : VInv s) (hp : s.prints.length ≤ 1048577) (k : Nat) {c : Cst} {i : Ins} {r : Cor} (hc : s.cores[k]? = some c) (hr : s.o.cores[k]? = some r) (hi : r.code[c.at_.toNat]? = some i) (hh : c.halted = false) (hst : stallB s c i = false) :
    K 71 [stA s, .tr (ti k)] [] (.ret (.tup [stA (runS s k c i).1, (runS s k c i).2.av, .tr (ti 0)])) [] := by
  have hIc := hI.core k c r hc hr
  have hg := check_good hI.chk
  have hR := right_i (hg.right r (List.mem_of_getElem? hr) i (List.mem_of_getElem? hi))
  have h16 := hIc.regs
  have hw := z_waits s k hc h16 hr hIc.at0 hi
  rw [hst] at hw
  have hml : s.mem.length ≤ 4096 := by rw [hI.mem]; exact hg.mem
  have hkl8 : s.cores.length ≤ 8 := by rw [hI.len]; exact hg.cores
  have h16a : ∀ c ∈ s.cores, c.regs.length = 16 := fun c hc => by
    obtain ⟨j, hj⟩ := List.mem_iff_getElem?.1 hc
    obtain ⟨r', hr'⟩ := hI.cor hj
    exact (hI.core j c r' hj hr').regs
  have hba : ∀ c ∈ s.cores, c.buf.length ≤ 64 := fun c hc => by
    obtain ⟨j, hj⟩ := List.mem_iff_getElem?.1 hc
    obtain ⟨r', hr'⟩ := hI.cor hj
    have := (hI.core j c r' hj hr').buf
    have := hg.buffer
    omega
  have hcp := z_copy s h16a hba hml hkl8 (by omega)
  have hbc := hba c (List.mem_of_getElem? hc)
  have hsee := fun ha0 ha1 => z_seen s k c i.addr h16 hbc ha0 ha1
  have hadr := hR.addr
  have hmemI := hI.mem
  generalize hRes : runS s k c i = RS
  have hk0 := hR.kind
  have hD := hR.d
  have hA := hR.a
  have hBB := hR.b
  have hop := hR.op
  have hat := hIc.at0
  have hat1 := hIc.at1
  have hcode := (hg.code r (List.mem_of_getElem? hr)).2
  clear hI hIc hg hR h16a hba hst
  obtain ⟨o, cores, mem, prints⟩ := s
  obtain ⟨memory, shared, locks, buffer, ocores⟩ := o
  simp only at hc hr hp hml hkl8 hadr hmemI
  have hkl : k < cores.length := (List.getElem?_eq_some_iff.1 hc).1
  have hkr : k < ocores.length := (List.getElem?_eq_some_iff.1 hr).1
  have hci : c.at_ < (r.code.length : Int) := hat1
  have hcl : (cores.map Cst.row).length = cores.length := List.length_map ..
  obtain ⟨ca, ch, cr, cb⟩ := c
  simp only at hh hbc hat hci hat1
  subst hh
  obtain ⟨r0, r1, r2, r3, r4, r5, r6, r7, r8, r9, r10, r11, r12, r13, r14, r15, rfl⟩ := regs16 h16
  have hw1 : IntKind.i64.wrap (ca + 1) = ca + 1 := by rw [w64 (by omega) (by omega)]
  refine Ctr.pk [8, 11, 46] hT hmix Tryz.func71 rfl (fun _ _ => by kernel_rfl) rfl fun hok => ?_
  clear hok
  conv => whnf
  refine ⟨rfl, (show (0 : Int) ≤ k by omega), (show (k : Int) < ((cores.map Cst.row).length : Int) by rw [hcl]; omega), fun row hrow => ?_⟩
  obtain rfl := row_of hc hrow
  clear hrow
  conv => whnf
  refine acall.pure _ (hw) rfl rfl fun _ => ?_
  conv => whnf
  refine acall.new [] [] _ _ _ _ hcp rfl rfl rfl rfl aut aut rfl rfl fun _ => ?_
  conv => whnf
  refine CutL.by (fun _ : Unit => ⟨[(1, .tr (ti k)), (2, .ptr 0 0), (4, .ptr 1 0), (5, .ptr 2 0), (8, .vpt 6 19 0 0)], [(0, .cells 72 [.tr (intsT memory), .tr (ti shared), .tr (ti locks), .tr (ti buffer), .tr (coresT ocores), .sl 3 cores.length, .sl 4 mem.length, .sl 5 prints.length]), (1, .cells 72 [.tr (.v (.slice none 0 0)), .tr (ti 0), .tr (ti 0), .tr (ti 0), .tr (.v (.slice none 0 0)), .tr (.v (.slice none 0 0)), .tr (.v (.slice none 0 0)), .tr (.v (.slice none 0 0))]), (2, diB zeroD), (3, .own 19 168 (cores.map Cst.row) [((k, 18), (7, cb.length))]), (4, meB mem), (5, prB prints), (6, .own 19 168 [[ti ca, tb false, ti r0, ti r1, ti r2, ti r3, ti r4, ti r5, ti r6, ti r7, ti r8, ti r9, ti r10, ti r11, ti r12, ti r13, ti r14, ti r15, .v (.slice none 0 0)]] [((0, 18), (7, cb.length))]), (7, .own 3 24 (cb.map Sto.row) [])], 10⟩) (fun _ => True) ?_ ?_
  · conv => whnf
    refine ⟨rfl, (show (0 : Int) ≤ k by omega), (show (k : Int) < (cores.length : Int) by omega), ?_⟩
    conv => whnf
    refine ⟨rfl, (by rw [hcl]; exact hkl), fun row hrow => ?_⟩
    obtain rfl := row_of hc hrow
    clear hrow
    refine ⟨Nat.le_refl _, .inr ⟨18, 3, 24, cb.map Sto.row, by decide, by decide, rfl, by decide, fun _ _ _ => rfl, row_lf h16, ?_⟩⟩
    conv => whnf
    refine .inr ?_
    conv => whnf
    refine ⟨rfl, rfl, rfl, Nat.le_of_ble_eq_true rfl, trivial, fun row hrow => ?_⟩
    cases hrow
    refine ⟨Nat.le_of_ble_eq_true rfl, ?_⟩
    conv => whnf
    exact ⟨(), [_, _, _, _, _, _, _, 22], [], Sub.mk' rfl ⟨.inl rfl, ⟨rfl, rfl⟩, ⟨rfl, rfl⟩, ⟨rfl, rfl⟩, ⟨rfl, rfl, rfl, rfl⟩, trivial⟩ ⟨⟨rfl, .inl rfl, .inl rfl, .inl rfl, .inl rfl, .inl rfl, ⟨rfl, rfl⟩, ⟨rfl, rfl⟩, ⟨rfl, rfl⟩, trivial⟩, ⟨rfl, .inl rfl, .inl rfl, .inl rfl, .inl rfl, .inl rfl, .inl rfl, .inl rfl, .inl rfl, trivial⟩, ⟨rfl, .inl rfl, .inl rfl, .inl rfl, .inl rfl, .inl rfl, .inl rfl, .inl rfl, trivial⟩, ⟨rfl, rfl, (by rw [List.length_map]; rfl), rfl, .inl rfl⟩, ⟨rfl, rfl, rfl, rfl⟩, ⟨rfl, rfl, rfl, rfl⟩, ⟨rfl, rfl, (by rw [List.length_map]; rfl), rfl, .inl rfl⟩, ⟨rfl, rfl, rfl, rfl, .inl rfl⟩, trivial⟩ rfl rfl, trivial⟩
  rintro - - -
  conv => whnf
  refine ⟨rfl, (show (0 : Int) ≤ k by omega), (show (k : Int) < ((ocores.map Cor.cells).length : Int) by rw [List.length_map]; omega), fun row hrow => ?_⟩
  obtain ⟨r', hr', rfl⟩ := cor_get hrow
  obtain rfl : r = r' := Option.some.inj (hr.symm.trans hr')
  clear hrow hr'
  conv => whnf
  refine ⟨rfl, Nat.le_of_ble_eq_true rfl, fun row hrow => ?_⟩
  cases hrow
  refine ⟨Nat.le_of_ble_eq_true rfl, fun t ht => ?_⟩
  cases ht
  conv => whnf
  refine ⟨rfl, hat, (show ca < ((r.code.map Ins.cells).length : Int) by rw [List.length_map]; exact hci), fun row hrow => ?_⟩
  obtain ⟨i', hi', rfl⟩ := ins_get hrow
  obtain rfl : i = i' := Option.some.inj (hi.symm.trans hi')
  clear hrow hi'
  obtain ⟨kind, op, D, a, b, addr, to_, word, from_⟩ := i
  simp only at hk0 hD hA hBB hop hadr hsee
  conv => whnf
  refine ⟨by kernel_rfl, fun _ => ?_⟩
  conv => whnf
  refine ⟨rfl, Nat.le_of_ble_eq_true rfl, fun row hrow => ?_⟩
  cases hrow
  refine ⟨Nat.le_of_ble_eq_true rfl, fun t ht => ?_⟩
  cases ht
  conv => whnf
  obtain ⟨C, hC⟩ : ∃ C : Cst, C = ⟨ca, false, [r0, r1, r2, r3, r4, r5, r6, r7, r8, r9, r10, r11, r12, r13, r14, r15], cb⟩ := ⟨_, rfl⟩
  have hCr : rowX C = [ti ca, tb false, ti r0, ti r1, ti r2, ti r3, ti r4, ti r5, ti r6, ti r7, ti r8, ti r9, ti r10, ti r11, ti r12, ti r13, ti r14, ti r15, .v (.slice none 0 0)] := by rw [hC]; rfl
  have hC16 : C.regs.length = 16 := by rw [hC]; rfl
  refine CutL.by (fun _ : Unit => ⟨[(1, .tr (ti k)), (2, .ptr 0 0), (4, .ptr 1 0), (5, .ptr 2 0), (8, .vpt 6 19 0 0), (9, .ptr 7 0), (10, .ptr 8 0), (11, .tr (ti (ca + 1)))], [(0, .cells 72 [.tr (intsT memory), .tr (ti shared), .tr (ti locks), .tr (ti buffer), .tr (coresT ocores), .sl 3 cores.length, .sl 4 mem.length, .sl 5 prints.length]), (1, .cells 72 [.tr (.v (.slice none 0 0)), .tr (ti 0), .tr (ti 0), .tr (ti 0), .tr (.v (.slice none 0 0)), .tr (.v (.slice none 0 0)), .tr (.v (.slice none 0 0)), .tr (.v (.slice none 0 0))]), (2, diB zeroD), (3, .own 19 168 (cores.map Cst.row) [((k, 18), (9, cb.length))]), (4, meB mem), (5, prB prints), (6, .own 19 168 [rowX C] [((0, 18), (9, cb.length))]), (7, .cells 115 [.tr (tu kind), .tr (tu op), .tr (ti D), .tr (ti a), .tr (ti b), .tr (ti addr), .tr (ti to_), .tr (ti word), .tr (ti from_)]), (8, diB ⟨1, k, ca, 0, 0, 0, false⟩), (9, .own 3 24 (cb.map Sto.row) [])], 10⟩) (fun _ => True) ?_ ?_
  · conv => whnf
    refine ⟨rfl, Nat.le_of_ble_eq_true rfl, fun row hrow => ?_⟩
    cases hrow
    refine ⟨Nat.le_of_ble_eq_true rfl, fun t ht => ?_⟩
    cases ht
    conv => whnf
    exact ⟨(), [_, _, _, _, _, _, _, _, _, 7], [], Sub.mk' rfl ⟨.inl rfl, ⟨rfl, rfl⟩, ⟨rfl, rfl⟩, ⟨rfl, rfl⟩, ⟨rfl, rfl, rfl, rfl⟩, ⟨rfl, rfl⟩, ⟨rfl, rfl⟩, .inl (congrArg ti hw1), trivial⟩ ⟨⟨rfl, .inl rfl, .inl rfl, .inl rfl, .inl rfl, .inl rfl, ⟨rfl, rfl⟩, ⟨rfl, rfl⟩, ⟨rfl, rfl⟩, trivial⟩, ⟨rfl, .inl rfl, .inl rfl, .inl rfl, .inl rfl, .inl rfl, .inl rfl, .inl rfl, .inl rfl, trivial⟩, ⟨rfl, .inl rfl, .inl rfl, .inl rfl, .inl rfl, .inl rfl, .inl rfl, .inl rfl, trivial⟩, ⟨rfl, rfl, rfl, rfl, .inl rfl⟩, ⟨rfl, rfl, rfl, rfl⟩, ⟨rfl, rfl, rfl, rfl⟩, ⟨rfl, rfl, rfl, rfl, .inl (by rw [hCr])⟩, ⟨rfl, .inl rfl, .inl rfl, .inl rfl, .inl rfl, .inl rfl, .inl rfl, .inl rfl, .inl rfl, .inl rfl, trivial⟩, ⟨rfl, .inl rfl, .inl rfl, .inl rfl, .inl rfl, .inl rfl, .inl rfl, .inl rfl, trivial⟩, ⟨rfl, rfl, rfl, rfl, .inl rfl⟩, trivial⟩ rfl rfl, trivial⟩
  rintro - - -
  have hkk : kind = 1 ∨ kind = 2 ∨ kind = 3 ∨ kind = 4 ∨ kind = 5 ∨ kind = 6 ∨ kind = 7 ∨ kind = 8 ∨ kind = 9 ∨ kind = 10 := by omega
  have hmm : ∀ m : List Int, m = mem → mem.length = m.length := fun m h => by rw [h]
  refine CutL.by (fun t : Cst × (Int × (Did × (List Int × (List Prn × (List Sto × Nat))))) => ⟨[(1, .tr (ti k)), (2, .ptr 0 0), (4, .ptr 1 0), (5, .ptr 2 0), (8, .vpt 6 19 0 0), (10, .ptr 7 0), (11, .tr (ti t.2.1))], [(0, .cells 72 [.tr (intsT memory), .tr (ti shared), .tr (ti locks), .tr (ti buffer), .tr (coresT ocores), .sl 3 cores.length, .sl 4 t.2.2.2.1.length, .sl 5 t.2.2.2.2.1.length]), (1, .cells 72 [.tr (.v (.slice none 0 0)), .tr (ti 0), .tr (ti 0), .tr (ti 0), .tr (.v (.slice none 0 0)), .tr (.v (.slice none 0 0)), .tr (.v (.slice none 0 0)), .tr (.v (.slice none 0 0))]), (2, diB zeroD), (3, .own 19 168 (cores.map Cst.row) [((k, 18), (t.2.2.2.2.2.2, cb.length))]), (4, meB t.2.2.2.1), (5, prB t.2.2.2.2.1), (6, .own 19 168 [rowX t.1] [((0, 18), (8, t.2.2.2.2.2.1.length))]), (7, diB t.2.2.1), (8, .own 3 24 (t.2.2.2.2.2.1.map Sto.row) [])], 10⟩) (fun t => RS = (⟨⟨memory, shared, locks, buffer, ocores⟩, cores.set k { t.1 with at_ := t.2.1 }, t.2.2.2.1, t.2.2.2.2.1⟩, t.2.2.1) ∧ t.1.regs.length = 16 ∧ t.1.buf = t.2.2.2.2.2.1) ?_ ?_
  rcases hkk with rfl | rfl | rfl | rfl | rfl | rfl | rfl | rfl | rfl | rfl
  · conv => whnf
    refine ⟨hD.1, hD.2, ?_⟩
    conv => whnf
    refine ⟨rfl, rfl, rfl, Nat.one_pos, ⟨fun _ => rfl, trivial⟩, fun row hrow => ?_⟩
    cases hrow
    refine ⟨rowX_off1 hC16 hD.2, ?_⟩
    conv => whnf
    exact ⟨(C.setReg D word, ca + 1, ⟨1, k, ca, 0, 0, 0, false⟩, mem, prints, cb, 8), [_, _, _, _, _, _, _, _, 9, 7], [], Sub.mk' rfl ⟨.inl rfl, ⟨rfl, rfl⟩, ⟨rfl, rfl⟩, ⟨rfl, rfl⟩, ⟨rfl, rfl, rfl, rfl⟩, ⟨rfl, rfl⟩, .inl rfl, trivial⟩ ⟨⟨rfl, .inl rfl, .inl rfl, .inl rfl, .inl rfl, .inl rfl, ⟨rfl, rfl⟩, ⟨rfl, rfl⟩, ⟨rfl, rfl⟩, trivial⟩, ⟨rfl, .inl rfl, .inl rfl, .inl rfl, .inl rfl, .inl rfl, .inl rfl, .inl rfl, .inl rfl, trivial⟩, ⟨rfl, .inl rfl, .inl rfl, .inl rfl, .inl rfl, .inl rfl, .inl rfl, .inl rfl, trivial⟩, ⟨rfl, rfl, rfl, rfl, .inl rfl⟩, ⟨rfl, rfl, rfl, rfl⟩, ⟨rfl, rfl, rfl, rfl⟩, ⟨rfl, rfl, (congrArg some (lnCut_lo hD.2).symm), ((congrArg List.length (lnCut_lo (p := (9, cb.length)) hD.2)).trans rfl), .inl (congrArg (fun r => [r]) (rowX_set hC16 hD.1 hD.2 _))⟩, ⟨rfl, .inl rfl, .inl rfl, .inl rfl, .inl rfl, .inl rfl, .inl rfl, .inl rfl, trivial⟩, ⟨rfl, rfl, rfl, rfl, .inl rfl⟩, trivial⟩ rfl rfl, (by subst hC; exact hRes.symm), (by exact (List.length_set ..).trans hC16), (by subst hC; rfl)⟩
  · conv => whnf
    refine ⟨hA.1, hA.2, ?_⟩
    conv => whnf
    refine ⟨rfl, Nat.one_pos, fun row hrow => ?_⟩
    cases hrow
    refine ⟨rowX_off hC16 hA.2, fun t ht => ?_⟩
    obtain rfl := rowX_reg hC16 hA.1 hA.2 ht
    clear ht
    conv => whnf
    conv in (lnk _ 0 _) => (change lnk [((0, 18), (_, _))] 0 (0 + 2 + _ * 1); rw [lnk_lo hA.2])
    conv => whnf
    rcases hop rfl with h2 | h2
    · have ho := z_oneN op (C.reg a) h2
      have ht := k_rtwo op
      rw [h2] at ht
      have hd := z_do op (C.reg a) (C.reg b) h2
      have hal : opW op (C.reg a) (C.reg b) = aluW op (C.reg a) (C.reg b) := by unfold aluW; rw [h2]; rfl
      rw [hal] at hd
      refine acall.pure _ (ho) rfl rfl ?_
      conv => whnf
      refine ⟨by kernel_rfl, fun _ => ?_⟩
      conv => whnf
      refine acall.pure _ (ht) rfl rfl fun _ => ?_
      conv => whnf
      refine ⟨hA.1, hA.2, ?_⟩
      conv => whnf
      refine ⟨rfl, Nat.one_pos, fun row hrow => ?_⟩
      cases hrow
      refine ⟨rowX_off hC16 hA.2, fun t ht => ?_⟩
      obtain rfl := rowX_reg hC16 hA.1 hA.2 ht
      clear ht
      conv => whnf
      conv in (lnk _ 0 _) => (change lnk [((0, 18), (_, _))] 0 (0 + 2 + _ * 1); rw [lnk_lo hA.2])
      conv => whnf
      refine ⟨hBB.1, hBB.2, ?_⟩
      conv => whnf
      refine ⟨rfl, Nat.one_pos, fun row hrow => ?_⟩
      cases hrow
      refine ⟨rowX_off hC16 hBB.2, fun t ht => ?_⟩
      obtain rfl := rowX_reg hC16 hBB.1 hBB.2 ht
      clear ht
      conv => whnf
      conv in (lnk _ 0 _) => (change lnk [((0, 18), (_, _))] 0 (0 + 2 + _ * 1); rw [lnk_lo hBB.2])
      conv => whnf
      refine acall.pure _ (hd) rfl rfl ?_
      conv => whnf
      refine ⟨by kernel_rfl, fun _ => ?_⟩
      conv => whnf
      refine ⟨hD.1, hD.2, ?_⟩
      conv => whnf
      refine ⟨rfl, rfl, rfl, Nat.one_pos, ⟨fun _ => rfl, trivial⟩, fun row hrow => ?_⟩
      cases hrow
      refine ⟨rowX_off1 hC16 hD.2, ?_⟩
      conv => whnf
      exact ⟨(C.setReg D (aluW op (C.reg a) (C.reg b)), ca + 1, ⟨1, k, ca, 0, 0, 0, false⟩, mem, prints, cb, 8), [_, _, _, _, _, _, _, _, 9, 7], [], Sub.mk' rfl ⟨.inl rfl, ⟨rfl, rfl⟩, ⟨rfl, rfl⟩, ⟨rfl, rfl⟩, ⟨rfl, rfl, rfl, rfl⟩, ⟨rfl, rfl⟩, .inl rfl, trivial⟩ ⟨⟨rfl, .inl rfl, .inl rfl, .inl rfl, .inl rfl, .inl rfl, ⟨rfl, rfl⟩, ⟨rfl, rfl⟩, ⟨rfl, rfl⟩, trivial⟩, ⟨rfl, .inl rfl, .inl rfl, .inl rfl, .inl rfl, .inl rfl, .inl rfl, .inl rfl, .inl rfl, trivial⟩, ⟨rfl, .inl rfl, .inl rfl, .inl rfl, .inl rfl, .inl rfl, .inl rfl, .inl rfl, trivial⟩, ⟨rfl, rfl, rfl, rfl, .inl rfl⟩, ⟨rfl, rfl, rfl, rfl⟩, ⟨rfl, rfl, rfl, rfl⟩, ⟨rfl, rfl, (congrArg some (lnCut_lo hD.2).symm), ((congrArg List.length (lnCut_lo (p := (9, cb.length)) hD.2)).trans rfl), .inl (congrArg (fun r => [r]) (rowX_set hC16 hD.1 hD.2 _))⟩, ⟨rfl, .inl rfl, .inl rfl, .inl rfl, .inl rfl, .inl rfl, .inl rfl, .inl rfl, trivial⟩, ⟨rfl, rfl, rfl, rfl, .inl rfl⟩, trivial⟩ rfl rfl, (by subst hC; exact hRes.symm), (by exact (List.length_set ..).trans hC16), (by subst hC; rfl)⟩
    · have ho : K 95 [.tr (tu op), .tr (ti (C.reg a))] [] (.ret (.tup [.tr (ti (oneW op (C.reg a))), .tr (ti 0)])) [] := by
        rcases h2 with rfl | rfl
        · exact z_one17 _
        · exact z_one18 _
      have h3 : two op = false := by unfold two; simp; omega
      have ht := k_rtwo op
      rw [h3] at ht
      have hal : oneW op (C.reg a) = aluW op (C.reg a) (C.reg b) := by unfold aluW; rw [h3]; rfl
      rw [hal] at ho
      refine acall.pure _ (ho) rfl rfl ?_
      conv => whnf
      refine ⟨by kernel_rfl, fun _ => ?_⟩
      conv => whnf
      refine acall.pure _ (ht) rfl rfl fun _ => ?_
      conv => whnf
      refine ⟨hD.1, hD.2, ?_⟩
      conv => whnf
      refine ⟨rfl, rfl, rfl, Nat.one_pos, ⟨fun _ => rfl, trivial⟩, fun row hrow => ?_⟩
      cases hrow
      refine ⟨rowX_off1 hC16 hD.2, ?_⟩
      conv => whnf
      exact ⟨(C.setReg D (aluW op (C.reg a) (C.reg b)), ca + 1, ⟨1, k, ca, 0, 0, 0, false⟩, mem, prints, cb, 8), [_, _, _, _, _, _, _, _, 9, 7], [], Sub.mk' rfl ⟨.inl rfl, ⟨rfl, rfl⟩, ⟨rfl, rfl⟩, ⟨rfl, rfl⟩, ⟨rfl, rfl, rfl, rfl⟩, ⟨rfl, rfl⟩, .inl rfl, trivial⟩ ⟨⟨rfl, .inl rfl, .inl rfl, .inl rfl, .inl rfl, .inl rfl, ⟨rfl, rfl⟩, ⟨rfl, rfl⟩, ⟨rfl, rfl⟩, trivial⟩, ⟨rfl, .inl rfl, .inl rfl, .inl rfl, .inl rfl, .inl rfl, .inl rfl, .inl rfl, .inl rfl, trivial⟩, ⟨rfl, .inl rfl, .inl rfl, .inl rfl, .inl rfl, .inl rfl, .inl rfl, .inl rfl, trivial⟩, ⟨rfl, rfl, rfl, rfl, .inl rfl⟩, ⟨rfl, rfl, rfl, rfl⟩, ⟨rfl, rfl, rfl, rfl⟩, ⟨rfl, rfl, (congrArg some (lnCut_lo hD.2).symm), ((congrArg List.length (lnCut_lo (p := (9, cb.length)) hD.2)).trans rfl), .inl (congrArg (fun r => [r]) (rowX_set hC16 hD.1 hD.2 _))⟩, ⟨rfl, .inl rfl, .inl rfl, .inl rfl, .inl rfl, .inl rfl, .inl rfl, .inl rfl, trivial⟩, ⟨rfl, rfl, rfl, rfl, .inl rfl⟩, trivial⟩ rfl rfl, (by subst hC; exact hRes.symm), (by exact (List.length_set ..).trans hC16), (by subst hC; rfl)⟩
  · have hs := hsee (hadr (.inl rfl)).1 (by rw [hmemI]; exact (hadr (.inl rfl)).2)
    subst hC
    conv => whnf
    refine ⟨rfl, Nat.one_pos, fun row hrow => ?_⟩
    cases hrow
    refine ⟨Nat.le_of_ble_eq_true rfl, .inl ⟨fun j t _ _ ht _ => vleaf [_, _, _, _, _, _, _, _, _, _, _, _, _, _, _, _, _, _, _] ht, ?_⟩⟩
    conv => whnf
    refine acall.gen [3, 9] [4, 5] _ _ _ _ hs rfl rfl rfl rfl ⟨⟨.inl rfl, .inl rfl, .inl rfl, .inl rfl, .inl rfl, ⟨rfl, rfl⟩, ⟨rfl, by simp, by rw [List.take_of_length_le (by simp)]⟩, ⟨rfl, by simp, by rw [List.take_of_length_le (by simp)]⟩, trivial⟩, ⟨.inl rfl, .inl rfl, .inl rfl, .inl rfl, .inl rfl, .inl rfl, .inl rfl, .inl rfl, .inl rfl, .inl rfl, .inl rfl, .inl rfl, .inl rfl, .inl rfl, .inl rfl, .inl rfl, .inl rfl, .inl rfl, ⟨rfl, rfl⟩, trivial⟩, .inl rfl, trivial⟩ ⟨⟨rfl, rfl, rfl, rfl, .inl rfl⟩, ⟨rfl, rfl, rfl, rfl, .inl rfl⟩, trivial⟩ rfl rfl fun _ => ?_
    conv => whnf
    refine ⟨hD.1, hD.2, ?_⟩
    conv => whnf
    refine ⟨rfl, rfl, rfl, Nat.one_pos, ⟨fun _ => rfl, trivial⟩, fun row hrow => ?_⟩
    cases hrow
    refine ⟨rowX_off1 hC16 hD.2, ?_⟩
    conv => whnf
    refine ⟨rfl, Nat.one_pos, fun row hrow => ?_⟩
    replace hrow : some ((rowX (Cst.mk ca false [r0, r1, r2, r3, r4, r5, r6, r7, r8, r9, r10, r11, r12, r13, r14, r15] cb)).take (0 + 2 + D.toNat * 1) ++ [ti (seeB cb addr (mem.getD addr.toNat 0, false)).1] ++ (rowX (Cst.mk ca false [r0, r1, r2, r3, r4, r5, r6, r7, r8, r9, r10, r11, r12, r13, r14, r15] cb)).drop (0 + 2 + D.toNat * 1 + 1)) = some row := hrow
    rw [rowX_set hC16 hD.1 hD.2] at hrow
    cases hrow
    refine ⟨by rw [rowX_len (c := (Cst.mk ca false [r0, r1, r2, r3, r4, r5, r6, r7, r8, r9, r10, r11, r12, r13, r14, r15] cb).setReg D _) ((List.length_set ..).trans hC16)]; decide, fun t ht => ?_⟩
    cases ht
    conv => whnf
    conv in (lnk _ 0 _) => (change lnk (lnCut (0 + 2 + _ * 1) 1 [((0, 18), (_, _))]) 0 0; rw [lnCut_lo hD.2])
    conv => whnf
    exact ⟨((Cst.mk ca false [r0, r1, r2, r3, r4, r5, r6, r7, r8, r9, r10, r11, r12, r13, r14, r15] cb).setReg D (seeB cb addr (mem.getD addr.toNat 0, false)).1, ca + 1, ⟨2, k, ca, addr, (seeB cb addr (mem.getD addr.toNat 0, false)).1, 0, (seeB cb addr (mem.getD addr.toNat 0, false)).2⟩, mem, prints, cb, 8), [_, _, _, _, _, _, _, _, 9, 7], [], Sub.mk' rfl ⟨.inl rfl, ⟨rfl, rfl⟩, ⟨rfl, rfl⟩, ⟨rfl, rfl⟩, ⟨rfl, rfl, rfl, rfl⟩, ⟨rfl, rfl⟩, .inl rfl, trivial⟩ ⟨⟨rfl, .inl rfl, .inl rfl, .inl rfl, .inl rfl, .inl rfl, ⟨rfl, rfl⟩, ⟨rfl, rfl⟩, ⟨rfl, rfl⟩, trivial⟩, ⟨rfl, .inl rfl, .inl rfl, .inl rfl, .inl rfl, .inl rfl, .inl rfl, .inl rfl, .inl rfl, trivial⟩, ⟨rfl, .inl rfl, .inl rfl, .inl rfl, .inl rfl, .inl rfl, .inl rfl, .inl rfl, trivial⟩, ⟨rfl, rfl, rfl, rfl, .inl rfl⟩, ⟨rfl, rfl, rfl, rfl⟩, ⟨rfl, rfl, rfl, rfl⟩, ⟨rfl, rfl, (congrArg some (lnCut_lo hD.2).symm), ((congrArg List.length (lnCut_lo (p := (9, cb.length)) hD.2)).trans rfl), .inl (congrArg (fun r => [r]) (rowX_set hC16 hD.1 hD.2 _))⟩, ⟨rfl, .inl rfl, .inl rfl, .inl rfl, .inl rfl, .inl rfl, .inl rfl, .inl rfl, trivial⟩, ⟨rfl, rfl, rfl, rfl, .inl rfl⟩, trivial⟩ rfl rfl, (by exact hRes.symm), (by exact (List.length_set ..).trans hC16), (by rfl)⟩
  · conv => whnf
    refine ⟨rfl, Nat.one_pos, fun row hrow => ?_⟩
    cases hrow
    refine ⟨(by rw [rowX_len hC16]; decide), fun t _ => ?_⟩
    conv => whnf
    refine ⟨rfl, Nat.one_pos, fun row hrow => ?_⟩
    cases hrow
    refine ⟨(by rw [rowX_len hC16]; decide), fun t ht => ?_⟩
    cases ht
    conv => whnf
    refine ⟨hA.1, hA.2, ?_⟩
    conv => whnf
    refine ⟨rfl, Nat.one_pos, fun row hrow => ?_⟩
    cases hrow
    refine ⟨rowX_off hC16 hA.2, fun t ht => ?_⟩
    obtain rfl := rowX_reg hC16 hA.1 hA.2 ht
    clear ht
    conv => whnf
    conv in (lnk _ 0 _) => (change lnk [((0, 18), (_, _))] 0 (0 + 2 + _ * 1); rw [lnk_lo hA.2])
    conv => whnf
    refine ⟨by simp, rfl, Nat.le_refl _, (show (cb.length + 1) * 24 ≤ 150000000000000 by omega), trivial, new_leaf3 _ _ _, trivial, ?_⟩
    conv => whnf
    refine ⟨rfl, rfl, rfl, Nat.one_pos, ⟨fun _ => rfl, trivial⟩, fun row hrow => ?_⟩
    cases hrow
    refine ⟨(by rw [rowX_len hC16]; exact Nat.le_of_ble_eq_true rfl), ?_⟩
    conv => whnf
    refine ⟨by kernel_rfl, fun _ => ?_⟩
    conv => whnf
    refine ⟨rfl, Nat.one_pos, fun row hrow => ?_⟩
    replace hrow : some ((rowX C).take (0 + 18) ++ [Tr.v (.slice none 0 0)] ++ (rowX C).drop (0 + 18 + 1)) = some row := hrow
    rw [rowX_nil hC16] at hrow
    cases hrow
    refine ⟨(by rw [rowX_len hC16]; decide), fun t ht => ?_⟩
    cases ht
    conv => whnf
    refine ⟨hA.1, hA.2, ?_⟩
    conv => whnf
    refine ⟨rfl, Nat.one_pos, fun row hrow => ?_⟩
    replace hrow : some ((rowX C).take (0 + 18) ++ [Tr.v (.slice none 0 0)] ++ (rowX C).drop (0 + 18 + 1)) = some row := hrow
    rw [rowX_nil hC16] at hrow
    cases hrow
    refine ⟨rowX_off hC16 hA.2, fun t ht => ?_⟩
    obtain rfl := rowX_reg hC16 hA.1 hA.2 ht
    clear ht
    conv => whnf
    conv in (lnk _ 0 _) => (change lnk [((0, 18), (_, _))] 0 (0 + 2 + _ * 1); rw [lnk_lo hA.2])
    conv => whnf
    refine ⟨by kernel_rfl, fun _ => ?_⟩
    conv => whnf
    exact ⟨({ C with buf := cb ++ [Sto.mk C.at_ addr (C.reg a)] }, ca + 1, ⟨3, k, C.at_, addr, C.reg a, 0, false⟩, mem, prints, cb ++ [Sto.mk C.at_ addr (C.reg a)], 9), [_, _, _, _, _, _, _, _, 33, 9], [], Sub.mk' rfl ⟨.inl rfl, ⟨rfl, rfl⟩, ⟨rfl, rfl⟩, ⟨rfl, rfl⟩, ⟨rfl, rfl, rfl, rfl⟩, ⟨rfl, rfl⟩, .inl rfl, trivial⟩ ⟨⟨rfl, .inl rfl, .inl rfl, .inl rfl, .inl rfl, .inl rfl, ⟨rfl, rfl⟩, ⟨rfl, rfl⟩, ⟨rfl, rfl⟩, trivial⟩, ⟨rfl, .inl rfl, .inl rfl, .inl rfl, .inl rfl, .inl rfl, .inl rfl, .inl rfl, .inl rfl, trivial⟩, ⟨rfl, .inl rfl, .inl rfl, .inl rfl, .inl rfl, .inl rfl, .inl rfl, .inl rfl, trivial⟩, ⟨rfl, rfl, rfl, rfl, .inl rfl⟩, ⟨rfl, rfl, rfl, rfl⟩, ⟨rfl, rfl, rfl, rfl⟩, ⟨rfl, rfl, (congrArg (fun n : Nat => some [((0, 18), ((33 : Nat), n))]) (List.length_append ..)), rfl, .inl (congrArg (fun r => [r]) (rowX_nil hC16))⟩, ⟨rfl, .inl rfl, .inl rfl, .inl rfl, .inl rfl, .inl rfl, .inl rfl, .inl rfl, trivial⟩, ⟨rfl, rfl, rfl, rfl, .inl (by rw [List.map_append]; rfl)⟩, trivial⟩ rfl rfl, (by subst hC; exact hRes.symm), (by exact hC16), (by subst hC; rfl)⟩
  · have hm0 := (hadr (.inr (.inr rfl))).1
    have hm1 : addr < (mem.length : Int) := by rw [hmemI]; exact (hadr (.inr (.inr rfl))).2
    conv => whnf
    refine ⟨rfl, hm0, (show addr < (mem.length : Int) from hm1), ?_⟩
    conv => whnf
    refine ⟨rfl, by rw [List.length_map]; show addr.toNat < mem.length; omega, fun row hrow => ?_⟩
    obtain ⟨x, hx, rfl⟩ := mem_get hrow
    obtain rfl : x = mem.getD addr.toNat 0 := by rw [List.getD_eq_getElem?_getD, show mem[addr.toNat]? = some x from hx]; rfl
    refine ⟨Nat.zero_lt_one, fun t ht => ?_⟩
    obtain rfl : t = ti (mem.getD addr.toNat 0) := (Option.some.inj ht).symm
    clear hrow ht hx
    conv => whnf
    refine ⟨hD.1, hD.2, ?_⟩
    conv => whnf
    refine ⟨rfl, Nat.one_pos, fun row hrow => ?_⟩
    cases hrow
    refine ⟨rowX_off hC16 hD.2, fun t ht => ?_⟩
    obtain rfl := rowX_reg hC16 hD.1 hD.2 ht
    clear ht
    conv => whnf
    conv in (lnk _ 0 _) => (change lnk [((0, 18), (_, _))] 0 (0 + 2 + _ * 1); rw [lnk_lo hD.2])
    conv => whnf
    refine ⟨rfl, hm0, (show addr < (mem.length : Int) from hm1), ?_⟩
    conv => whnf
    refine ⟨rfl, rfl, by rw [List.length_map]; show addr.toNat < mem.length; omega, fun row hrow => ?_⟩
    obtain ⟨y, _, rfl⟩ := mem_get hrow
    refine ⟨Nat.le_refl _, ?_⟩
    clear hrow
    conv => whnf
    refine ⟨by kernel_rfl, fun _ => ?_⟩
    conv => whnf
    refine ⟨rfl, Nat.one_pos, fun row hrow => ?_⟩
    cases hrow
    refine ⟨(by rw [rowX_len hC16]; decide), fun t ht => ?_⟩
    cases ht
    conv => whnf
    refine ⟨hD.1, hD.2, ?_⟩
    conv => whnf
    refine ⟨rfl, Nat.one_pos, fun row hrow => ?_⟩
    cases hrow
    refine ⟨rowX_off hC16 hD.2, fun t ht => ?_⟩
    obtain rfl := rowX_reg hC16 hD.1 hD.2 ht
    clear ht
    conv => whnf
    conv in (lnk _ 0 _) => (change lnk [((0, 18), (_, _))] 0 (0 + 2 + _ * 1); rw [lnk_lo hD.2])
    conv => whnf
    refine ⟨by kernel_rfl, fun _ => ?_⟩
    conv => whnf
    refine ⟨hD.1, hD.2, ?_⟩
    conv => whnf
    refine ⟨rfl, rfl, rfl, Nat.one_pos, ⟨fun _ => rfl, trivial⟩, fun row hrow => ?_⟩
    cases hrow
    refine ⟨rowX_off1 hC16 hD.2, ?_⟩
    conv => whnf
    exact ⟨(C.setReg D (mem.getD addr.toNat 0), ca + 1, ⟨4, k, C.at_, addr, mem.getD addr.toNat 0, C.reg D, false⟩, mem.set addr.toNat (C.reg D), prints, cb, 8), [_, _, _, _, _, _, _, _, 9, 7], [], Sub.mk' rfl ⟨.inl rfl, ⟨rfl, rfl⟩, ⟨rfl, rfl⟩, ⟨rfl, rfl⟩, ⟨rfl, rfl, rfl, rfl⟩, ⟨rfl, rfl⟩, .inl rfl, trivial⟩ ⟨⟨rfl, .inl rfl, .inl rfl, .inl rfl, .inl rfl, .inl rfl, ⟨rfl, rfl⟩, ⟨rfl, (List.length_set ..).symm⟩, ⟨rfl, rfl⟩, trivial⟩, ⟨rfl, .inl rfl, .inl rfl, .inl rfl, .inl rfl, .inl rfl, .inl rfl, .inl rfl, .inl rfl, trivial⟩, ⟨rfl, .inl rfl, .inl rfl, .inl rfl, .inl rfl, .inl rfl, .inl rfl, .inl rfl, trivial⟩, ⟨rfl, rfl, rfl, rfl, .inl rfl⟩, ⟨rfl, rfl, rfl, mem_set mem addr.toNat _ rfl⟩, ⟨rfl, rfl, rfl, rfl⟩, ⟨rfl, rfl, (congrArg some (lnCut_lo hD.2).symm), ((congrArg List.length (lnCut_lo (p := (9, cb.length)) hD.2)).trans rfl), .inl (congrArg (fun r => [r]) (rowX_set hC16 hD.1 hD.2 _))⟩, ⟨rfl, .inl rfl, .inl rfl, .inl rfl, .inl rfl, .inl rfl, .inl rfl, .inl rfl, trivial⟩, ⟨rfl, rfl, rfl, rfl, .inl rfl⟩, trivial⟩ rfl rfl, (by subst hC; exact hRes.symm), (by exact (List.length_set ..).trans hC16), (by subst hC; rfl)⟩
  · conv => whnf
    exact ⟨(C, ca + 1, ⟨5, k, ca, 0, 0, 0, false⟩, mem, prints, cb, 8), [_, _, _, _, _, _, _, _, 9, 7], [], Sub.mk' rfl ⟨.inl rfl, ⟨rfl, rfl⟩, ⟨rfl, rfl⟩, ⟨rfl, rfl⟩, ⟨rfl, rfl, rfl, rfl⟩, ⟨rfl, rfl⟩, .inl rfl, trivial⟩ ⟨⟨rfl, .inl rfl, .inl rfl, .inl rfl, .inl rfl, .inl rfl, ⟨rfl, rfl⟩, ⟨rfl, rfl⟩, ⟨rfl, rfl⟩, trivial⟩, ⟨rfl, .inl rfl, .inl rfl, .inl rfl, .inl rfl, .inl rfl, .inl rfl, .inl rfl, .inl rfl, trivial⟩, ⟨rfl, .inl rfl, .inl rfl, .inl rfl, .inl rfl, .inl rfl, .inl rfl, .inl rfl, trivial⟩, ⟨rfl, rfl, rfl, rfl, .inl rfl⟩, ⟨rfl, rfl, rfl, rfl⟩, ⟨rfl, rfl, rfl, rfl⟩, ⟨rfl, rfl, rfl, rfl, .inl (rfl)⟩, ⟨rfl, .inl rfl, .inl rfl, .inl rfl, .inl rfl, .inl rfl, .inl rfl, .inl rfl, trivial⟩, ⟨rfl, rfl, rfl, rfl, .inl rfl⟩, trivial⟩ rfl rfl, (by subst hC; exact hRes.symm), (by exact hC16), (by subst hC; rfl)⟩
  · conv => whnf
    refine ⟨hA.1, hA.2, ?_⟩
    conv => whnf
    refine ⟨rfl, Nat.one_pos, fun row hrow => ?_⟩
    cases hrow
    refine ⟨rowX_off hC16 hA.2, fun t ht => ?_⟩
    obtain rfl := rowX_reg hC16 hA.1 hA.2 ht
    clear ht
    conv => whnf
    conv in (lnk _ 0 _) => (change lnk [((0, 18), (_, _))] 0 (0 + 2 + _ * 1); rw [lnk_lo hA.2])
    conv => whnf
    refine ⟨rfl, rfl, rfl, by simp, by simp; omega, fun q hq => by simp at hq; subst hq; simp, ?_⟩
    conv => whnf
    exact ⟨(C, ca + 1, ⟨6, k, ca, 0, C.reg a, 0, false⟩, mem, prints ++ [Prn.mk k (C.reg a)], cb, 8), [_, _, _, _, _, _, _, _, 9, 7], [], Sub.mk' rfl ⟨.inl rfl, ⟨rfl, rfl⟩, ⟨rfl, rfl⟩, ⟨rfl, rfl⟩, ⟨rfl, rfl, rfl, rfl⟩, ⟨rfl, rfl⟩, .inl rfl, trivial⟩ ⟨⟨rfl, .inl rfl, .inl rfl, .inl rfl, .inl rfl, .inl rfl, ⟨rfl, rfl⟩, ⟨rfl, rfl⟩, ⟨rfl, by simp⟩, trivial⟩, ⟨rfl, .inl rfl, .inl rfl, .inl rfl, .inl rfl, .inl rfl, .inl rfl, .inl rfl, .inl rfl, trivial⟩, ⟨rfl, .inl rfl, .inl rfl, .inl rfl, .inl rfl, .inl rfl, .inl rfl, .inl rfl, trivial⟩, ⟨rfl, rfl, rfl, rfl, .inl rfl⟩, ⟨rfl, rfl, rfl, rfl⟩, ⟨rfl, rfl, rfl, by rw [List.take_of_length_le (by simp), List.map_append]; rfl⟩, ⟨rfl, rfl, rfl, rfl, .inl (rfl)⟩, ⟨rfl, .inl rfl, .inl rfl, .inl rfl, .inl rfl, .inl rfl, .inl rfl, .inl rfl, trivial⟩, ⟨rfl, rfl, rfl, rfl, .inl rfl⟩, trivial⟩ rfl rfl, (by subst hC; exact hRes.symm), (by exact hC16), (by subst hC; rfl)⟩
  · conv => whnf
    exact ⟨(C, to_, ⟨1, k, ca, 0, 0, 0, false⟩, mem, prints, cb, 8), [_, _, _, _, _, _, _, _, 9, 7], [], Sub.mk' rfl ⟨.inl rfl, ⟨rfl, rfl⟩, ⟨rfl, rfl⟩, ⟨rfl, rfl⟩, ⟨rfl, rfl, rfl, rfl⟩, ⟨rfl, rfl⟩, .inl rfl, trivial⟩ ⟨⟨rfl, .inl rfl, .inl rfl, .inl rfl, .inl rfl, .inl rfl, ⟨rfl, rfl⟩, ⟨rfl, rfl⟩, ⟨rfl, rfl⟩, trivial⟩, ⟨rfl, .inl rfl, .inl rfl, .inl rfl, .inl rfl, .inl rfl, .inl rfl, .inl rfl, .inl rfl, trivial⟩, ⟨rfl, .inl rfl, .inl rfl, .inl rfl, .inl rfl, .inl rfl, .inl rfl, .inl rfl, trivial⟩, ⟨rfl, rfl, rfl, rfl, .inl rfl⟩, ⟨rfl, rfl, rfl, rfl⟩, ⟨rfl, rfl, rfl, rfl⟩, ⟨rfl, rfl, rfl, rfl, .inl (rfl)⟩, ⟨rfl, .inl rfl, .inl rfl, .inl rfl, .inl rfl, .inl rfl, .inl rfl, .inl rfl, trivial⟩, ⟨rfl, rfl, rfl, rfl, .inl rfl⟩, trivial⟩ rfl rfl, (by subst hC; exact hRes.symm), (by exact hC16), (by subst hC; rfl)⟩
  · conv => whnf
    refine ⟨hA.1, hA.2, ?_⟩
    conv => whnf
    refine ⟨rfl, Nat.one_pos, fun row hrow => ?_⟩
    cases hrow
    refine ⟨rowX_off hC16 hA.2, fun t ht => ?_⟩
    obtain rfl := rowX_reg hC16 hA.1 hA.2 ht
    clear ht
    conv => whnf
    conv in (lnk _ 0 _) => (change lnk [((0, 18), (_, _))] 0 (0 + 2 + _ * 1); rw [lnk_lo hA.2])
    conv => whnf
    refine csplit (fun h => ?_) (fun h => ?_)
    · replace h : (C.reg a == 0) = true := h
      conv => whnf
      exact ⟨(C, to_, ⟨1, k, ca, 0, 0, 0, false⟩, mem, prints, cb, 8), [_, _, _, _, _, _, _, _, 9, 7], [], Sub.mk' rfl ⟨.inl rfl, ⟨rfl, rfl⟩, ⟨rfl, rfl⟩, ⟨rfl, rfl⟩, ⟨rfl, rfl, rfl, rfl⟩, ⟨rfl, rfl⟩, .inl rfl, trivial⟩ ⟨⟨rfl, .inl rfl, .inl rfl, .inl rfl, .inl rfl, .inl rfl, ⟨rfl, rfl⟩, ⟨rfl, rfl⟩, ⟨rfl, rfl⟩, trivial⟩, ⟨rfl, .inl rfl, .inl rfl, .inl rfl, .inl rfl, .inl rfl, .inl rfl, .inl rfl, .inl rfl, trivial⟩, ⟨rfl, .inl rfl, .inl rfl, .inl rfl, .inl rfl, .inl rfl, .inl rfl, .inl rfl, trivial⟩, ⟨rfl, rfl, rfl, rfl, .inl rfl⟩, ⟨rfl, rfl, rfl, rfl⟩, ⟨rfl, rfl, rfl, rfl⟩, ⟨rfl, rfl, rfl, rfl, .inl (rfl)⟩, ⟨rfl, .inl rfl, .inl rfl, .inl rfl, .inl rfl, .inl rfl, .inl rfl, .inl rfl, trivial⟩, ⟨rfl, rfl, rfl, rfl, .inl rfl⟩, trivial⟩ rfl rfl, (by rw [← hRes]; subst hC; show (_, _) = _; rw [h]; rfl), (by exact hC16), (by subst hC; rfl)⟩
    · replace h : (C.reg a == 0) = false := h
      conv => whnf
      exact ⟨(C, ca + 1, ⟨1, k, ca, 0, 0, 0, false⟩, mem, prints, cb, 8), [_, _, _, _, _, _, _, _, 9, 7], [], Sub.mk' rfl ⟨.inl rfl, ⟨rfl, rfl⟩, ⟨rfl, rfl⟩, ⟨rfl, rfl⟩, ⟨rfl, rfl, rfl, rfl⟩, ⟨rfl, rfl⟩, .inl rfl, trivial⟩ ⟨⟨rfl, .inl rfl, .inl rfl, .inl rfl, .inl rfl, .inl rfl, ⟨rfl, rfl⟩, ⟨rfl, rfl⟩, ⟨rfl, rfl⟩, trivial⟩, ⟨rfl, .inl rfl, .inl rfl, .inl rfl, .inl rfl, .inl rfl, .inl rfl, .inl rfl, .inl rfl, trivial⟩, ⟨rfl, .inl rfl, .inl rfl, .inl rfl, .inl rfl, .inl rfl, .inl rfl, .inl rfl, trivial⟩, ⟨rfl, rfl, rfl, rfl, .inl rfl⟩, ⟨rfl, rfl, rfl, rfl⟩, ⟨rfl, rfl, rfl, rfl⟩, ⟨rfl, rfl, rfl, rfl, .inl (rfl)⟩, ⟨rfl, .inl rfl, .inl rfl, .inl rfl, .inl rfl, .inl rfl, .inl rfl, .inl rfl, trivial⟩, ⟨rfl, rfl, rfl, rfl, .inl rfl⟩, trivial⟩ rfl rfl, (by rw [← hRes]; subst hC; show (_, _) = _; rw [h]; rfl), (by exact hC16), (by subst hC; rfl)⟩
  · conv => whnf
    refine ⟨rfl, rfl, rfl, Nat.one_pos, ⟨fun _ => rfl, trivial⟩, fun row hrow => ?_⟩
    cases hrow
    refine ⟨by rw [rowX_len hC16]; decide, ?_⟩
    conv => whnf
    refine ⟨rfl, Nat.one_pos, fun row hrow => ?_⟩
    cases hrow
    refine ⟨by simp, fun t ht => ?_⟩
    cases ht
    conv => whnf
    exact ⟨({ C with halted := true }, C.at_, ⟨7, k, ca, 0, 0, 0, false⟩, mem, prints, cb, 8), [_, _, _, _, _, _, _, _, 9, 7], [], Sub.mk' rfl ⟨.inl rfl, ⟨rfl, rfl⟩, ⟨rfl, rfl⟩, ⟨rfl, rfl⟩, ⟨rfl, rfl, rfl, rfl⟩, ⟨rfl, rfl⟩, .inl rfl, trivial⟩ ⟨⟨rfl, .inl rfl, .inl rfl, .inl rfl, .inl rfl, .inl rfl, ⟨rfl, rfl⟩, ⟨rfl, rfl⟩, ⟨rfl, rfl⟩, trivial⟩, ⟨rfl, .inl rfl, .inl rfl, .inl rfl, .inl rfl, .inl rfl, .inl rfl, .inl rfl, .inl rfl, trivial⟩, ⟨rfl, .inl rfl, .inl rfl, .inl rfl, .inl rfl, .inl rfl, .inl rfl, .inl rfl, trivial⟩, ⟨rfl, rfl, rfl, rfl, .inl rfl⟩, ⟨rfl, rfl, rfl, rfl⟩, ⟨rfl, rfl, rfl, rfl⟩, ⟨rfl, rfl, rfl, rfl, .inl (rfl)⟩, ⟨rfl, .inl rfl, .inl rfl, .inl rfl, .inl rfl, .inl rfl, .inl rfl, .inl rfl, trivial⟩, ⟨rfl, rfl, rfl, rfl, .inl rfl⟩, trivial⟩ rfl rfl, (by subst hC; exact hRes.symm), (by exact hC16), (by subst hC; rfl)⟩
  rintro ⟨⟨qa, qh, qr, qb⟩, nxt, dd, mem', pr', bf, lh⟩ ⟨hRS, hq, hqb⟩ -
  simp only at hRS hq hqb
  subst hRS hqb
  obtain ⟨q0, q1, q2, q3, q4, q5, q6, q7, q8, q9, q10, q11, q12, q13, q14, q15, rfl⟩ := regs16 hq
  conv => whnf
  refine ⟨rfl, rfl, rfl, Nat.one_pos, ⟨fun _ => rfl, trivial⟩, fun row hrow => ?_⟩
  cases hrow
  refine ⟨Nat.le_of_ble_eq_true rfl, ?_⟩
  conv => whnf
  refine ⟨rfl, Nat.one_pos, fun row hrow => ?_⟩
  cases hrow
  refine ⟨Nat.le_of_ble_eq_true rfl, .inl ⟨fun j t _ _ ht _ => vleaf [_, _, _, _, _, _, _, _, _, _, _, _, _, _, _, _, _, _, _] ht, ?_⟩⟩
  conv => whnf
  refine ⟨rfl, (show (0 : Int) ≤ k by omega), (show (k : Int) < (cores.length : Int) by omega), ?_⟩
  conv => whnf
  refine ⟨rfl, rfl, rfl, (by rw [hcl]; exact hkl), ⟨fun _ => rfl, trivial⟩, fun row hrow => ?_⟩
  obtain rfl := row_of hc hrow
  clear hrow
  refine ⟨Nat.le_of_ble_eq_true rfl, ?_⟩
  conv => whnf
  refine ⟨by kernel_rfl, fun _ => ?_⟩
  conv => whnf
  refine ⟨[3], ?_⟩
  conv => whnf
  refine ⟨rfl, rfl, (show qb.length ≤ (qb.map Sto.row).length by simp), ?_⟩
  refine ⟨[], rfl, rfl, ⟨⟨.inl rfl, .inl rfl, .inl rfl, .inl rfl, .inl rfl, ⟨rfl, ?_, ?_⟩, ⟨rfl, by simp, by rw [List.take_of_length_le (by simp)]⟩, ⟨rfl, by simp, by rw [List.take_of_length_le (by simp)]⟩, trivial⟩, ⟨.inl rfl, .inl rfl, .inl rfl, .inl rfl, .inl rfl, .inl rfl, .inl rfl, trivial⟩, .inl rfl, trivial⟩, trivial⟩
  · show cores.length ≤ (setC _ k 18 _).length
    rw [setC_len, List.length_set, hcl]
    exact Nat.le_refl _
  · exact csX (c := ⟨nxt, qh, [q0, q1, q2, q3, q4, q5, q6, q7, q8, q9, q10, q11, q12, q13, q14, q15], qb⟩) hkl rfl (by rw [List.take_of_length_le (l := qb.map Sto.row) (by simp)]; rfl)
end Go.Proofs.YtioafhkkkmfkdaaGreatDoor.am

namespace Go.Proofs.YtioafhkkkmfkdaaGreatDoor.am
open Go Go.Proofs
abbrev csV (l : List Cst) : Blk := .vec 78 19 168 (l.map Cst.row)
set_option maxRecDepth 100000 in
set_option maxHeartbeats 2000000 in
theorem z_copyV (s : Mst) (h16 : ∀ c ∈ s.cores, c.regs.length = 16) (hbf : ∀ c ∈ s.cores, c.buf.length ≤ 64) (hm : s.mem.length ≤ 4096) (hk : s.cores.length ≤ 8) (hp : s.prints.length ≤ 2000000) :
    K 94 [stA s] [] (.ret (stX s.o (.sl 0 s.cores.length) (.sl 1 s.mem.length) (.sl 2 s.prints.length))) [some (csV s.cores), some (meB s.mem), some (prB s.prints)] := by
  obtain ⟨o, cores, mem, prints⟩ := s
  obtain ⟨memory, shared, locks, buffer, ocores⟩ := o
  simp only at h16 hbf hm hk hp
  have hcl : (cores.map Cst.row).length = cores.length := List.length_map ..
  refine Ctr.new [9] hT hmix Tryz.func94 rfl (fun _ _ => by kernel_rfl) rfl fun hok => ?_
  clear hok
  conv => whnf
  refine ⟨rfl, rfl, rfl, by simp, (show (0 + (mem.map irow).length) * 8 ≤ 150000000000000 by rw [List.length_map]; omega), fun q hq => (by cases hq), ?_⟩
  conv => whnf
  refine ⟨rfl, rfl, rfl, by simp, (show (0 + (prints.map Prn.row).length) * 16 ≤ 150000000000000 by rw [List.length_map]; omega), fun q hq => (by cases hq), ?_⟩
  conv => whnf
  refine LoopL.by (fun j : Nat => ⟨[(1, .ptr 0 0), (2, .ptr 1 0), (3, .sl 4 j), (4, .tr (ti j))], [(0, .cells 72 [.tr (intsT memory), .tr (ti shared), .tr (ti locks), .tr (ti buffer), .tr (coresT ocores), .tr (csT cores), .sl 2 mem.length, .sl 3 prints.length]), (1, .cells 72 [.tr (.v (.slice none 0 0)), .tr (ti 0), .tr (ti 0), .tr (ti 0), .tr (.v (.slice none 0 0)), .tr (.v (.slice none 0 0)), .tr (.v (.slice none 0 0)), .tr (.v (.slice none 0 0))]), (2, meB mem), (3, prB prints), (4, csV (cores.take j))], 10⟩)
    (fun j => j ≤ cores.length) (fun j => cores.length - j) 0 [_, _, _, _] [4]
    (Sub.mk' rfl ⟨⟨rfl, rfl⟩, ⟨rfl, rfl⟩, ⟨rfl, rfl, rfl, rfl⟩, .inl rfl, trivial⟩ ⟨⟨rfl, .inl rfl, .inl rfl, .inl rfl, .inl rfl, .inl rfl, .inl rfl, ⟨rfl, by simp⟩, ⟨rfl, by simp⟩, trivial⟩, ⟨rfl, .inl rfl, .inl rfl, .inl rfl, .inl rfl, .inl rfl, .inl rfl, .inl rfl, .inl rfl, trivial⟩, ⟨rfl, rfl, rfl, by simp⟩, ⟨rfl, rfl, rfl, by simp⟩, ⟨rfl, _, _, _, rfl, by decide⟩, trivial⟩ rfl rfl) (Nat.zero_le _) ?_
  rintro j hj -
  have hj1 : IntKind.i64.wrap ((j : Int) + 1) = ((j + 1 : Nat) : Int) := by rw [w64 (by omega) (by omega)]; omega
  conv => whnf
  refine csplit (fun h1 => ?_) (fun h1 => ?_)
  · have hjl : j < cores.length := by
      have : decide ((j : Int) < ((cores.map Cst.row).length : Int)) = true := h1
      have := of_decide_eq_true this
      omega
    obtain ⟨c, hc⟩ : ∃ c, cores[j]? = some c := ⟨cores[j], by simp [hjl]⟩
    have hmem := List.mem_of_getElem? hc
    have h16c := h16 c hmem
    have hbc := hbf c hmem
    have hsn := take_succ' hc
    obtain ⟨ca, ch, cr, cb⟩ := c
    simp only at hbc
    obtain ⟨r0, r1, r2, r3, r4, r5, r6, r7, r8, r9, r10, r11, r12, r13, r14, r15, rfl⟩ := regs16 h16c
    conv => whnf
    refine ⟨rfl, (show (0 : Int) ≤ (j : Int) by omega), (show (j : Int) < ((cores.map Cst.row).length : Int) by rw [hcl]; omega), fun row hrow => ?_⟩
    obtain rfl := row_of hc hrow
    clear hrow
    conv => whnf
    refine .inl ?_
    conv => whnf
    refine CutL.by (fun _ : Unit => ⟨[(1, .ptr 0 0), (2, .ptr 1 0), (3, .sl 4 j), (4, .tr (ti j)), (5, .ptr 5 0)], [(0, .cells 72 [.tr (intsT memory), .tr (ti shared), .tr (ti locks), .tr (ti buffer), .tr (coresT ocores), .tr (csT cores), .sl 2 mem.length, .sl 3 prints.length]), (1, .cells 72 [.tr (.v (.slice none 0 0)), .tr (ti 0), .tr (ti 0), .tr (ti 0), .tr (.v (.slice none 0 0)), .tr (.v (.slice none 0 0)), .tr (.v (.slice none 0 0)), .tr (.v (.slice none 0 0))]), (2, meB mem), (3, prB prints), (4, csV (cores.take j)), (5, .cells 78 [.tr (ti ca), .tr (tb ch), .tr (ti r0), .tr (ti r1), .tr (ti r2), .tr (ti r3), .tr (ti r4), .tr (ti r5), .tr (ti r6), .tr (ti r7), .tr (ti r8), .tr (ti r9), .tr (ti r10), .tr (ti r11), .tr (ti r12), .tr (ti r13), .tr (ti r14), .tr (ti r15), .tr (bufT cb)])], 10⟩) (fun _ => True) ?_ ?_
    · conv => whnf
      refine ⟨rfl, rfl, rfl, by simp, (show (0 + (cb.map Sto.row).length) * 24 ≤ 150000000000000 by rw [List.length_map]; omega), fun q hq => (by cases hq), ?_⟩
      conv => whnf
      exact ⟨(), [_, _, _, _, _, _], [], Sub.mk' rfl ⟨⟨rfl, rfl⟩, ⟨rfl, rfl⟩, ⟨rfl, rfl⟩, .inl rfl, ⟨rfl, rfl⟩, trivial⟩ ⟨⟨rfl, .inl rfl, .inl rfl, .inl rfl, .inl rfl, .inl rfl, .inl rfl, ⟨rfl, rfl⟩, ⟨rfl, rfl⟩, trivial⟩, ⟨rfl, .inl rfl, .inl rfl, .inl rfl, .inl rfl, .inl rfl, .inl rfl, .inl rfl, .inl rfl, trivial⟩, ⟨rfl, rfl, rfl, rfl⟩, ⟨rfl, rfl, rfl, rfl⟩, ⟨rfl, rfl, rfl, rfl⟩, ⟨rfl, .inl rfl, .inl rfl, .inl rfl, .inl rfl, .inl rfl, .inl rfl, .inl rfl, .inl rfl, .inl rfl, .inl rfl, .inl rfl, .inl rfl, .inl rfl, .inl rfl, .inl rfl, .inl rfl, .inl rfl, .inl rfl, ⟨rfl, by simp, by show bufT cb = Tr.lst 3 24 (List.take (0 + (cb.map Sto.row).length) (cb.map Sto.row)); rw [Nat.zero_add, List.take_length]⟩, trivial⟩, trivial⟩ rfl rfl, trivial⟩
    rintro - - -
    conv => whnf
    refine ⟨rfl, rfl, rfl, by simp; omega, (show (j + 1) * 168 ≤ 150000000000000 by omega), fun q hq => (by simp at hq; subst hq; simp), ?_⟩
    conv => whnf
    refine ⟨j + 1, [0, 1, 2, 3, _], [], Sub.mk' rfl ⟨⟨rfl, rfl⟩, ⟨rfl, rfl⟩, ⟨rfl, rfl⟩, .inl (congrArg ti hj1), trivial⟩ ⟨⟨rfl, .inl rfl, .inl rfl, .inl rfl, .inl rfl, .inl rfl, .inl rfl, ⟨rfl, rfl⟩, ⟨rfl, rfl⟩, trivial⟩, ⟨rfl, .inl rfl, .inl rfl, .inl rfl, .inl rfl, .inl rfl, .inl rfl, .inl rfl, .inl rfl, trivial⟩, ⟨rfl, rfl, rfl, rfl⟩, ⟨rfl, rfl, rfl, rfl⟩, ⟨rfl, rfl, rfl, ?_⟩, trivial⟩ rfl rfl, hjl, by omega⟩
    rw [hsn, List.map_append, List.take_of_length_le (by simp; omega)]
    rfl
  · have hjl : j = cores.length := by
      have : decide ((j : Int) < ((cores.map Cst.row).length : Int)) = false := h1
      have := of_decide_eq_false this
      omega
    subst hjl
    conv => whnf
    refine ⟨fun _ => ?_, fun h => absurd rfl h⟩
    conv => whnf
    exact ⟨[4, 2, 3], rfl, rfl, ⟨.inl rfl, .inl rfl, .inl rfl, .inl rfl, .inl rfl, ⟨rfl, rfl⟩, ⟨rfl, rfl⟩, ⟨rfl, rfl⟩, trivial⟩, ⟨rfl, rfl, rfl, by rw [List.take_of_length_le (Nat.le_refl _)]⟩, ⟨rfl, rfl, rfl, rfl⟩, ⟨rfl, rfl, rfl, rfl⟩, trivial⟩
theorem meV (l : List Int) (i : Nat) (w : Int) {row : List Tr} (h : row.length = 1) : intsT (l.set i w) = .lst 1 8 (((l.map irow).set i (row.take 0 ++ [ti w] ++ row.drop (0 + 1))).take l.length) := by
  rw [mem_set l i w h, List.take_of_length_le (by simp)]
theorem csY {cores : List Cst} {k n : Nat} {r : List Tr} {c : Cst} (hk : k < cores.length) (hn : n = cores.length) (e : r = c.row) : csT (cores.set k c) = .lst 19 168 (((cores.map Cst.row).set k r).take n) := by
  rw [e, cores_set, List.take_of_length_le (by rw [List.length_map, List.length_set, hn]; exact Nat.le_refl _)]
set_option maxRecDepth 100000 in
set_option maxHeartbeats 2000000 in
theorem z_drain0 (s : Mst) (k : Nat) {c : Cst} (hc : s.cores[k]? = some c) (h16 : c.regs.length = 16) (hb : c.buf = []) :
    K 72 [stA s, .tr (ti k)] [] (.ret (.tup [stA s, zeroD.av, .tr (ti 0)])) [] := by
  obtain ⟨o, cores, mem, prints⟩ := s
  obtain ⟨memory, shared, locks, buffer, ocores⟩ := o
  simp only at hc
  have hkl : k < cores.length := (List.getElem?_eq_some_iff.1 hc).1
  have hcl : (cores.map Cst.row).length = cores.length := List.length_map ..
  obtain ⟨ca, ch, cr, cb⟩ := c
  simp only at hb
  subst hb
  obtain ⟨r0, r1, r2, r3, r4, r5, r6, r7, r8, r9, r10, r11, r12, r13, r14, r15, rfl⟩ := regs16 h16
  refine Ctr.of hT hmix Tryz.func72 rfl (fun _ _ => by kernel_rfl) rfl fun hok => ?_
  clear hok
  conv => whnf
  refine ⟨rfl, (show (0 : Int) ≤ k by omega), (show (k : Int) < ((cores.map Cst.row).length : Int) by rw [hcl]; omega), fun row hrow => ?_⟩
  obtain rfl := row_of hc hrow
  clear hrow
  conv => whnf
  exact ⟨⟨⟨.inl rfl, .inl rfl, .inl rfl, .inl rfl, .inl rfl, .inl rfl, .inl rfl, .inl rfl, trivial⟩, ⟨.inl rfl, .inl rfl, .inl rfl, .inl rfl, .inl rfl, .inl rfl, .inl rfl, trivial⟩, .inl rfl, trivial⟩, trivial⟩
set_option maxRecDepth 100000 in
set_option maxHeartbeats 2000000 in
theorem z_drain (s : Mst) (hI : VInv s) (hp : s.prints.length ≤ 2000000) (k : Nat) {c : Cst} {x : Sto} {l : List Sto} (hc : s.cores[k]? = some c) (hb : c.buf = x :: l) :
    K 72 [stA s, .tr (ti k)] [] (.ret (.tup [stA { s.setCore k { c with buf := l } with mem := s.mem.set x.addr.toNat x.word }, (⟨8, k, x.at_, x.addr, x.word, 0, false⟩ : Did).av, .tr (ti 0)])) [] := by
  obtain ⟨r, hr⟩ := hI.cor hc
  have hIc := hI.core k c r hc hr
  have hg := check_good hI.chk
  have h16 := hIc.regs
  have hml : s.mem.length ≤ 4096 := by rw [hI.mem]; exact hg.mem
  have hkl8 : s.cores.length ≤ 8 := by rw [hI.len]; exact hg.cores
  have h16a : ∀ c ∈ s.cores, c.regs.length = 16 := fun c hc => by
    obtain ⟨j, hj⟩ := List.mem_iff_getElem?.1 hc
    obtain ⟨r', hr'⟩ := hI.cor hj
    exact (hI.core j c r' hj hr').regs
  have hba : ∀ c ∈ s.cores, c.buf.length ≤ 64 := fun c hc => by
    obtain ⟨j, hj⟩ := List.mem_iff_getElem?.1 hc
    obtain ⟨r', hr'⟩ := hI.cor hj
    have := (hI.core j c r' hj hr').buf
    have := hg.buffer
    omega
  have hcp := z_copyV s h16a hba hml hkl8 hp
  have hadr := (hIc.adr x (by rw [hb]; exact List.mem_cons_self ..)).1
  rw [← hI.mem] at hadr
  clear hI hIc hg h16a hba hr
  obtain ⟨o, cores, mem, prints⟩ := s
  obtain ⟨memory, shared, locks, buffer, ocores⟩ := o
  simp only at hc hadr hml hkl8 hp
  have hkl : k < cores.length := (List.getElem?_eq_some_iff.1 hc).1
  have hcl : (cores.map Cst.row).length = cores.length := List.length_map ..
  have hm0 := hadr.1
  have hm1 := hadr.2
  obtain ⟨ca, ch, cr, cb⟩ := c
  simp only at hb
  subst hb
  obtain ⟨r0, r1, r2, r3, r4, r5, r6, r7, r8, r9, r10, r11, r12, r13, r14, r15, rfl⟩ := regs16 h16
  have key : (List.take ((((x :: l).map Sto.row).length : Int)).toNat ((x :: l).map Sto.row)).drop 1 = l.map Sto.row := by rw [Int.toNat_natCast, List.take_length]; rfl
  refine Ctr.pk [] hT hmix Tryz.func72 rfl (fun _ _ => by kernel_rfl) rfl fun hok => ?_
  clear hok
  conv => whnf
  refine ⟨rfl, (show (0 : Int) ≤ k by omega), (show (k : Int) < ((cores.map Cst.row).length : Int) by rw [hcl]; omega), fun row hrow => ?_⟩
  obtain rfl := row_of hc hrow
  clear hrow
  conv => whnf
  refine acall.new [] [] _ _ _ _ hcp rfl rfl rfl rfl aut aut rfl rfl fun _ => ?_
  conv => whnf
  refine ⟨rfl, (show (0 : Int) ≤ k by omega), (show (k : Int) < (cores.length : Int) by omega), ?_⟩
  conv => whnf
  refine ⟨rfl, (by rw [hcl]; exact hkl), fun row hrow => ?_⟩
  obtain rfl := row_of hc hrow
  clear hrow
  refine ⟨Nat.le_of_ble_eq_true rfl, fun t ht => ?_⟩
  cases ht
  conv => whnf
  refine ⟨rfl, Int.le_refl _, (show (0 : Int) < (((x :: l).map Sto.row).length : Int) by simp), fun row hrow => ?_⟩
  cases hrow
  conv => whnf
  refine ⟨rfl, (show (0 : Int) ≤ k by omega), (show (k : Int) < (cores.length : Int) by omega), ?_⟩
  refine ⟨rfl, (by rw [hcl]; exact hkl), fun row hrow => ?_⟩
  obtain rfl := row_of hc hrow
  clear hrow
  refine ⟨Nat.le_of_ble_eq_true rfl, fun t ht => ?_⟩
  cases ht
  refine ⟨rfl, (by decide), (show (1 : Int) ≤ (((x :: l).map Sto.row).length : Int) by simp; omega), Int.le_refl _, ?_⟩
  conv => whnf
  refine ⟨rfl, (show (0 : Int) ≤ k by omega), (show (k : Int) < (cores.length : Int) by omega), ?_⟩
  conv => whnf
  refine ⟨rfl, rfl, (by rw [hcl]; exact hkl), fun row hrow => ?_⟩
  obtain rfl := row_of hc hrow
  clear hrow
  refine ⟨Nat.le_of_ble_eq_true rfl, ?_⟩
  conv => whnf
  refine ⟨by kernel_rfl, fun _ => ?_⟩
  conv => whnf
  refine ⟨rfl, hm0, (show x.addr < (mem.length : Int) from hm1), ?_⟩
  conv => whnf
  refine ⟨rfl, rfl, by rw [List.length_map]; show x.addr.toNat < mem.length; omega, fun row hrow => ?_⟩
  obtain ⟨y, _, rfl⟩ := mem_get hrow
  refine ⟨Nat.le_refl _, ?_⟩
  clear hrow
  conv => whnf
  refine ⟨by kernel_rfl, fun _ => ?_⟩
  conv => whnf
  refine ⟨[], ?_⟩
  refine ⟨[], rfl, rfl, ⟨⟨.inl rfl, .inl rfl, .inl rfl, .inl rfl, .inl rfl, ⟨rfl, ?_, ?_⟩, ⟨rfl, by simp, meV mem _ _ rfl⟩, ⟨rfl, by simp, (show prT prints = .lst 2 16 ((prints.map Prn.row).take prints.length) by rw [List.take_of_length_le (by simp)])⟩, trivial⟩, ⟨.inl rfl, .inl rfl, .inl rfl, .inl rfl, .inl rfl, .inl rfl, .inl rfl, trivial⟩, .inl rfl, trivial⟩, trivial⟩
  · show cores.length ≤ ((cores.map Cst.row).set k _).length
    rw [List.length_set, hcl]
    exact Nat.le_refl _
  · exact csY (c := ⟨ca, ch, [r0, r1, r2, r3, r4, r5, r6, r7, r8, r9, r10, r11, r12, r13, r14, r15], l⟩) hkl rfl (congrArg (fun q => [ti ca, tb ch, ti r0, ti r1, ti r2, ti r3, ti r4, ti r5, ti r6, ti r7, ti r8, ti r9, ti r10, ti r11, ti r12, ti r13, ti r14, ti r15, Tr.lst 3 24 q]) key)
end Go.Proofs.YtioafhkkkmfkdaaGreatDoor.am

namespace Go.Proofs.YtioafhkkkmfkdaaGreatDoor.am
open Go Go.Proofs
abbrev runK (f : Nat) (s s' : Mst) (k : Int) (d : Did) (e : Int) : Prop := K f [stA s, .tr (ti k)] [] (.ret (.tup [stA s', d.av, .tr (ti e)])) []
set_option maxRecDepth 100000 in
set_option maxHeartbeats 2000000 in
theorem z_runH (s : Mst) (k : Nat) {c : Cst} (hc : s.cores[k]? = some c) (h16 : c.regs.length = 16) (hh : c.halted = true) : runK 71 s s k zeroD 0 := by
  obtain ⟨o, cores, mem, prints⟩ := s
  obtain ⟨memory, shared, locks, buffer, ocores⟩ := o
  simp only at hc
  have hkl : k < cores.length := (List.getElem?_eq_some_iff.1 hc).1
  obtain ⟨ca, ch, cr, cb⟩ := c
  simp only at hh
  subst hh
  obtain ⟨r0, r1, r2, r3, r4, r5, r6, r7, r8, r9, r10, r11, r12, r13, r14, r15, rfl⟩ := regs16 h16
  refine Ctr.of hT hmix Tryz.func71 rfl (fun _ _ => by kernel_rfl) rfl fun hok => ?_
  clear hok
  conv => whnf
  refine ⟨rfl, (show (0 : Int) ≤ k by omega), (show (k : Int) < ((cores.map Cst.row).length : Int) by rw [List.length_map]; omega), fun row hrow => ?_⟩
  obtain rfl := row_of hc hrow
  clear hrow
  conv => whnf
  exact ⟨⟨⟨.inl rfl, .inl rfl, .inl rfl, .inl rfl, .inl rfl, .inl rfl, .inl rfl, .inl rfl, trivial⟩, ⟨.inl rfl, .inl rfl, .inl rfl, .inl rfl, .inl rfl, .inl rfl, .inl rfl, trivial⟩, .inl rfl, trivial⟩, trivial⟩
set_option maxRecDepth 100000 in
set_option maxHeartbeats 2000000 in
theorem z_runW (s : Mst) (k : Nat) {c : Cst} {i : Ins} {r : Cor} (hc : s.cores[k]? = some c) (h16 : c.regs.length = 16) (hr : s.o.cores[k]? = some r) (h0 : 0 ≤ c.at_) (hi : r.code[c.at_.toNat]? = some i) (hh : c.halted = false) (hst : stallB s c i = true) : runK 71 s s k zeroD 181 := by
  have hw := z_waits s k hc h16 hr h0 hi
  rw [hst] at hw
  clear hst hr hi
  obtain ⟨o, cores, mem, prints⟩ := s
  obtain ⟨memory, shared, locks, buffer, ocores⟩ := o
  simp only at hc
  have hkl : k < cores.length := (List.getElem?_eq_some_iff.1 hc).1
  obtain ⟨ca, ch, cr, cb⟩ := c
  simp only at hh
  subst hh
  obtain ⟨r0, r1, r2, r3, r4, r5, r6, r7, r8, r9, r10, r11, r12, r13, r14, r15, rfl⟩ := regs16 h16
  refine Ctr.of hT hmix Tryz.func71 rfl (fun _ _ => by kernel_rfl) rfl fun hok => ?_
  clear hok
  conv => whnf
  refine ⟨rfl, (show (0 : Int) ≤ k by omega), (show (k : Int) < ((cores.map Cst.row).length : Int) by rw [List.length_map]; omega), fun row hrow => ?_⟩
  obtain rfl := row_of hc hrow
  clear hrow
  conv => whnf
  refine acall.pure _ (hw) rfl rfl fun _ => ?_
  conv => whnf
  exact ⟨⟨⟨.inl rfl, .inl rfl, .inl rfl, .inl rfl, .inl rfl, .inl rfl, .inl rfl, .inl rfl, trivial⟩, ⟨.inl rfl, .inl rfl, .inl rfl, .inl rfl, .inl rfl, .inl rfl, .inl rfl, trivial⟩, .inl rfl, trivial⟩, trivial⟩
abbrev stpK (s s' : Mst) (kd k : Int) (d : Did) (e : Int) : Prop := K 39 [stA s, .agg [.tr (tu kd), .tr (ti k)]] [] (.ret (.tup [stA s', d.av, .tr (ti e)])) []
set_option maxRecDepth 100000 in
theorem z_stepW (s : Mst) (kd k : Int) (h1 : kd ≠ 1) (h2 : kd ≠ 2) : stpK s s kd k zeroD 182 := by
  obtain ⟨o, cores, mem, prints⟩ := s
  obtain ⟨memory, shared, locks, buffer, ocores⟩ := o
  refine Ctr.of hT hmix Tryz.func39 rfl (fun _ _ => by kernel_rfl) rfl fun hok => ?_
  clear hok
  conv => whnf
  (repeat' (refine csplit (fun g => ?_) (fun g => ?_) <;> conv => whnf))
  all_goals first
    | exact ⟨⟨⟨.inl rfl, .inl rfl, .inl rfl, .inl rfl, .inl rfl, .inl rfl, .inl rfl, .inl rfl, trivial⟩, ⟨.inl rfl, .inl rfl, .inl rfl, .inl rfl, .inl rfl, .inl rfl, .inl rfl, trivial⟩, .inl rfl, trivial⟩, trivial⟩
    | (exfalso; simp at *; omega)
set_option maxRecDepth 100000 in
theorem z_stepK (s : Mst) (kd k : Int) (h1 : kd = 1 ∨ kd = 2) (h2 : k < 0 ∨ (s.cores.length : Int) ≤ k) : stpK s s kd k zeroD 180 := by
  obtain ⟨o, cores, mem, prints⟩ := s
  obtain ⟨memory, shared, locks, buffer, ocores⟩ := o
  simp only at h2
  rw [← List.length_map Cst.row] at h2
  refine Ctr.of hT hmix Tryz.func39 rfl (fun _ _ => by kernel_rfl) rfl fun hok => ?_
  clear hok
  rcases h1 with rfl | rfl
  all_goals (
    conv => whnf
    refine csplit (fun g => ?_) (fun g => ?_)
    · conv => whnf
      exact ⟨⟨⟨.inl rfl, .inl rfl, .inl rfl, .inl rfl, .inl rfl, .inl rfl, .inl rfl, .inl rfl, trivial⟩, ⟨.inl rfl, .inl rfl, .inl rfl, .inl rfl, .inl rfl, .inl rfl, .inl rfl, trivial⟩, .inl rfl, trivial⟩, trivial⟩
    · conv => whnf
      refine csplit (fun g2 => ?_) (fun g2 => ?_)
      · conv => whnf
        exact ⟨⟨⟨.inl rfl, .inl rfl, .inl rfl, .inl rfl, .inl rfl, .inl rfl, .inl rfl, .inl rfl, trivial⟩, ⟨.inl rfl, .inl rfl, .inl rfl, .inl rfl, .inl rfl, .inl rfl, .inl rfl, trivial⟩, .inl rfl, trivial⟩, trivial⟩
      · exact absurd h2 (by have a : ¬ k < 0 := of_decide_eq_false g; have b : ¬ k ≥ ((cores.map Cst.row).length : Int) := of_decide_eq_false g2; omega))
set_option maxRecDepth 100000 in
theorem z_stepR (s s' : Mst) (k : Int) (d : Did) (e : Int) (h1 : 0 ≤ k) (h2 : k < (s.cores.length : Int)) (h : runK 71 s s' k d e) : stpK s s' 1 k d e := by
  obtain ⟨o, cores, mem, prints⟩ := s
  obtain ⟨memory, shared, locks, buffer, ocores⟩ := o
  simp only at h2
  rw [← List.length_map Cst.row] at h2
  refine Ctr.of hT hmix Tryz.func39 rfl (fun _ _ => by kernel_rfl) rfl fun hok => ?_
  clear hok
  conv => whnf
  refine csplit (fun g => absurd (of_decide_eq_true g) (by omega)) (fun _ => ?_)
  conv => whnf
  refine csplit (fun g => absurd (show k ≥ ((cores.map Cst.row).length : Int) from of_decide_eq_true g) (by omega)) (fun _ => ?_)
  conv => whnf
  refine acall.pure _ (h) rfl rfl fun _ => ?_
  conv => whnf
  exact ⟨⟨⟨.inl rfl, .inl rfl, .inl rfl, .inl rfl, .inl rfl, .inl rfl, .inl rfl, .inl rfl, trivial⟩, ⟨.inl rfl, .inl rfl, .inl rfl, .inl rfl, .inl rfl, .inl rfl, .inl rfl, trivial⟩, .inl rfl, trivial⟩, trivial⟩
set_option maxRecDepth 100000 in
theorem z_stepD (s s' : Mst) (k : Int) (d : Did) (e : Int) (h1 : 0 ≤ k) (h2 : k < (s.cores.length : Int)) (h : runK 72 s s' k d e) : stpK s s' 2 k d e := by
  obtain ⟨o, cores, mem, prints⟩ := s
  obtain ⟨memory, shared, locks, buffer, ocores⟩ := o
  simp only at h2
  rw [← List.length_map Cst.row] at h2
  refine Ctr.of hT hmix Tryz.func39 rfl (fun _ _ => by kernel_rfl) rfl fun hok => ?_
  clear hok
  conv => whnf
  refine csplit (fun g => absurd (of_decide_eq_true g) (by omega)) (fun _ => ?_)
  conv => whnf
  refine csplit (fun g => absurd (show k ≥ ((cores.map Cst.row).length : Int) from of_decide_eq_true g) (by omega)) (fun _ => ?_)
  conv => whnf
  refine acall.pure _ (h) rfl rfl fun _ => ?_
  conv => whnf
  exact ⟨⟨⟨.inl rfl, .inl rfl, .inl rfl, .inl rfl, .inl rfl, .inl rfl, .inl rfl, .inl rfl, trivial⟩, ⟨.inl rfl, .inl rfl, .inl rfl, .inl rfl, .inl rfl, .inl rfl, .inl rfl, trivial⟩, .inl rfl, trivial⟩, trivial⟩
theorem z_stp (s : Mst) (h : VInv s) (hp : s.prints.length ≤ 1048577) (kd k : Int) : stpK s (stepS s kd k).1 kd k (stepS s kd k).2.1 (stepS s kd k).2.2 := by
  unfold stepS
  split
  · rename_i hk
    exact z_stepW s kd k hk.1 hk.2
  rename_i hkd
  have hkd : kd = 1 ∨ kd = 2 := by omega
  split
  · rename_i hk
    exact z_stepK s kd k hkd hk
  rename_i hk
  obtain ⟨n, rfl⟩ := Int.eq_ofNat_of_zero_le (a := k) (by omega)
  rw [Int.toNat_natCast]
  have hn : n < s.cores.length := by omega
  obtain ⟨c, hc⟩ : ∃ c, s.cores[n]? = some c := ⟨_, List.getElem?_eq_getElem hn⟩
  obtain ⟨r, hr⟩ := h.cor hc
  obtain ⟨i, e, hi, hR⟩ := h.ins hc hr
  have hI := h.core n c r hc hr
  have h16 := hI.regs
  have h0 := hI.at0
  rw [hc]
  show stpK s (if kd = 1 then _ else _ : Mst × Did × Int).1 kd n (if kd = 1 then _ else _ : Mst × Did × Int).2.1 (if kd = 1 then _ else _ : Mst × Did × Int).2.2
  rcases hkd with rfl | rfl
  · rw [if_pos rfl]
    refine z_stepR s _ n _ _ (by omega) (by omega) ?_
    unfold runC
    split
    · rename_i hh
      exact z_runH s n hc h16 hh
    rename_i hh
    have hh : c.halted = false := by simpa using hh
    rw [e]
    show runK _ s (if _ then _ else _ : Mst × Did × Int).1 _ (if _ then _ else _ : Mst × Did × Int).2.1 (if _ then _ else _ : Mst × Did × Int).2.2
    split
    · rename_i hs
      exact z_runW s n hc h16 hr h0 hi hh hs
    · rename_i hs
      exact z_run s h hp n hc hr hi hh (by simpa using hs)
  · rw [if_neg (by decide)]
    refine z_stepD s _ n _ _ (by omega) (by omega) ?_
    unfold drainC
    split
    · rename_i hb
      exact z_drain0 s n hc h16 hb
    · rename_i x l hb
      exact z_drain s h (by omega) n hc hb
end Go.Proofs.YtioafhkkkmfkdaaGreatDoor.am

namespace Go.Proofs.YtioafhkkkmfkdaaGreatDoor.am
open Go Go.Proofs
theorem toList_data (s : ByteArray) : s.toList = s.data.toList := ByteArray.toList_eq s
abbrev insB (i : Ins) : Blk := .cells 115 [.tr (tu i.kind), .tr (tu i.op), .tr (ti i.d), .tr (ti i.a), .tr (ti i.b), .tr (ti i.addr), .tr (ti i.to_), .tr (ti i.word), .tr (ti i.from_)]
theorem ba_ext {a b : ByteArray} (h : a.data.toList = b.data.toList) : a = b := by
  obtain ⟨⟨a⟩⟩ := a
  obtain ⟨⟨b⟩⟩ := b
  have : a = b := h
  rw [this]
theorem seq_ba {a b : ByteArray} : seq a b = true ↔ a = b := by
  unfold seq
  rw [beq_iff_eq, toList_data, toList_data]
  exact ⟨ba_ext, fun h => by rw [h]⟩
theorem opword_low {op : Int} (h : op ≤ 0) : opword op = ⟨#[]⟩ := by
  unfold opword byK
  rw [show op.toNat = 0 by omega]; rfl
theorem z_digit (c : Int) : K 131 [.tr (tu c)] [] (.ret (.tr (tb (digB c)))) [] := by
  refine Ctr.of hT hmix Tryz.func131 rfl (fun _ _ => by kernel_rfl) rfl fun hok => ?_
  conv => whnf
  (repeat' (refine csplit (fun _ => ?_) (fun _ => ?_) <;> conv => whnf)) <;> refine ⟨Or.inl (congrArg tb ?_), trivial⟩ <;> (simp only [digB, *] <;> rfl)
theorem z_letter (c : Int) : K 133 [.tr (tu c)] [] (.ret (.tr (tb (letB c)))) [] := by
  refine Ctr.of hT hmix Tryz.func133 rfl (fun _ _ => by kernel_rfl) rfl fun hok => ?_
  conv => whnf
  (repeat' (refine csplit (fun _ => ?_) (fun _ => ?_) <;> conv => whnf)) <;> refine ⟨Or.inl (congrArg tb ?_), trivial⟩ <;> (simp only [letB, *] <;> rfl)
theorem z_word (s : ByteArray) : K 132 [.tr (ts s)] [] (.ret (.tr (tb (wordB s)))) [] := by
  refine Ctr.of hT hmix Tryz.func132 rfl (fun _ _ => by kernel_rfl) rfl fun hok => ?_
  conv => whnf
  (repeat' (refine csplit (fun _ => ?_) (fun _ => ?_) <;> conv => whnf)) <;> refine ⟨Or.inl (congrArg tb ?_), trivial⟩ <;> first | (simp only [wordB, seq, *] <;> rfl) | simp_all
theorem z_name (s : ByteArray) : K 100 [.tr (ts s)] [] (.ret (.tr (tb (nameB s)))) [] := by
  refine Ctr.of hT hmix Tryz.func100 rfl (fun _ _ => by kernel_rfl) rfl fun hok => ?_
  have hsz := (hok.slot 0 rfl).tr.str
  clear hok
  conv => whnf
  refine csplit (fun h1 => ?_) (fun h1 => ?_)
  · conv => whnf
    exact ⟨Or.inl (congrArg tb (by simp only [nameB, h1] <;> rfl)), trivial⟩
  conv => whnf
  refine csplit (fun h2 => ?_) (fun h2 => ?_)
  · conv => whnf
    exact ⟨Or.inl (congrArg tb (by simp only [nameB, h1, h2] <;> rfl)), trivial⟩
  have hs0 : 0 < s.size := by have := of_decide_eq_false h1; omega
  conv => whnf
  refine ⟨by omega, by omega, fun b hb => ?_⟩
  have hc0 : chI s 0 = b.toNat := by unfold chI; rw [show s[0]? = some b from hb]
  conv => whnf
  refine acall.pure _ (z_digit b.toNat) rfl rfl fun _ => ?_
  conv => whnf
  refine csplit (fun h3 => ?_) (fun h3 => ?_)
  · conv => whnf
    exact ⟨Or.inl (congrArg tb (by rw [← hc0] at h3; simp only [nameB, h1, h2, h3] <;> rfl)), trivial⟩
  rw [← hc0] at h3
  conv => whnf
  refine acall.pure _ (z_word s) rfl rfl fun _ => ?_
  conv => whnf
  refine csplit (fun h4 => ?_) (fun h4 => ?_)
  · conv => whnf
    exact ⟨Or.inl (congrArg tb (by simp only [nameB, h1, h2, h3, h4] <;> rfl)), trivial⟩
  conv => whnf
  have hE : nameB s = charsB s s.size := by simp only [nameB, h1, h2, h3, h4] <;> rfl
  refine LoopL.by (fun i : Nat => ⟨[(0, .tr (ts s)), (3, .tr (ti i))], [], 38⟩)
    (fun i => i ≤ s.size ∧ nameB s = charsB s (s.size - i)) (fun i => s.size - i) 0 [] [] (Sub.mk' rfl ⟨.inl rfl, .inl rfl, trivial⟩ trivial rfl rfl) ⟨Nat.zero_le _, hE⟩ ?_
  rintro i ⟨hi, hf⟩ -
  conv => whnf
  refine csplit (fun hlt => ?_) (fun hge => ?_)
  · have hlt : i < s.size := by simpa using hlt
    conv => whnf
    refine ⟨by omega, by omega, fun b hb => ?_⟩
    rw [charsB_at (show s[i]? = some b from hb) hlt] at hf
    conv => whnf
    refine acall.pure _ (z_letter b.toNat) rfl rfl fun _ => ?_
    conv => whnf
    refine csplit (fun h5 => ?_) (fun h5 => ?_)
    · conv => whnf
      refine ⟨by omega, by omega, fun b' hb' => ?_⟩
      have hbb : b' = b := Option.some.inj ((show s[i]? = some b' from hb').symm.trans hb)
      subst hbb
      conv => whnf
      refine acall.pure _ (z_digit b'.toNat) rfl rfl fun _ => ?_
      conv => whnf
      refine csplit (fun h6 => ?_) (fun h6 => ?_)
      · rw [h5, h6] at hf
        conv => whnf
        exact ⟨Or.inl (congrArg tb hf.symm), trivial⟩
      · rw [h5, h6] at hf
        conv => whnf
        exact ⟨i + 1, [], [], Sub.mk' rfl ⟨.inl rfl, .inl (ti_succ hlt hsz), trivial⟩ trivial rfl rfl, ⟨by omega, hf⟩, by omega⟩
    · rw [h5] at hf
      conv => whnf
      exact ⟨i + 1, [], [], Sub.mk' rfl ⟨.inl rfl, .inl (ti_succ hlt hsz), trivial⟩ trivial rfl rfl, ⟨by omega, hf⟩, by omega⟩
  · have hge : s.size ≤ i := by simpa using hge
    rw [show s.size - i = 0 by omega] at hf
    conv => whnf
    refine ⟨fun _ => ?_, fun h => absurd rfl h⟩
    conv => whnf
    exact ⟨Or.inl (congrArg tb hf.symm), trivial⟩
def useD (k : Int) : Bool := k == 1 || k == 2 || k == 3 || k == 5
def useA (k : Int) : Bool := k == 2 || k == 4 || k == 7 || k == 9
def useM (k : Int) : Bool := k == 3 || k == 5 || k == 4
def useT (k : Int) : Bool := k == 8 || k == 9
theorem z_uses (k : Int) : K 101 [.tr (tu k)] [] (.ret (.tup [.tr (tb (useD k)), .tr (tb (useA k)), .tr (tb (useM k)), .tr (tb (useT k))])) [] := by
  refine Ctr.of hT hmix Tryz.func101 rfl (fun _ _ => by kernel_rfl) rfl fun hok => ?_
  clear hok
  conv => whnf
  (repeat' (refine csplit (fun h => ?_) (fun h => ?_) <;> (try dsimp only at h) <;> conv => whnf))
  all_goals
    refine ⟨⟨.inl (congrArg tb ?_), .inl (congrArg tb ?_), .inl (congrArg tb ?_), .inl (congrArg tb ?_), trivial⟩, trivial⟩ <;> simp_all [useD, useA, useM, useT]
def regOk (n : Int) : Bool := decide (n ≥ 0) && decide (n < 16)
theorem z_reg (n : Int) : K 102 [.tr (ti n)] [] (.ret (.tr (tb (regOk n)))) [] := by
  refine Ctr.of hT hmix Tryz.func102 rfl (fun _ _ => by kernel_rfl) rfl fun hok => ?_
  clear hok
  conv => whnf
  (repeat' (refine csplit (fun h => ?_) (fun h => ?_) <;> conv => whnf)) <;> exact ⟨.inl (congrArg tb (by unfold regOk; simp only [*] <;> rfl)), trivial⟩
theorem z_two (op : Int) : K 96 [.tr (tu op)] [] (.ret (.tr (tb (two op)))) [] := k_rtwo op
/-- Right, as the reference asks it -/
def z0 (i : Ins) : Bool := decide (i.kind ≤ 0) || decide (i.kind ≥ 11) || decide (i.from_ < 0) || decide (i.from_ > 4096)
def z1 (i : Ins) : Bool := (i.kind == 2 && (decide (i.op ≤ 0) || decide (i.op ≥ 19))) || (i.kind != 2 && i.op != 0)
def z2 (i : Ins) (D A W : Bool) : Bool := (D && !regOk i.d) || (!D && i.d != 0) || (A && !regOk i.a) || (!A && i.a != 0) || (W && !regOk i.b) || (!W && i.b != 0)
def z3 (i : Ins) (mem : Int) (M : Bool) : Bool := (M && (decide (i.addr < 0) || decide (i.addr ≥ mem))) || (!M && i.addr != 0)
def z4 (i : Ins) (code : Int) (T : Bool) : Bool := (T && (decide (i.to_ < 0) || decide (i.to_ ≥ code))) || (!T && i.to_ != 0)
def rightZ (i : Ins) (code mem : Int) (D A M T W : Bool) : Bool :=
  bif z0 i then false else bif z1 i then false else bif z2 i D A W then false else bif z3 i mem M then false else bif z4 i code T then false else i.kind == 1 || i.word == 0
set_option maxRecDepth 100000 in
set_option maxHeartbeats 4000000 in
theorem z_right0 (i : Ins) (code mem : Int) : K 77 [i.av, .tr (ti code), .tr (ti mem)] [] (.ret (.tr (tb (rightZ i code mem (useD i.kind) (useA i.kind) (useM i.kind) (useT i.kind) (i.kind == 2 && two i.op))))) [] := by
  refine Ctr.cut [5, 1000007, 1000014, 1000017, 1000020] hT hmix Tryz.func77 rfl (fun _ _ => by kernel_rfl) rfl fun hok => ?_
  clear hok
  have hu := z_uses i.kind
  generalize useD i.kind = D at hu ⊢
  generalize useA i.kind = A at hu ⊢
  generalize useM i.kind = M at hu ⊢
  generalize useT i.kind = T at hu ⊢
  obtain ⟨W, hW⟩ : ∃ W, W = (i.kind == 2 && two i.op) := ⟨_, rfl⟩
  rw [← hW]
  obtain ⟨R, hR⟩ : ∃ R, R = rightZ i code mem D A M T W := ⟨_, rfl⟩
  rw [← hR]
  unfold rightZ at hR
  obtain ⟨X0, h0⟩ : ∃ X, X = z0 i := ⟨_, rfl⟩
  obtain ⟨X1, h1⟩ : ∃ X, X = z1 i := ⟨_, rfl⟩
  obtain ⟨X2, h2⟩ : ∃ X, X = z2 i D A W := ⟨_, rfl⟩
  obtain ⟨X3, h3⟩ : ∃ X, X = z3 i mem M := ⟨_, rfl⟩
  obtain ⟨X4, h4⟩ : ∃ X, X = z4 i code T := ⟨_, rfl⟩
  rw [← h0, ← h1, ← h2, ← h3, ← h4] at hR
  unfold z0 at h0
  unfold z1 at h1
  unfold z2 at h2
  unfold z3 at h3
  unfold z4 at h4
  obtain ⟨kind, op, d, a, b, addr, to_, word, from_⟩ := i
  simp only at hu hW hR h0 h1 h2 h3 h4
  conv => whnf
  iterate 4
    refine csplit (fun g => ?_) (fun g => ?_)
    · conv => whnf
      exact ⟨.inl (congrArg tb (by rw [hR, h0]; simp only [*, Bool.or_true, Bool.true_or, cond_true])), trivial⟩
    conv => whnf
  replace h0 : X0 = false := by rw [h0]; simp only [*, Bool.or_false]
  rw [h0] at hR
  refine acall.pure _ (hu) rfl rfl fun _ => ?_
  conv => whnf
  refine CutL.by (fun _ : Unit => ⟨[(1, .tr (ti code)), (2, .tr (ti mem)), (3, .ptr 0 0), (7, .tr (tb D)), (8, .tr (tb A)), (9, .tr (tb M)), (10, .tr (tb T)), (11, .tr (tb W))], [(0, insB ⟨kind, op, d, a, b, addr, to_, word, from_⟩)], 300⟩) (fun _ => True) ?_ ?_
  · clear h0 h1 h2 h3 h4 hR
    conv => whnf
    refine csplit (fun g1 => ?_) (fun g1 => ?_)
    · conv => whnf
      refine acall.pure _ (z_two op) rfl rfl fun _ => ?_
      conv => whnf
      exact ⟨(), [0], [], Sub.mk' rfl ⟨.inl rfl, .inl rfl, ⟨rfl, rfl⟩, .inl rfl, .inl rfl, .inl rfl, .inl rfl, .inl (congrArg tb (by rw [hW]; simp only [g1, Bool.true_and])), trivial⟩ aut rfl rfl, trivial⟩
    · conv => whnf
      exact ⟨(), [0], [], Sub.mk' rfl ⟨.inl rfl, .inl rfl, ⟨rfl, rfl⟩, .inl rfl, .inl rfl, .inl rfl, .inl rfl, .inl (congrArg tb (by rw [hW]; simp only [g1, Bool.false_and])), trivial⟩ aut rfl rfl, trivial⟩
  rintro - - -
  clear h0 hu hW
  conv => whnf
  refine CutL.by (fun _ : Unit => ⟨[(1, .tr (ti code)), (2, .tr (ti mem)), (3, .ptr 0 0), (7, .tr (tb D)), (8, .tr (tb A)), (9, .tr (tb M)), (10, .tr (tb T)), (11, .tr (tb W)), (46, .tr (tb X1))], [(0, insB ⟨kind, op, d, a, b, addr, to_, word, from_⟩)], 300⟩) (fun _ => True) ?_ ?_
  · clear h2 h3 h4 hR
    conv => whnf
    (repeat' (refine csplit (fun g => ?_) (fun g => ?_) <;> conv => whnf))
    all_goals exact ⟨(), [0], [], Sub.mk' rfl ⟨.inl rfl, .inl rfl, ⟨rfl, rfl⟩, .inl rfl, .inl rfl, .inl rfl, .inl rfl, .inl rfl, .inl (congrArg tb (by rw [h1]; clear h1; (try simp only [bne, Bool.not_eq_true', Bool.not_eq_false'] at *); first | (simp only [*, Bool.and_true, Bool.true_and, Bool.and_false, Bool.false_and, Bool.or_true, Bool.true_or, Bool.or_false, Bool.false_or, Bool.not_true, Bool.not_false]; done) | (simp_all; done))), trivial⟩ aut rfl rfl, trivial⟩
  rintro - - -
  clear h1
  cases X1
  · replace hR : R = bif X2 then false else bif X3 then false else bif X4 then false else kind == 1 || word == 0 := hR
    conv => whnf
    refine CutL.by (fun _ : Unit => ⟨[(1, .tr (ti code)), (2, .tr (ti mem)), (3, .ptr 0 0), (7, .tr (tb D)), (8, .tr (tb A)), (9, .tr (tb M)), (10, .tr (tb T)), (11, .tr (tb W)), (68, .tr (tb X2))], [(0, insB ⟨kind, op, d, a, b, addr, to_, word, from_⟩)], 300⟩) (fun _ => True) ?_ ?_
    · clear h3 h4 hR
      conv => whnf
      (repeat' (first | (refine csplit (fun g => ?_) (fun g => ?_) <;> conv => whnf) | (refine acall.pure _ (z_reg d) rfl rfl fun _ => ?_; conv => whnf) | (refine acall.pure _ (z_reg a) rfl rfl fun _ => ?_; conv => whnf) | (refine acall.pure _ (z_reg b) rfl rfl fun _ => ?_; conv => whnf)))
      all_goals exact ⟨(), [0], [], Sub.mk' rfl ⟨.inl rfl, .inl rfl, ⟨rfl, rfl⟩, .inl rfl, .inl rfl, .inl rfl, .inl rfl, .inl rfl, .inl (congrArg tb (by rw [h2]; clear h2; (try simp only [bne, Bool.not_eq_true', Bool.not_eq_false'] at *); first | (simp only [*, Bool.and_true, Bool.true_and, Bool.and_false, Bool.false_and, Bool.or_true, Bool.true_or, Bool.or_false, Bool.false_or, Bool.not_true, Bool.not_false]; done) | (simp_all; done))), trivial⟩ aut rfl rfl, trivial⟩
    rintro - - -
    clear h2
    cases X2
    · replace hR : R = bif X3 then false else bif X4 then false else kind == 1 || word == 0 := hR
      conv => whnf
      refine CutL.by (fun _ : Unit => ⟨[(1, .tr (ti code)), (2, .tr (ti mem)), (3, .ptr 0 0), (7, .tr (tb D)), (8, .tr (tb A)), (9, .tr (tb M)), (10, .tr (tb T)), (11, .tr (tb W)), (111, .tr (tb X3))], [(0, insB ⟨kind, op, d, a, b, addr, to_, word, from_⟩)], 300⟩) (fun _ => True) ?_ ?_
      · clear h4 hR
        conv => whnf
        (repeat' (refine csplit (fun g => ?_) (fun g => ?_) <;> conv => whnf))
        all_goals exact ⟨(), [0], [], Sub.mk' rfl ⟨.inl rfl, .inl rfl, ⟨rfl, rfl⟩, .inl rfl, .inl rfl, .inl rfl, .inl rfl, .inl rfl, .inl (congrArg tb (by rw [h3]; clear h3; (try simp only [bne, Bool.not_eq_true', Bool.not_eq_false'] at *); first | (simp only [*, Bool.and_true, Bool.true_and, Bool.and_false, Bool.false_and, Bool.or_true, Bool.true_or, Bool.or_false, Bool.false_or, Bool.not_true, Bool.not_false]; done) | (simp_all; done))), trivial⟩ aut rfl rfl, trivial⟩
      rintro - - -
      clear h3
      cases X3
      · replace hR : R = bif X4 then false else kind == 1 || word == 0 := hR
        conv => whnf
        refine CutL.by (fun _ : Unit => ⟨[(1, .tr (ti code)), (2, .tr (ti mem)), (3, .ptr 0 0), (7, .tr (tb D)), (8, .tr (tb A)), (9, .tr (tb M)), (10, .tr (tb T)), (11, .tr (tb W)), (131, .tr (tb X4))], [(0, insB ⟨kind, op, d, a, b, addr, to_, word, from_⟩)], 300⟩) (fun _ => True) ?_ ?_
        · clear hR
          conv => whnf
          (repeat' (refine csplit (fun g => ?_) (fun g => ?_) <;> conv => whnf))
          all_goals exact ⟨(), [0], [], Sub.mk' rfl ⟨.inl rfl, .inl rfl, ⟨rfl, rfl⟩, .inl rfl, .inl rfl, .inl rfl, .inl rfl, .inl rfl, .inl (congrArg tb (by rw [h4]; clear h4; (try simp only [bne, Bool.not_eq_true', Bool.not_eq_false'] at *); first | (simp only [*, Bool.and_true, Bool.true_and, Bool.and_false, Bool.false_and, Bool.or_true, Bool.true_or, Bool.or_false, Bool.false_or, Bool.not_true, Bool.not_false]; done) | (simp_all; done))), trivial⟩ aut rfl rfl, trivial⟩
        rintro - - -
        clear h4
        cases X4
        · replace hR : R = (kind == 1 || word == 0) := hR
          conv => whnf
          refine csplit (fun g => ?_) (fun g => ?_)
          · conv => whnf
            exact ⟨.inl (congrArg tb (by rw [hR, g]; rfl)), trivial⟩
          · conv => whnf
            exact ⟨.inl (congrArg tb (by rw [hR, g]; rfl)), trivial⟩
        · conv => whnf
          exact ⟨.inl (congrArg tb (by rw [hR]; rfl)), trivial⟩
      · conv => whnf
        exact ⟨.inl (congrArg tb (by rw [hR]; rfl)), trivial⟩
    · conv => whnf
      exact ⟨.inl (congrArg tb (by rw [hR]; rfl)), trivial⟩
  · conv => whnf
    exact ⟨.inl (congrArg tb (by rw [hR]; rfl)), trivial⟩


theorem b66_1 : band 66 1 = 0 := by decide
theorem b66_2 : band 66 2 = 2 := by decide
theorem b66_4 : band 66 4 = 0 := by decide
theorem b66_8 : band 66 8 = 0 := by decide
theorem b66_16 : band 66 16 = 0 := by decide
theorem b66_32 : band 66 32 = 0 := by decide
theorem b66_64 : band 66 64 = 64 := by decide
theorem b15_1 : band 15 1 = 1 := by decide
theorem b15_2 : band 15 2 = 2 := by decide
theorem b15_4 : band 15 4 = 4 := by decide
theorem b15_8 : band 15 8 = 8 := by decide
theorem b15_16 : band 15 16 = 0 := by decide
theorem b15_32 : band 15 32 = 0 := by decide
theorem b15_64 : band 15 64 = 0 := by decide
theorem b7_1 : band 7 1 = 1 := by decide
theorem b7_2 : band 7 2 = 2 := by decide
theorem b7_4 : band 7 4 = 4 := by decide
theorem b7_8 : band 7 8 = 0 := by decide
theorem b7_16 : band 7 16 = 0 := by decide
theorem b7_32 : band 7 32 = 0 := by decide
theorem b7_64 : band 7 64 = 0 := by decide
theorem b18_1 : band 18 1 = 0 := by decide
theorem b18_2 : band 18 2 = 2 := by decide
theorem b18_4 : band 18 4 = 0 := by decide
theorem b18_8 : band 18 8 = 0 := by decide
theorem b18_16 : band 18 16 = 16 := by decide
theorem b18_32 : band 18 32 = 0 := by decide
theorem b18_64 : band 18 64 = 0 := by decide
theorem b20_1 : band 20 1 = 0 := by decide
theorem b20_2 : band 20 2 = 0 := by decide
theorem b20_4 : band 20 4 = 4 := by decide
theorem b20_8 : band 20 8 = 0 := by decide
theorem b20_16 : band 20 16 = 16 := by decide
theorem b20_32 : band 20 32 = 0 := by decide
theorem b20_64 : band 20 64 = 0 := by decide
theorem b0_1 : band 0 1 = 0 := by decide
theorem b0_2 : band 0 2 = 0 := by decide
theorem b0_4 : band 0 4 = 0 := by decide
theorem b0_8 : band 0 8 = 0 := by decide
theorem b0_16 : band 0 16 = 0 := by decide
theorem b0_32 : band 0 32 = 0 := by decide
theorem b0_64 : band 0 64 = 0 := by decide
theorem b4_1 : band 4 1 = 0 := by decide
theorem b4_2 : band 4 2 = 0 := by decide
theorem b4_4 : band 4 4 = 4 := by decide
theorem b4_8 : band 4 8 = 0 := by decide
theorem b4_16 : band 4 16 = 0 := by decide
theorem b4_32 : band 4 32 = 0 := by decide
theorem b4_64 : band 4 64 = 0 := by decide
theorem b32_1 : band 32 1 = 0 := by decide
theorem b32_2 : band 32 2 = 0 := by decide
theorem b32_4 : band 32 4 = 0 := by decide
theorem b32_8 : band 32 8 = 0 := by decide
theorem b32_16 : band 32 16 = 0 := by decide
theorem b32_32 : band 32 32 = 32 := by decide
theorem b32_64 : band 32 64 = 0 := by decide
theorem b36_1 : band 36 1 = 0 := by decide
theorem b36_2 : band 36 2 = 0 := by decide
theorem b36_4 : band 36 4 = 4 := by decide
theorem b36_8 : band 36 8 = 0 := by decide
theorem b36_16 : band 36 16 = 0 := by decide
theorem b36_32 : band 36 32 = 32 := by decide
theorem b36_64 : band 36 64 = 0 := by decide
theorem opw_empty (op : Int) : seq (opword op) ⟨#[]⟩ = (decide (op ≤ 0) || decide (op ≥ 19)) := by
  by_cases h : op ≤ 0
  · rw [opword_low h, decide_eq_true h, Bool.true_or]
    exact seq_ba.2 rfl
  by_cases h2 : op ≥ 19
  · rw [opword_big h2, decide_eq_true h2, Bool.or_true]
    exact seq_ba.2 rfl
  rw [decide_eq_false h, decide_eq_false h2]
  have hc : op = 1 ∨ op = 2 ∨ op = 3 ∨ op = 4 ∨ op = 5 ∨ op = 6 ∨ op = 7 ∨ op = 8 ∨ op = 9 ∨ op = 10 ∨ op = 11 ∨ op = 12 ∨ op = 13 ∨ op = 14 ∨ op = 15 ∨ op = 16 ∨ op = 17 ∨ op = 18 := by omega
  rcases hc with rfl | rfl | rfl | rfl | rfl | rfl | rfl | rfl | rfl | rfl | rfl | rfl | rfl | rfl | rfl | rfl | rfl | rfl <;> exact Bool.eq_false_iff.2 fun h => absurd (seq_ba.1 h) (by decide)
theorem cond_ff (c e : Bool) : (bif c then false else e) = (!c && e) := by cases c <;> rfl
def rightZ' (i : Ins) (code mem : Int) : Bool := rightZ i code mem (useD i.kind) (useA i.kind) (useM i.kind) (useT i.kind) (i.kind == 2 && two i.op)
theorem rightZ_eq (i : Ins) (code mem : Int) : rightZ' i code mem = rightB i code mem := by
  obtain ⟨kind, op, d, a, b, addr, to_, word, from_⟩ := i
  by_cases hk : 1 ≤ kind ∧ kind < 11
  · have hkok : kok kind = true := by unfold kok; simp [hk.1, hk.2]
    have h0 : decide (kind ≤ 0) = false := decide_eq_false (by omega)
    have h11 : decide (kind ≥ 11) = false := decide_eq_false (by omega)
    unfold rightZ' rightZ rightB
    simp only [hkok, h0, h11, Bool.not_true, Bool.false_or]
    clear hkok h0 h11
    have hc : kind = 1 ∨ kind = 2 ∨ kind = 3 ∨ kind = 4 ∨ kind = 5 ∨ kind = 6 ∨ kind = 7 ∨ kind = 8 ∨ kind = 9 ∨ kind = 10 := by omega
    rcases hc with rfl | rfl | rfl | rfl | rfl | rfl | rfl | rfl | rfl | rfl
    case inr.inl =>
      cases ht : two op
      · simp only [show usedM 2 op = 7 by unfold usedM; rw [ht]; rfl, show useD 2 = true from rfl, show useA 2 = true from rfl, show useM 2 = false from rfl, show useT 2 = false from rfl, z0, z1, z2, z3, z4, opB, withinB, regOk, opw_empty, b66_1, b66_2, b66_4, b66_8, b66_16, b66_32, b66_64, b15_1, b15_2, b15_4, b15_8, b15_16, b15_32, b15_64, b7_1, b7_2, b7_4, b7_8, b7_16, b7_32, b7_64, b18_1, b18_2, b18_4, b18_8, b18_16, b18_32, b18_64, b20_1, b20_2, b20_4, b20_8, b20_16, b20_32, b20_64, b0_1, b0_2, b0_4, b0_8, b0_16, b0_32, b0_64, b4_1, b4_2, b4_4, b4_8, b4_16, b4_32, b4_64, b32_1, b32_2, b32_4, b32_8, b32_16, b32_32, b32_64, b36_1, b36_2, b36_4, b36_8, b36_16, b36_32, b36_64, cond_ff]
        rw [Bool.eq_iff_iff]
        simp
        omega
      · simp only [show usedM 2 op = 15 by unfold usedM; rw [ht]; rfl, show useD 2 = true from rfl, show useA 2 = true from rfl, show useM 2 = false from rfl, show useT 2 = false from rfl, z0, z1, z2, z3, z4, opB, withinB, regOk, opw_empty, b66_1, b66_2, b66_4, b66_8, b66_16, b66_32, b66_64, b15_1, b15_2, b15_4, b15_8, b15_16, b15_32, b15_64, b7_1, b7_2, b7_4, b7_8, b7_16, b7_32, b7_64, b18_1, b18_2, b18_4, b18_8, b18_16, b18_32, b18_64, b20_1, b20_2, b20_4, b20_8, b20_16, b20_32, b20_64, b0_1, b0_2, b0_4, b0_8, b0_16, b0_32, b0_64, b4_1, b4_2, b4_4, b4_8, b4_16, b4_32, b4_64, b32_1, b32_2, b32_4, b32_8, b32_16, b32_32, b32_64, b36_1, b36_2, b36_4, b36_8, b36_16, b36_32, b36_64, cond_ff]
        rw [Bool.eq_iff_iff]
        simp
        omega
    all_goals
      simp only [show ∀ op, usedM 1 op = 66 from fun _ => rfl, show ∀ op, usedM 3 op = 18 from fun _ => rfl, show ∀ op, usedM 4 op = 20 from fun _ => rfl, show ∀ op, usedM 5 op = 18 from fun _ => rfl, show ∀ op, usedM 6 op = 0 from fun _ => rfl, show ∀ op, usedM 7 op = 4 from fun _ => rfl, show ∀ op, usedM 8 op = 32 from fun _ => rfl, show ∀ op, usedM 9 op = 36 from fun _ => rfl, show ∀ op, usedM 10 op = 0 from fun _ => rfl, z0, z1, z2, z3, z4, opB, withinB, regOk, opw_empty, b66_1, b66_2, b66_4, b66_8, b66_16, b66_32, b66_64, b15_1, b15_2, b15_4, b15_8, b15_16, b15_32, b15_64, b7_1, b7_2, b7_4, b7_8, b7_16, b7_32, b7_64, b18_1, b18_2, b18_4, b18_8, b18_16, b18_32, b18_64, b20_1, b20_2, b20_4, b20_8, b20_16, b20_32, b20_64, b0_1, b0_2, b0_4, b0_8, b0_16, b0_32, b0_64, b4_1, b4_2, b4_4, b4_8, b4_16, b4_32, b4_64, b32_1, b32_2, b32_4, b32_8, b32_16, b32_32, b32_64, b36_1, b36_2, b36_4, b36_8, b36_16, b36_32, b36_64, cond_ff, useD, useA, useM, useT]
      rw [Bool.eq_iff_iff]
      simp
      try omega
  · have e : rightB ⟨kind, op, d, a, b, addr, to_, word, from_⟩ code mem = false := by
      cases h : rightB ⟨kind, op, d, a, b, addr, to_, word, from_⟩ code mem
      · rfl
      · exact absurd (right_kind h) hk
    rw [e]
    have : z0 ⟨kind, op, d, a, b, addr, to_, word, from_⟩ = true := by
      unfold z0
      simp
      omega
    unfold rightZ' rightZ
    rw [this]
    rfl


theorem z_right (i : Ins) (code mem : Int) : K 77 [i.av, .tr (ti code), .tr (ti mem)] [] (.ret (.tr (tb (rightB i code mem)))) [] := by
  rw [← rightZ_eq]
  exact z_right0 i code mem
theorem hasN_any (n : ByteArray) : ∀ (l : List Cor) (k : Nat), decide (idxN n l k ≥ 0) = l.any fun d => seq d.name n
  | [], _ => rfl
  | d :: l, k => by
    rw [List.any_cons, ← hasN_any n l (k + 1), show idxN n (d :: l) k = (bif seq d.name n then (k : Int) else idxN n l (k + 1)) from rfl]
    cases seq d.name n
    · rfl
    · simp
theorem hasN_snoc (n : ByteArray) (l : List Cor) (d : Cor) : hasN n (l ++ [d]) = (hasN n l || seq d.name n) := by
  unfold hasN
  rw [hasN_any, hasN_any, List.any_append]; simp
set_option maxRecDepth 100000 in
set_option maxHeartbeats 2000000 in
theorem z_shaped (o : Ob) : K 76 [o.av] [] (.ret (.tr (tb (shapedB o)))) [] := by
  refine Ctr.cut [12] hT hmix Tryz.func76 rfl (fun _ _ => by kernel_rfl) rfl fun hok => ?_
  obtain ⟨memory, shared, locks, buffer, cores⟩ := o
  obtain ⟨_, hl, hcs⟩ := ((hok.slot 0 rfl).agg _ (.tail _ (.tail _ (.tail _ (.tail _ (.head _)))))).tr.lst
  obtain ⟨_, hml, _⟩ := ((hok.slot 0 rfl).agg _ (.head _)).tr.lst
  rw [List.length_map] at hl hml
  clear hok
  have hS : shapedB ⟨memory, shared, locks, buffer, cores⟩ = bif headBad ⟨memory, shared, locks, buffer, cores⟩ then false else coresOk [] cores := rfl
  generalize hB : shapedB ⟨memory, shared, locks, buffer, cores⟩ = B at hS ⊢
  clear hB
  have hH : headBad ⟨memory, shared, locks, buffer, cores⟩ = (decide (shared < 0) || decide (shared > 64) || decide (locks < 0) || decide (locks > 16) || decide ((memory.length : Int) < IntKind.i64.wrap (shared + locks)) || decide ((memory.length : Int) > 4096) ||
    decide (buffer < 1) || decide (buffer > 16) || decide ((cores.length : Int) > 8)) := rfl
  rw [hH] at hS
  clear hH
  have em : (memory.length : Int) = ((memory.map irow).length : Int) := by rw [List.length_map]
  have ec : (cores.length : Int) = ((cores.map Cor.cells).length : Int) := by rw [List.length_map]
  rw [em, ec] at hS
  conv => whnf
  iterate 9
    refine csplit (fun h1 => ?_) (fun h1 => ?_)
    · conv => whnf
      exact ⟨.inl (congrArg tb (by rw [hS]; simp only [*, Bool.or_true, Bool.true_or, cond_true])), trivial⟩
    conv => whnf
  replace hS : B = coresOk [] cores := by rw [hS]; simp only [*, Bool.or_false, cond_false]
  rw [hS]
  clear hS em ec
  replace hl : cores.length ≤ 9223372036854775807 := hl
  refine LoopL.by (fun i : Nat => ⟨[(1, .ptr 0 0), (3, .tr (ti i))], [(0, .cells 25 [.tr (intsT memory), .tr (ti shared), .tr (ti locks), .tr (ti buffer), .tr (coresT cores)])], 200⟩)
    (fun i => i ≤ cores.length ∧ coresOk [] cores = coresOk (cores.take i) (cores.drop i)) (fun i => cores.length - i) 0 [0] [] (Sub.mk' rfl ⟨⟨rfl, rfl⟩, .inl rfl, trivial⟩ ⟨⟨rfl, .inl rfl, .inl rfl, .inl rfl, .inl rfl, .inl rfl, trivial⟩, trivial⟩ rfl rfl) ⟨Nat.zero_le _, rfl⟩ ?_
  rintro i ⟨hi, hf⟩ -
  conv => whnf
  refine csplit (fun hlt => ?_) (fun hge => ?_)
  · have hlt : i < cores.length := by have := of_decide_eq_true hlt; rw [List.length_map] at this; replace this : (i : Int) < cores.length := this; omega
    clear hml
    obtain ⟨c, hd⟩ : ∃ c, cores[i]? = some c := ⟨cores[i], by simp [hlt]⟩
    have hrow : (cores.map Cor.cells)[i]? = some c.cells := by rw [List.getElem?_map, hd]; rfl
    rw [coresOk_at hd] at hf
    obtain ⟨_, hcl0, hci⟩ := ((hcs _ (List.mem_of_getElem? hrow)).2 (codeT c.code) (.tail _ (.head _))).lst
    rw [List.length_map] at hcl0
    obtain ⟨cn, cc⟩ := c
    have hcl : cc.length ≤ 9223372036854775807 := hcl0
    have hB : coreBad (cores.take i) ⟨cn, cc⟩ = (!nameB cn || hasN cn (cores.take i) || decide ((cc.length : Int) < 1) || decide ((cc.length : Int) > 16384)) := rfl
    clear hcl0
    conv => whnf
    refine ⟨rfl, by omega, (show (i : Int) < ((cores.map Cor.cells).length : Int) by rw [List.length_map]; omega), fun row hr => ?_⟩
    cases hrow.symm.trans hr
    conv => whnf
    refine acall.pure _ (z_name cn) rfl rfl fun _ => ?_
    conv => whnf
    refine CutL.by (fun _ : Unit => ⟨[(1, .ptr 0 0), (3, .tr (ti i)), (4, .ptr 1 0), (5, .tr (tb (nameB cn && !hasN cn (cores.take i))))], [(0, .cells 25 [.tr (intsT memory), .tr (ti shared), .tr (ti locks), .tr (ti buffer), .tr (coresT cores)]), (1, .cells 110 [.tr (ts cn), .tr (codeT cc)])], 200⟩) (fun _ => True) ?_ ?_
    · conv => whnf
      refine LoopL.by (fun x : Nat × Bool => ⟨[(1, .ptr 0 0), (3, .tr (ti i)), (4, .ptr 1 0), (5, .tr (tb x.2)), (6, .tr (ti x.1))], [(0, .cells 25 [.tr (intsT memory), .tr (ti shared), .tr (ti locks), .tr (ti buffer), .tr (coresT cores)]), (1, .cells 110 [.tr (ts cn), .tr (codeT cc)])], 200⟩)
        (fun x => x.1 ≤ i ∧ x.2 = (nameB cn && !hasN cn (cores.take x.1))) (fun x => i - x.1) (0, nameB cn) [0, 210] [] (Sub.mk' rfl ⟨⟨rfl, rfl⟩, .inl rfl, ⟨rfl, rfl⟩, .inl rfl, .inl rfl, trivial⟩ ⟨⟨rfl, .inl rfl, .inl rfl, .inl rfl, .inl rfl, .inl rfl, trivial⟩, ⟨rfl, .inl rfl, .inl rfl, trivial⟩, trivial⟩ rfl rfl) ⟨Nat.zero_le _, by simp [hasN, idxN]⟩ ?_
      rintro ⟨k, ok⟩ ⟨hk, hok⟩ -
      simp only at hk hok
      conv => whnf
      refine csplit (fun hk1 => ?_) (fun hk2 => ?_)
      · replace hk1 : decide ((k : Int) < (i : Int)) = true := hk1
        have hk1 : k < i := by have := of_decide_eq_true hk1; omega
        have hil : i ≤ 9223372036854775807 := by omega
        obtain ⟨e, he⟩ : ∃ e, cores[k]? = some e := ⟨cores[k]'(by omega), by simp⟩
        have hrowk : (cores.map Cor.cells)[k]? = some e.cells := by rw [List.getElem?_map, he]; rfl
        have hsn : hasN cn (cores.take (k + 1)) = (hasN cn (cores.take k) || seq e.name cn) := by rw [take_snoc he, hasN_snoc]
        obtain ⟨en, ec⟩ := e
        simp only at hsn
        cases ok
        · conv => whnf
          refine ⟨by kernel_rfl, fun _ => ?_⟩
          conv => whnf
          refine ⟨(k + 1, false), [0, 1], [], Sub.mk' rfl ⟨⟨rfl, rfl⟩, .inl rfl, ⟨rfl, rfl⟩, .inl rfl, .inl (ti_succ hk1 hil), trivial⟩ ⟨⟨rfl, .inl rfl, .inl rfl, .inl rfl, .inl rfl, .inl rfl, trivial⟩, ⟨rfl, .inl rfl, .inl rfl, trivial⟩, trivial⟩ rfl rfl, ⟨hk1, ?_⟩, by simp only; omega⟩
          simp only [hsn]
          revert hok
          cases nameB cn <;> cases hasN cn (cores.take k) <;> simp
        · conv => whnf
          refine ⟨rfl, (show (0 : Int) ≤ k by omega), (show (k : Int) < ((cores.map Cor.cells).length : Int) by rw [List.length_map]; omega), fun row hr => ?_⟩
          cases hrowk.symm.trans hr
          conv => whnf
          refine ⟨by kernel_rfl, fun _ => ?_⟩
          conv => whnf
          refine ⟨(k + 1, !seq en cn), [0, 1], [], Sub.mk' rfl ⟨⟨rfl, rfl⟩, .inl rfl, ⟨rfl, rfl⟩, .inl rfl, .inl (ti_succ hk1 hil), trivial⟩ ⟨⟨rfl, .inl rfl, .inl rfl, .inl rfl, .inl rfl, .inl rfl, trivial⟩, ⟨rfl, .inl rfl, .inl rfl, trivial⟩, trivial⟩ rfl rfl, ⟨hk1, ?_⟩, by simp only; omega⟩
          simp only [hsn]
          revert hok
          cases nameB cn <;> cases hasN cn (cores.take k) <;> simp
      · replace hk2 : decide ((k : Int) < (i : Int)) = false := hk2
        have hk2 : k = i := by have := of_decide_eq_false hk2; omega
        subst hk2
        conv => whnf
        refine ⟨fun _ => ?_, fun h => absurd rfl h⟩
        conv => whnf
        exact ⟨(), [0, 1], [], Sub.mk' rfl ⟨⟨rfl, rfl⟩, .inl rfl, ⟨rfl, rfl⟩, .inl (congrArg tb hok), trivial⟩ ⟨⟨rfl, .inl rfl, .inl rfl, .inl rfl, .inl rfl, .inl rfl, trivial⟩, ⟨rfl, .inl rfl, .inl rfl, trivial⟩, trivial⟩ rfl rfl, trivial⟩
    · rintro - - -
      generalize hG : (nameB cn && !hasN cn (cores.take i)) = G
      have hBG : coreBad (cores.take i) ⟨cn, cc⟩ = (!G || decide ((cc.length : Int) < 1) || decide ((cc.length : Int) > 16384)) := by rw [hB, ← hG]; cases nameB cn <;> simp
      clear hB
      have el : ((cc.map Ins.cells).length : Int) = cc.length := by rw [List.length_map]
      have bad : ∀ {x : Bool}, coreBad (cores.take i) ⟨cn, cc⟩ = true → x = false → x = coresOk [] cores := fun h1 h2 => by rw [hf, h1, h2]; rfl
      cases G
      · conv => whnf
        exact ⟨.inl (congrArg tb (bad (by rw [hBG]; rfl) rfl)), trivial⟩
      conv => whnf
      refine csplit (fun h3 => ?_) (fun h3 => ?_)
      · replace h3 : decide (((cc.map Ins.cells).length : Int) < 1) = true := h3
        rw [el] at h3
        conv => whnf
        exact ⟨.inl (congrArg tb (bad (by rw [hBG, h3]; rfl) rfl)), trivial⟩
      replace h3 : decide (((cc.map Ins.cells).length : Int) < 1) = false := h3
      rw [el] at h3
      conv => whnf
      refine csplit (fun h4 => ?_) (fun h4 => ?_)
      · replace h4 : decide (((cc.map Ins.cells).length : Int) > 16384) = true := h4
        rw [el] at h4
        conv => whnf
        exact ⟨.inl (congrArg tb (bad (by rw [hBG, h3, h4]; rfl) rfl)), trivial⟩
      replace h4 : decide (((cc.map Ins.cells).length : Int) > 16384) = false := h4
      rw [el] at h4
      rw [h3, h4] at hBG
      replace hBG : coreBad (cores.take i) ⟨cn, cc⟩ = false := hBG
      rw [hBG, Bool.false_or] at hf
      have h3' : ¬ ((cc.length : Int) < 1) := of_decide_eq_false h3
      have ew : IntKind.i64.wrap (((cc.map Ins.cells).length : Int) - 1) = ((cc.length - 1 : Nat) : Int) := by rw [List.length_map, w64 (by omega) (by omega)]; omega
      have hn1 : cc.length - 1 < cc.length := by omega
      obtain ⟨x, hx⟩ : ∃ x, cc[cc.length - 1]? = some x := ⟨cc[cc.length - 1], by simp [hn1]⟩
      have hrowx : (cc.map Ins.cells)[cc.length - 1]? = some x.cells := by rw [List.getElem?_map, hx]; rfl
      have hL : lastBad ⟨cn, cc⟩ = (x.kind != 10 && x.kind != 8) := by unfold lastBad; simp only [hx]
      rw [hL] at hf
      conv => whnf
      rw [ew]
      refine ⟨rfl, by omega, (show ((cc.length - 1 : Nat) : Int) < ((cc.map Ins.cells).length : Int) by rw [el]; omega), fun row hr => ?_⟩
      cases hrowx.symm.trans hr
      conv => whnf
      refine csplit (fun h5 => ?_) (fun h5 => ?_)
      · replace h5 : (x.kind != 10) = true := h5
        conv => whnf
        rw [ew]
        refine ⟨rfl, by omega, (show ((cc.length - 1 : Nat) : Int) < ((cc.map Ins.cells).length : Int) by rw [el]; omega), fun row hr => ?_⟩
        cases hrowx.symm.trans hr
        conv => whnf
        refine csplit (fun h6 => ?_) (fun h6 => ?_)
        · replace h6 : (x.kind != 8) = true := h6
          rw [h5, h6] at hf
          conv => whnf
          exact ⟨.inl (congrArg tb hf.symm), trivial⟩
        · replace h6 : (x.kind != 8) = false := h6
          rw [h5, h6] at hf
          conv => whnf
          exact ⟨i + 1, [0], [], Sub.mk' rfl ⟨⟨rfl, rfl⟩, .inl (ti_succ hlt hl), trivial⟩ ⟨⟨rfl, .inl rfl, .inl rfl, .inl rfl, .inl rfl, .inl rfl, trivial⟩, trivial⟩ rfl rfl, ⟨by omega, hf⟩, by omega⟩
      · replace h5 : (x.kind != 10) = false := h5
        rw [h5] at hf
        conv => whnf
        exact ⟨i + 1, [0], [], Sub.mk' rfl ⟨⟨rfl, rfl⟩, .inl (ti_succ hlt hl), trivial⟩ ⟨⟨rfl, .inl rfl, .inl rfl, .inl rfl, .inl rfl, .inl rfl, trivial⟩, trivial⟩ rfl rfl, ⟨by omega, hf⟩, by omega⟩
  · have hge : cores.length ≤ i := by have := of_decide_eq_false hge; rw [List.length_map] at this; replace this : ¬ (i : Int) < cores.length := this; omega
    rw [List.drop_eq_nil_of_le hge] at hf
    conv => whnf
    refine ⟨fun _ => ?_, fun h => absurd rfl h⟩
    conv => whnf
    exact ⟨.inl (congrArg tb hf.symm), trivial⟩
set_option maxRecDepth 100000 in
set_option maxHeartbeats 2000000 in
theorem z_check (o : Ob) : K 46 [o.av] [] (.ret (tri (checkO o))) [] := by
  refine Ctr.of hT hmix Tryz.func46 rfl (fun _ _ => by kernel_rfl) rfl fun hok => ?_
  obtain ⟨memory, shared, locks, buffer, cores⟩ := o
  obtain ⟨_, hl0, hcs⟩ := ((hok.slot 0 rfl).agg _ (.tail _ (.tail _ (.tail _ (.tail _ (.head _)))))).tr.lst
  rw [List.length_map] at hl0
  have hl : cores.length ≤ 9223372036854775807 := hl0
  clear hok hl0
  have hS : checkO ⟨memory, shared, locks, buffer, cores⟩ = bif !shapedB ⟨memory, shared, locks, buffer, cores⟩ then (160, 0, 0) else coresCk memory.length cores 0 := rfl
  generalize hR : checkO ⟨memory, shared, locks, buffer, cores⟩ = R at hS ⊢
  clear hR
  conv => whnf
  refine acall.pure _ (z_shaped ⟨memory, shared, locks, buffer, cores⟩) rfl rfl fun _ => ?_
  conv => whnf
  refine csplit (fun h1 => ?_) (fun h1 => ?_)
  · rw [h1] at hS
    rw [hS]
    conv => whnf
    exact ⟨⟨.inl rfl, .inl rfl, .inl rfl, trivial⟩, trivial⟩
  rw [h1] at hS
  replace hS : R = coresCk memory.length cores 0 := hS
  rw [hS]
  clear hS h1
  conv => whnf
  refine LoopL.by (fun i : Nat => ⟨[(1, .ptr 0 0), (6, .tr (ti i))], [(0, .cells 25 [.tr (intsT memory), .tr (ti shared), .tr (ti locks), .tr (ti buffer), .tr (coresT cores)])], 60⟩)
    (fun i => i ≤ cores.length ∧ coresCk memory.length cores 0 = coresCk memory.length (cores.drop i) i) (fun i => cores.length - i) 0 [0] [] (Sub.mk' rfl ⟨⟨rfl, rfl⟩, .inl rfl, trivial⟩ ⟨⟨rfl, .inl rfl, .inl rfl, .inl rfl, .inl rfl, .inl rfl, trivial⟩, trivial⟩ rfl rfl) ⟨Nat.zero_le _, rfl⟩ ?_
  rintro i ⟨hi, hf⟩ -
  conv => whnf
  refine csplit (fun hlt => ?_) (fun hge => ?_)
  · have hlt : i < cores.length := by have := of_decide_eq_true hlt; rw [List.length_map] at this; replace this : (i : Int) < cores.length := this; omega
    obtain ⟨c, hd⟩ : ∃ c, cores[i]? = some c := ⟨cores[i], by simp [hlt]⟩
    have hrow : (cores.map Cor.cells)[i]? = some c.cells := by rw [List.getElem?_map, hd]; rfl
    rw [coresCk_at hd] at hf
    obtain ⟨_, hcl0, hci⟩ := ((hcs _ (List.mem_of_getElem? hrow)).2 (codeT c.code) (.tail _ (.head _))).lst
    rw [List.length_map] at hcl0
    obtain ⟨cn, cc⟩ := c
    have hcl : cc.length ≤ 9223372036854775807 := hcl0
    clear hcl0
    generalize hN : badAt (cc.length : Int) (memory.length : Int) cc 0 = N at hf
    conv => whnf
    refine LoopL.by (fun k : Nat => ⟨[(1, .ptr 0 0), (6, .tr (ti i)), (7, .tr (ti k))], [(0, .cells 25 [.tr (intsT memory), .tr (ti shared), .tr (ti locks), .tr (ti buffer), .tr (coresT cores)])], 60⟩)
      (fun k => k ≤ cc.length ∧ N = badAt cc.length memory.length (cc.drop k) k) (fun k => cc.length - k) 0 [0] [] (Sub.mk' rfl ⟨⟨rfl, rfl⟩, .inl rfl, .inl rfl, trivial⟩ ⟨⟨rfl, .inl rfl, .inl rfl, .inl rfl, .inl rfl, .inl rfl, trivial⟩, trivial⟩ rfl rfl) ⟨Nat.zero_le _, hN.symm⟩ ?_
    rintro k ⟨hk, hg⟩ -
    conv => whnf
    refine ⟨rfl, (show (0 : Int) ≤ i by omega), (show (i : Int) < ((cores.map Cor.cells).length : Int) by rw [List.length_map]; omega), fun row hr => ?_⟩
    cases hrow.symm.trans hr
    conv => whnf
    refine csplit (fun hlt2 => ?_) (fun hge2 => ?_)
    · have hlt2 : k < cc.length := by have := of_decide_eq_true hlt2; rw [List.length_map] at this; replace this : (k : Int) < cc.length := this; omega
      obtain ⟨x, hx⟩ : ∃ x, cc[k]? = some x := ⟨cc[k], by simp [hlt2]⟩
      have hrowx : (cc.map Ins.cells)[k]? = some x.cells := by rw [List.getElem?_map, hx]; rfl
      rw [badAt_at hx] at hg
      have hr := z_right x cc.length memory.length
      obtain ⟨x1, x2, x3, x4, x5, x6, x7, x8, x9⟩ := x
      conv => whnf
      refine ⟨rfl, (show (0 : Int) ≤ i by omega), (show (i : Int) < ((cores.map Cor.cells).length : Int) by rw [List.length_map]; omega), fun row hrr => ?_⟩
      cases hrow.symm.trans hrr
      conv => whnf
      refine ⟨rfl, (show (0 : Int) ≤ k by omega), (show (k : Int) < ((cc.map Ins.cells).length : Int) by rw [List.length_map]; omega), fun row hrr => ?_⟩
      cases hrowx.symm.trans hrr
      conv => whnf
      refine ⟨rfl, (show (0 : Int) ≤ i by omega), (show (i : Int) < ((cores.map Cor.cells).length : Int) by rw [List.length_map]; omega), fun row hrr => ?_⟩
      cases hrow.symm.trans hrr
      conv => whnf
      refine acall.gen [] [] _ _ _ _ hr rfl rfl rfl rfl ⟨aut, .inl (by simp), .inl (by simp), trivial⟩ trivial rfl rfl ?_
      conv => whnf
      refine ⟨by kernel_rfl, fun _ => ?_⟩
      conv => whnf
      refine csplit (fun h2 => ?_) (fun h2 => ?_)
      · rw [h2] at hg
        replace hg : N = (k : Int) := hg
        subst hg
        rw [show decide ((k : Int) ≥ 0) = true from decide_eq_true (by omega)] at hf
        rw [hf]
        conv => whnf
        exact ⟨⟨.inl rfl, .inl rfl, .inl rfl, trivial⟩, trivial⟩
      · rw [h2] at hg
        conv => whnf
        exact ⟨k + 1, [0], [], Sub.mk' rfl ⟨⟨rfl, rfl⟩, .inl rfl, .inl (ti_succ hlt2 hcl), trivial⟩ ⟨⟨rfl, .inl rfl, .inl rfl, .inl rfl, .inl rfl, .inl rfl, trivial⟩, trivial⟩ rfl rfl, ⟨by omega, hg⟩, by omega⟩
    · have hge2 : cc.length ≤ k := by have := of_decide_eq_false hge2; rw [List.length_map] at this; replace this : ¬ (k : Int) < cc.length := this; omega
      rw [List.drop_eq_nil_of_le hge2] at hg
      replace hg : N = -1 := hg
      subst hg
      conv => whnf
      refine ⟨fun _ => ?_, fun h => absurd rfl h⟩
      conv => whnf
      exact ⟨i + 1, [0], [], Sub.mk' rfl ⟨⟨rfl, rfl⟩, .inl (ti_succ hlt hl), trivial⟩ ⟨⟨rfl, .inl rfl, .inl rfl, .inl rfl, .inl rfl, .inl rfl, trivial⟩, trivial⟩ rfl rfl, ⟨by omega, hf⟩, by omega⟩
  · have hge : cores.length ≤ i := by have := of_decide_eq_false hge; rw [List.length_map] at this; replace this : ¬ (i : Int) < cores.length := this; omega
    rw [List.drop_eq_nil_of_le hge] at hf
    rw [hf]
    conv => whnf
    refine ⟨fun _ => ?_, fun h => absurd rfl h⟩
    conv => whnf
    exact ⟨⟨.inl rfl, .inl rfl, .inl rfl, trivial⟩, trivial⟩
end Go.Proofs.YtioafhkkkmfkdaaGreatDoor.am

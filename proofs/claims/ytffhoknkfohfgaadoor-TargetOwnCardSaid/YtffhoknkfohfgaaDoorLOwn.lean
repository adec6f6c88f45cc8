/- The law TargetOwn. objects and bytes are their own: for every input the law returns true, and each argument reads as it did. Conditions: the tables lie as the program's text lays them (the card ties them). -/
import Derived.Test.YtffhoknkfohfgaaDoorM10
import Derived.Test.YtffhoknkfohfgaaDoorM7
import Derived.Test.YtffhoknkfohfgaaDoorRows
import Derived.Test.YtffhoknkfohfgaaDoorCards
import Derived.Test.YtffhoknkfohfgaaDoorTie
import Derived.Test.YtffhoknkfohfgaaDoorM8
import Derived.Deep.DeepHandedRow
import Derived.ProofKit
import Derived.Lay
import Derived.MakeChecks
set_option linter.all false

namespace Go.Proofs.YtffhoknkfohfgaaDoor.am
open Go Go.Proofs
theorem encB_len (o : Ob) (h : (checkO o).1 = 0) : (encB o).length ≤ 16000000 := by
  have hG := check_good h
  have h1 := flat_len wrdB 10 o.memory fun x _ => wrdB_len x
  have h2 := flat_len coreE 983092 o.cores fun c hc => by
    have a1 := name_le (hG.name c hc)
    have a2 := (hG.code c hc).2
    have a3 := nuB_len c.name.size
    have a4 := nuB_len c.code.length
    have a5 := dat_len c.name
    have a6 := flat_len insE 60 c.code fun i hi => by
      have b1 := fieldsE_len i (right_kind (hG.right c hc i hi))
      have b2 := nuB_len i.kind
      have b3 := nuB_len i.from_
      unfold insE
      simp only [List.length_append]; omega
    unfold coreE
    simp only [List.length_append]; omega
  have h3 := hG.mem
  have h4 := hG.cores
  have h5 := nuB_len o.shared
  have h6 := nuB_len o.locks
  have h7 := nuB_len o.buffer
  have h8 := nuB_len o.memory.length
  have h9 := nuB_len o.cores.length
  unfold encB headE
  simp only [List.length_append, magicL, List.length_cons, List.length_nil]
  omega
theorem setC_core {cs : List Cor} {k : Nat} {cn : ByteArray} {cc cc' : List Ins} (h : cs[k]? = some ⟨cn, cc⟩) : setC (cs.map Cor.cells) k 1 (codeT cc') = (cs.set k ⟨cn, cc'⟩).map Cor.cells := by
  unfold setC
  rw [List.getElem?_map, h, List.map_set]
  rfl
theorem lnk_head {i j : Nat} {x : Nat × Nat} {r : List ((Nat × Nat) × (Nat × Nat))} : lnk (((i, j), x) :: r) i j = some x := by
  show (bif Nat.beq j j && Nat.beq i i then some x else lnk r i j) = _
  rw [Nat.beq_refl, Nat.beq_refl]
  rfl
theorem ins_set (cc : List Ins) (j : Nat) (i : Ins) : (cc.map Ins.cells).set j i.cells = (cc.set j i).map Ins.cells := by rw [List.map_set]
theorem setC_core2 {cs : List Cor} {k : Nat} {cn : ByteArray} {x : Tr} {cc' : List Ins} (h : k < cs.length) : setC ((cs.map Cor.cells).set k [ts cn, x]) k 1 (codeT cc') = (cs.set k ⟨cn, cc'⟩).map Cor.cells := by
  unfold setC
  rw [List.getElem?_set_self (by rw [List.length_map]; exact h), List.map_set]
  show ((cs.map Cor.cells).set k [ts cn, x]).set k [ts cn, codeT cc'] = _
  rw [List.set_set]
  rfl
theorem brows_set (l : List UInt8) (i : Nat) (b : UInt8) : (brows l).set i [.v (.int .u8 (b.toNat : Int))] = brows (l.set i b) := by simp [brows, List.map_set]
theorem irow_set (l : List Int) (k : Nat) (x : Int) : (l.map irow).set k [ti x] = (l.set k x).map irow := by rw [List.map_set]; rfl
set_option maxRecDepth 100000 in
set_option maxHeartbeats 4000000 in
theorem k_own (s : ByteArray) (o : Ob) : K 3 [.tr (ts s), o.av] [] (.ret (.tr (tb true))) [] := by
  refine Ctr.cut [4, 5, 18] hT hmix Tryd.func3 rfl (fun _ _ => by kernel_rfl) rfl fun hok => ?_
  clear hok
  have hlen := fun h => encB_len o h
  have hen := fun h => k_encode o h
  have hen0 := fun h => k_encode0 o h
  obtain ⟨E, hE⟩ : ∃ E, E = checkO o := ⟨_, rfl⟩
  obtain ⟨B, hB⟩ : ∃ B, B = encB o := ⟨_, rfl⟩
  rw [← hE, ← hB] at hen hlen
  rw [← hE] at hen0
  clear hE hB
  obtain ⟨memory, shared, locks, buffer, cores⟩ := o
  obtain ⟨⟨O, W, A⟩, hO⟩ : ∃ R, R = parseS s := ⟨_, rfl⟩
  have hpA := k_parseA s hO
  have hcase := parseS_cases s
  rw [← hO] at hcase
  simp only at hpA
  have hOb : O.cores.length ≤ 8 ∧ O.memory.length ≤ 4096 ∧ ∀ c ∈ O.cores, c.code.length ≤ 16384 := by
    rcases hcase with ⟨x, e, hx⟩ | ⟨w, a, hw, e⟩
    · cases e
      have hG := check_good hx
      exact ⟨hG.cores, hG.mem, fun c hc => (hG.code c hc).2⟩
    · cases e
      exact ⟨by decide, by decide, fun c hc => absurd hc (by simp [emptyO])⟩
  conv => whnf
  refine acall.pure _ (k_begins) rfl rfl fun _ => ?_
  conv => whnf
  refine CutL.by (fun _ : Unit => ⟨[(0, .tr (ts s)), (3, .ptr 0 0), (5, .ptr 1 0), (6, .tr (ti W))], [(0, .cells 25 ((Ob.mk memory shared locks buffer cores).cells.map .tr)), (1, obB (.sl 2 O.memory.length) O.shared O.locks O.buffer (.sl 3 O.cores.length)), (2, memBk O.memory), (3, coresBk O.cores)], 10⟩) (fun _ => True) ?_ ?_
  · rcases hcase with ⟨x, e, hx⟩ | ⟨w, a, hw, e⟩
    · cases e
      have hp := k_parseOwn s hO rfl
      simp only at hp
      clear hpA
      conv => whnf
      refine acall.new [] [] _ _ _ _ hp rfl rfl rfl rfl (by repeat' (first | exact trivial | exact Or.inl (ti_succ (by assumption) (by assumption)) | exact Or.inl rfl | exact rfl | exact Nat.le_refl _ | apply And.intro)) (by repeat' (first | exact trivial | exact Or.inl (ti_succ (by assumption) (by assumption)) | exact Or.inl rfl | exact rfl | exact Nat.le_refl _ | apply And.intro)) rfl rfl fun _ => ?_
      conv => whnf
      exact ⟨(), [0, 10, 5, 5 + 1048576], [], Sub.mk' rfl (by repeat' (first | exact trivial | exact Or.inl (ti_succ (by assumption) (by assumption)) | exact Or.inl rfl | exact rfl | exact Nat.le_refl _ | apply And.intro)) (by repeat' (first | exact trivial | exact Or.inl (ti_succ (by assumption) (by assumption)) | exact Or.inl rfl | exact rfl | exact Nat.le_refl _ | apply And.intro)) rfl rfl, trivial⟩
    · cases e
      have hp := k_parseErr s hO hw
      simp only at hp
      clear hpA
      conv => whnf
      refine acall.pure _ (hp) rfl rfl fun _ => ?_
      conv => whnf
      exact ⟨(), [0, 10], [2, 3], Sub.mk' rfl ⟨.inl rfl, ⟨rfl, rfl⟩, ⟨rfl, rfl⟩, .inl rfl, trivial⟩ ⟨⟨rfl, .inl rfl, .inl rfl, .inl rfl, .inl rfl, .inl rfl, trivial⟩, ⟨rfl, ⟨rfl, rfl, rfl, rfl⟩, .inl rfl, .inl rfl, .inl rfl, ⟨rfl, rfl, rfl, rfl⟩, trivial⟩, ⟨rfl, _, _, _, rfl, by decide⟩, ⟨rfl, rfl, rfl, by decide⟩, trivial⟩ rfl rfl, trivial⟩
  clear hcase
  rintro - - -
  obtain ⟨m, sh, lo, bu, co⟩ := O
  obtain ⟨hcl, hml, hcd⟩ := hOb
  simp only at hcl hml hcd
  refine CutL.by (fun _ : Unit => ⟨[(0, .tr (ts s)), (3, .ptr 0 0), (5, .ptr 1 0), (6, .tr (ti W)), (8, .ptr 2 0)], [(0, .cells 25 ((Ob.mk memory shared locks buffer cores).cells.map .tr)), (1, obB (.sl 3 m.length) sh lo bu (.sl 4 co.length)), (2, obB (.sl 5 m.length) sh lo bu (.sl 6 co.length)), (3, memBk m), (4, coresBk co), (5, .own 1 8 (m.map irow) []), (6, coresBk co)], 10⟩) (fun _ => True) ?_ ?_
  · conv => whnf
    refine acall.new [] [2, 3] _ _ _ _ (k_copyOwn ⟨m, sh, lo, bu, co⟩) rfl rfl rfl rfl ⟨⟨⟨rfl, by simp, by rw [List.take_of_length_le (by simp)]⟩, .inl rfl, .inl rfl, .inl rfl, ⟨rfl, by simp, by rw [List.take_of_length_le (by simp)]⟩, trivial⟩, trivial⟩ trivial rfl rfl fun _ => ?_
    conv => whnf
    exact ⟨(), [0, 1, 12, 2, 3, 11, 11 + 1048576], [], Sub.mk' rfl ⟨.inl rfl, ⟨rfl, rfl⟩, ⟨rfl, rfl⟩, .inl rfl, ⟨rfl, rfl⟩, trivial⟩ ⟨⟨rfl, .inl rfl, .inl rfl, .inl rfl, .inl rfl, .inl rfl, trivial⟩, ⟨rfl, ⟨rfl, rfl⟩, .inl rfl, .inl rfl, .inl rfl, ⟨rfl, rfl⟩, trivial⟩, ⟨rfl, ⟨rfl, rfl⟩, .inl rfl, .inl rfl, .inl rfl, ⟨rfl, rfl⟩, trivial⟩, ⟨rfl, rfl, rfl, rfl⟩, ⟨rfl, rfl, rfl, rfl, .inl rfl⟩, ⟨rfl, rfl, rfl, rfl, .inl rfl⟩, ⟨rfl, rfl, rfl, rfl, .inl rfl⟩, trivial⟩ rfl rfl, trivial⟩
  rintro - - -
  conv => whnf
  have q1 : m.length ≤ (m.map irow).length := by simp
  have q2 : co.length ≤ (co.map Cor.cells).length := by simp
  have e1 : intsT m = Tr.lst 1 8 ((m.map irow).take m.length) := by rw [List.take_of_length_le (by simp)]
  have e2 : coresT co = Tr.lst 2 40 ((co.map Cor.cells).take co.length) := by rw [List.take_of_length_le (by simp)]
  refine LoopL.by (fun x : Nat × List Int => ⟨[(0, .tr (ts s)), (3, .ptr 0 0), (5, .ptr 1 0), (6, .tr (ti W)), (8, .ptr 2 0), (9, .tr (ti x.1))], [(0, .cells 25 ((Ob.mk memory shared locks buffer cores).cells.map .tr)), (1, obB (.sl 3 m.length) sh lo bu (.sl 4 co.length)), (2, .cells 25 ((Ob.mk m sh lo bu co).cells.map .tr)), (3, memBk x.2), (4, coresBk co)], 10⟩) (fun x => x.1 ≤ m.length ∧ x.2.length = m.length) (fun x => m.length - x.1) (0, m) [0, 1, 2, 3, 4] []
    (Sub.mk' rfl ⟨.inl rfl, ⟨rfl, rfl⟩, ⟨rfl, rfl⟩, .inl rfl, ⟨rfl, rfl⟩, .inl rfl, trivial⟩ ⟨⟨rfl, .inl rfl, .inl rfl, .inl rfl, .inl rfl, .inl rfl, trivial⟩, ⟨rfl, ⟨rfl, rfl⟩, .inl rfl, .inl rfl, .inl rfl, ⟨rfl, rfl⟩, trivial⟩, ⟨rfl, ⟨rfl, q1, e1⟩, .inl rfl, .inl rfl, .inl rfl, ⟨rfl, q2, e2⟩, trivial⟩, ⟨rfl, rfl, rfl, rfl⟩, ⟨rfl, rfl, rfl, rfl, .inl rfl⟩, trivial⟩ rfl rfl) ⟨Nat.zero_le _, rfl⟩ ?_
  rintro ⟨i, m'⟩ ⟨hi, hm'⟩ -
  simp only at hi hm'
  conv => whnf
  refine csplit (fun hlt => ?_) (fun hge => ?_)
  · have hlt : i < m.length := by have := of_decide_eq_true hlt; simp only at this; omega
    have hml' : m.length ≤ 9223372036854775807 := by omega
    conv => whnf
    refine ⟨rfl, (show (0 : Int) ≤ i by omega), (show (i : Int) < m.length by omega), ?_⟩
    conv => whnf
    refine ⟨rfl, rfl, (show i < (m'.map irow).length by rw [List.length_map]; omega), fun row hrow => ?_⟩
    obtain ⟨y, hy, rfl⟩ := map_get hrow
    refine ⟨Nat.le_refl 1, ?_⟩
    conv => whnf
    exact ⟨(i + 1, m'.set i (-1)), [0, 1, 2, 3, 4], [], Sub.mk' rfl ⟨.inl rfl, ⟨rfl, rfl⟩, ⟨rfl, rfl⟩, .inl rfl, ⟨rfl, rfl⟩, .inl (ti_succ hlt hml'), trivial⟩ ⟨⟨rfl, .inl rfl, .inl rfl, .inl rfl, .inl rfl, .inl rfl, trivial⟩, ⟨rfl, ⟨rfl, rfl⟩, .inl rfl, .inl rfl, .inl rfl, ⟨rfl, rfl⟩, trivial⟩, ⟨rfl, .inl rfl, .inl rfl, .inl rfl, .inl rfl, .inl rfl, trivial⟩, ⟨rfl, rfl, rfl, irow_set m' i (-1)⟩, ⟨rfl, rfl, rfl, rfl, .inl rfl⟩, trivial⟩ rfl rfl, ⟨hlt, by simp only [List.length_set]; exact hm'⟩, by simp only; omega⟩
  conv => whnf
  refine ⟨fun _ => ?_, fun h => absurd rfl h⟩
  conv => whnf
  refine LoopL.by (fun x : Nat × List Cor => ⟨[(0, .tr (ts s)), (3, .ptr 0 0), (5, .ptr 1 0), (6, .tr (ti W)), (8, .ptr 2 0), (10, .tr (ti x.1))], [(0, .cells 25 ((Ob.mk memory shared locks buffer cores).cells.map .tr)), (1, obB (.sl 3 m.length) sh lo bu (.sl 4 co.length)), (2, .cells 25 ((Ob.mk m sh lo bu co).cells.map .tr)), (3, memBk m'), (4, coresBk x.2)], 10⟩) (fun x => x.1 ≤ co.length ∧ x.2.length = co.length ∧ ∀ c ∈ x.2, c.code.length ≤ 16384 + 2 * x.1) (fun x => co.length - x.1) (0, co) [0, 1, 2, 3, 4] []
    (Sub.mk' rfl ⟨.inl rfl, ⟨rfl, rfl⟩, ⟨rfl, rfl⟩, .inl rfl, ⟨rfl, rfl⟩, .inl rfl, trivial⟩ ⟨⟨rfl, .inl rfl, .inl rfl, .inl rfl, .inl rfl, .inl rfl, trivial⟩, ⟨rfl, ⟨rfl, rfl⟩, .inl rfl, .inl rfl, .inl rfl, ⟨rfl, rfl⟩, trivial⟩, ⟨rfl, .inl rfl, .inl rfl, .inl rfl, .inl rfl, .inl rfl, trivial⟩, ⟨rfl, rfl, rfl, rfl⟩, ⟨rfl, rfl, rfl, rfl, .inl rfl⟩, trivial⟩ rfl rfl) ⟨Nat.zero_le _, rfl, fun c hc => Nat.le_trans (hcd c hc) (by simp)⟩ ?_
  rintro ⟨k, cs⟩ ⟨hk, hcs, hcd'⟩ -
  simp only at hk hcs hcd'
  conv => whnf
  refine csplit (fun hlt => ?_) (fun hge => ?_)
  · have hlt : k < co.length := by have := of_decide_eq_true hlt; simp only at this; omega
    have hcl' : co.length ≤ 9223372036854775807 := by omega
    conv => whnf
    refine LoopL.by (fun x : Nat × List Cor => ⟨[(0, .tr (ts s)), (3, .ptr 0 0), (5, .ptr 1 0), (6, .tr (ti W)), (8, .ptr 2 0), (10, .tr (ti k)), (11, .tr (ti x.1))], [(0, .cells 25 ((Ob.mk memory shared locks buffer cores).cells.map .tr)), (1, obB (.sl 3 m.length) sh lo bu (.sl 4 co.length)), (2, .cells 25 ((Ob.mk m sh lo bu co).cells.map .tr)), (3, memBk m'), (4, coresBk x.2)], 10⟩) (fun x => x.2.length = co.length ∧ (∀ c ∈ x.2, c.code.length ≤ 16384 + 2 * k) ∧ ∀ c, x.2[k]? = some c → x.1 ≤ c.code.length) (fun x => (match x.2[k]? with | some c => c.code.length | none => 0) - x.1) (0, cs) [0, 1, 2, 3, 4] []
      (Sub.mk' rfl ⟨.inl rfl, ⟨rfl, rfl⟩, ⟨rfl, rfl⟩, .inl rfl, ⟨rfl, rfl⟩, .inl rfl, .inl rfl, trivial⟩ ⟨⟨rfl, .inl rfl, .inl rfl, .inl rfl, .inl rfl, .inl rfl, trivial⟩, ⟨rfl, ⟨rfl, rfl⟩, .inl rfl, .inl rfl, .inl rfl, ⟨rfl, rfl⟩, trivial⟩, ⟨rfl, .inl rfl, .inl rfl, .inl rfl, .inl rfl, .inl rfl, trivial⟩, ⟨rfl, rfl, rfl, rfl⟩, ⟨rfl, rfl, rfl, rfl, .inl rfl⟩, trivial⟩ rfl rfl) ⟨hcs, hcd', fun _ _ => Nat.zero_le _⟩ ?_
    clear hcs hcd'
    rintro ⟨j, cs⟩ ⟨hcs, hcd', hj⟩ -
    simp only at hcs hcd' hj
    obtain ⟨c, hc⟩ : ∃ c, cs[k]? = some c := ⟨cs[k], by simp [hcs, hlt]⟩
    have hrow : (cs.map Cor.cells)[k]? = some c.cells := by rw [List.getElem?_map, hc]; rfl
    have hcc := hcd' c (List.mem_of_getElem? hc)
    have hjc := hj c hc
    obtain ⟨cn, cc⟩ := c
    simp only at hcc hjc
    conv => whnf
    refine ⟨rfl, (show (0 : Int) ≤ k by omega), (show (k : Int) < co.length by omega), ?_⟩
    conv => whnf
    refine ⟨rfl, (show k < (cs.map Cor.cells).length by rw [List.length_map]; omega), fun row hr => ?_⟩
    cases hrow.symm.trans hr
    refine ⟨(by decide : 1 < 2), fun t ht => ?_⟩
    cases ht
    refine ⟨by decide, ?_⟩
    conv => whnf
    refine csplit (fun hl2 => ?_) (fun hg2 => ?_)
    · have hl2 : j < cc.length := by have := of_decide_eq_true hl2; rw [List.length_map] at this; replace this : (j : Int) < cc.length := this; omega
      have hj1 : IntKind.i64.wrap ((j : Int) + 1) = ((j + 1 : Nat) : Int) := by rw [w64 (by omega) (by omega)]; omega
      conv => whnf
      refine ⟨rfl, (show (0 : Int) ≤ k by omega), (show (k : Int) < co.length by omega), ?_⟩
      conv => whnf
      refine ⟨rfl, (show k < (cs.map Cor.cells).length by rw [List.length_map]; omega), fun row hr => ?_⟩
      cases hrow.symm.trans hr
      refine ⟨(by decide : 1 < 2), fun t ht => ?_⟩
      cases ht
      rw [lnk_head]
      conv => whnf
      refine ⟨rfl, (show (0 : Int) ≤ j by omega), (show (j : Int) < (cc.map Ins.cells).length by rw [List.length_map]; omega), ?_⟩
      conv => whnf
      refine ⟨rfl, rfl, rfl, (show j < (cc.map Ins.cells).length by rw [List.length_map]; omega), trivial, fun row hr => ?_⟩
      obtain ⟨y, hy, rfl⟩ := map_get hr
      refine ⟨Nat.le_refl 9, ?_⟩
      conv => whnf
      refine ⟨(j + 1, cs.set k ⟨cn, cc.set j zeroI⟩), [0, 1, 2, 3, 4], [], Sub.pk [4] ?_, ⟨by rw [List.length_set]; exact hcs, ?_, ?_⟩, ?_⟩
      · conv => whnf
        refine ⟨rfl, rfl, (show (cc.map Ins.cells).length ≤ ((cc.map Ins.cells).set j zeroI.cells).length by rw [List.length_set]; exact Nat.le_refl _), ?_⟩
        refine Sub0.mk' rfl ⟨.inl rfl, ⟨rfl, rfl⟩, ⟨rfl, rfl⟩, .inl rfl, ⟨rfl, rfl⟩, .inl rfl, .inl (congrArg ti hj1), trivial⟩ ⟨⟨rfl, .inl rfl, .inl rfl, .inl rfl, .inl rfl, .inl rfl, trivial⟩, ⟨rfl, ⟨rfl, rfl⟩, .inl rfl, .inl rfl, .inl rfl, ⟨rfl, rfl⟩, trivial⟩, ⟨rfl, .inl rfl, .inl rfl, .inl rfl, .inl rfl, .inl rfl, trivial⟩, ⟨rfl, rfl, rfl, rfl⟩, ⟨rfl, rfl, rfl, rfl, .inl ?_⟩, trivial⟩ rfl rfl
        refine Eq.trans ?_ (setC_core hc)
        show setC _ k 1 (Tr.lst 9 64 (((cc.map Ins.cells).set j zeroI.cells).take (cc.map Ins.cells).length)) = _
        rw [List.take_of_length_le (by rw [List.length_set]; exact Nat.le_refl _), ins_set]
      · intro c hc'
        rcases List.mem_or_eq_of_mem_set hc' with hc' | rfl
        · exact hcd' c hc'
        · simp only [List.length_set]; exact hcc
      · intro c hc'
        rw [List.getElem?_set_self (by omega)] at hc'
        cases hc'
        simp only [List.length_set]; omega
      · simp only [List.getElem?_set_self (show k < cs.length by omega), hc, List.length_set]; omega
    · conv => whnf
      refine ⟨fun _ => ?_, fun h => absurd rfl h⟩
      conv => whnf
      have hk1 : IntKind.i64.wrap ((k : Int) + 1) = ((k + 1 : Nat) : Int) := by rw [w64 (by omega) (by omega)]; omega
      refine ⟨rfl, (show (0 : Int) ≤ k by omega), (show (k : Int) < co.length by omega), ?_⟩
      conv => whnf
      refine ⟨rfl, (show k < (cs.map Cor.cells).length by rw [List.length_map]; omega), fun row hr => ?_⟩
      cases hrow.symm.trans hr
      refine ⟨(by decide : 1 < 2), fun t ht => ?_⟩
      cases ht
      rw [lnk_head]
      conv => whnf
      refine ⟨rfl, rfl, by decide, (show ((cc.map Ins.cells).length + 2) * 64 ≤ 140737488351232 by rw [List.length_map]; omega), trivial, code_leaf [zeroI, zeroI], trivial, ?_⟩
      conv => whnf
      refine ⟨rfl, (show (0 : Int) ≤ k by omega), (show (k : Int) < co.length by omega), ?_⟩
      conv => whnf
      refine ⟨rfl, rfl, rfl, (show k < (cs.map Cor.cells).length by rw [List.length_map]; omega), ⟨fun _ => rfl, trivial⟩, fun row hr => ?_⟩
      cases hrow.symm.trans hr
      refine ⟨Nat.le_refl 2, ?_⟩
      conv => whnf
      refine ⟨by kernel_rfl, fun _ => ?_⟩
      conv => whnf
      refine ⟨(k + 1, cs.set k ⟨cn, cc ++ [zeroI, zeroI]⟩), [0, 1, 2, 3, 4], [], Sub.pk [4] ?_, ⟨hlt, by simp only [List.length_set]; exact hcs, ?_⟩, by simp only; omega⟩
      · conv => whnf
        refine ⟨rfl, rfl, (show (cc.map Ins.cells).length + 2 ≤ (cc.map Ins.cells ++ [zeroI, zeroI].map Ins.cells).length by simp), ?_⟩
        refine Sub0.mk' rfl ⟨.inl rfl, ⟨rfl, rfl⟩, ⟨rfl, rfl⟩, .inl rfl, ⟨rfl, rfl⟩, .inl (congrArg ti hk1), trivial⟩ ⟨⟨rfl, .inl rfl, .inl rfl, .inl rfl, .inl rfl, .inl rfl, trivial⟩, ⟨rfl, ⟨rfl, rfl⟩, .inl rfl, .inl rfl, .inl rfl, ⟨rfl, rfl⟩, trivial⟩, ⟨rfl, .inl rfl, .inl rfl, .inl rfl, .inl rfl, .inl rfl, trivial⟩, ⟨rfl, rfl, rfl, rfl⟩, ⟨rfl, rfl, rfl, rfl, .inl ?_⟩, trivial⟩ rfl rfl
        refine Eq.trans ?_ (setC_core2 (x := .v (.slice none 0 0)) (show k < cs.length by omega))
        show setC _ k 1 (Tr.lst 9 64 ((cc.map Ins.cells ++ [zeroI, zeroI].map Ins.cells).take ((cc.map Ins.cells).length + 2))) = _
        rw [List.take_of_length_le (l := cc.map Ins.cells ++ [zeroI, zeroI].map Ins.cells) (by simp), ← List.map_append]
        rfl
      · intro c hc'
        rcases List.mem_or_eq_of_mem_set hc' with hc' | rfl
        · have := hcd' c hc'; simp only; omega
        · simp only [List.length_append, List.length_cons, List.length_nil]; omega
  conv => whnf
  refine ⟨fun _ => ?_, fun h => absurd rfl h⟩
  conv => whnf
  refine CutL.by (fun _ : Unit => ⟨[(0, .tr (ts s)), (3, .ptr 0 0), (6, .tr (ti W)), (8, .ptr 1 0)], [(0, .cells 25 ((Ob.mk memory shared locks buffer cores).cells.map .tr)), (1, .cells 25 ((Ob.mk m sh lo bu co).cells.map .tr))], 10⟩) (fun _ => True) ?_ ?_
  · conv => whnf
    refine ⟨rfl, rfl, rfl, (show m.length ≤ (m'.map irow).length by rw [List.length_map]; omega), (show (m.length + 2) * 8 ≤ 140737488351232 by omega), fun q hq => by simp at hq; subst hq; simp, ?_⟩
    conv => whnf
    exact ⟨(), [0, 2], [], Sub.mk' rfl ⟨.inl rfl, ⟨rfl, rfl⟩, .inl rfl, ⟨rfl, rfl⟩, trivial⟩ ⟨⟨rfl, .inl rfl, .inl rfl, .inl rfl, .inl rfl, .inl rfl, trivial⟩, ⟨rfl, .inl rfl, .inl rfl, .inl rfl, .inl rfl, .inl rfl, trivial⟩, trivial⟩ rfl rfl, trivial⟩
  rintro - - -
  conv => whnf
  refine acall.pure _ (hpA) rfl rfl fun _ => ?_
  conv => whnf
  have hsm := k_same2 ⟨m, sh, lo, bu, co⟩
  have hbb := k_bytes B
  by_cases hc : E.1 = 0
  · have he := hen hc
    have hBl := hlen hc
    clear hen hen0
    refine acall.new [] [] _ _ _ _ he rfl rfl rfl rfl (by repeat' (first | exact trivial | exact Or.inl (ti_succ (by assumption) (by assumption)) | exact Or.inl rfl | exact rfl | exact Nat.le_refl _ | apply And.intro)) (by repeat' (first | exact trivial | exact Or.inl (ti_succ (by assumption) (by assumption)) | exact Or.inl rfl | exact rfl | exact Nat.le_refl _ | apply And.intro)) rfl rfl fun _ => ?_
    conv => whnf
    generalize hq : srcRows _ _ _ = q
    obtain rfl := hq.symm.trans (srcRows_bytes (l := B) (e := 5) rfl rfl)
    clear hq
    conv => whnf
    refine ⟨rfl, rfl, rfl, Nat.le_refl _, (show (0 + (brows B).length) * 1 ≤ 140737488351232 by simp [brows]; omega), fun q hq => by simp at hq; subst hq; simp, ?_⟩
    conv => whnf
    refine LoopL.by (fun x : Nat × List UInt8 => ⟨[(3, .ptr 0 0), (6, .tr (ti W)), (8, .ptr 1 0), (12, .ptr 2 0), (13, .tr (ti W)), (15, .sl 3 B.length), (16, .tr (ti 0)), (17, .sl 4 B.length), (18, .tr (ti x.1))], [(0, .cells 25 ((Ob.mk memory shared locks buffer cores).cells.map .tr)), (1, .cells 25 ((Ob.mk m sh lo bu co).cells.map .tr)), (2, .cells 25 ((Ob.mk m sh lo bu co).cells.map .tr)), (3, bytB x.2), (4, bytB B)], 10⟩) (fun x => x.1 ≤ B.length ∧ x.2.length = B.length) (fun x => B.length - x.1) (0, B) [0, 1, 16, 21, 29] []
      (Sub.mk' rfl ⟨⟨rfl, rfl⟩, .inl rfl, ⟨rfl, rfl⟩, ⟨rfl, rfl⟩, .inl rfl, ⟨rfl, rfl⟩, .inl rfl, ⟨rfl, by simp [brows]⟩, .inl rfl, trivial⟩ ⟨⟨rfl, .inl rfl, .inl rfl, .inl rfl, .inl rfl, .inl rfl, trivial⟩, ⟨rfl, .inl rfl, .inl rfl, .inl rfl, .inl rfl, .inl rfl, trivial⟩, ⟨rfl, .inl rfl, .inl rfl, .inl rfl, .inl rfl, .inl rfl, trivial⟩, ⟨rfl, rfl, rfl, rfl⟩, ⟨rfl, rfl, rfl, rfl⟩, trivial⟩ rfl rfl) ⟨Nat.zero_le _, rfl⟩ ?_
    rintro ⟨i, l⟩ ⟨hi, hl⟩ -
    simp only at hi hl
    conv => whnf
    refine csplit (fun hlt => ?_) (fun hge => ?_)
    · have hlt : i < B.length := by have := of_decide_eq_true hlt; simp only at this; omega
      have hBl' : B.length ≤ 9223372036854775807 := by omega
      conv => whnf
      refine ⟨rfl, (show (0 : Int) ≤ i by omega), (show (i : Int) < B.length by omega), ?_⟩
      conv => whnf
      refine ⟨rfl, rfl, (show i < (brows l).length by rw [brows_len]; omega), fun row hrow => ?_⟩
      obtain ⟨c, hc, rfl⟩ := brow_get hrow
      refine ⟨Nat.le_refl 1, ?_⟩
      conv => whnf
      exact ⟨(i + 1, l.set i 85), [0, 1, 2, 3, 4], [], Sub.mk' rfl ⟨⟨rfl, rfl⟩, .inl rfl, ⟨rfl, rfl⟩, ⟨rfl, rfl⟩, .inl rfl, ⟨rfl, rfl⟩, .inl rfl, ⟨rfl, rfl⟩, .inl (ti_succ hlt hBl'), trivial⟩ ⟨⟨rfl, .inl rfl, .inl rfl, .inl rfl, .inl rfl, .inl rfl, trivial⟩, ⟨rfl, .inl rfl, .inl rfl, .inl rfl, .inl rfl, .inl rfl, trivial⟩, ⟨rfl, .inl rfl, .inl rfl, .inl rfl, .inl rfl, .inl rfl, trivial⟩, ⟨rfl, rfl, rfl, brows_set l i 85⟩, ⟨rfl, rfl, rfl, rfl⟩, trivial⟩ rfl rfl, ⟨hlt, by simp only [List.length_set]; exact hl⟩, by simp only; omega⟩
    conv => whnf
    refine ⟨fun _ => ?_, fun h => absurd rfl h⟩
    conv => whnf
    refine acall.new [] [] _ _ _ _ he rfl rfl rfl rfl (by repeat' (first | exact trivial | exact Or.inl (ti_succ (by assumption) (by assumption)) | exact Or.inl rfl | exact rfl | exact Nat.le_refl _ | apply And.intro)) (by repeat' (first | exact trivial | exact Or.inl (ti_succ (by assumption) (by assumption)) | exact Or.inl rfl | exact rfl | exact Nat.le_refl _ | apply And.intro)) rfl rfl fun _ => ?_
    conv => whnf
    refine csplit (fun h1 => ?_) (fun h1 => ?_)
    · conv => whnf
      refine acall.pure _ (hsm) rfl rfl fun _ => ?_
      conv => whnf

      refine acall.gen [] [4, 15] _ _ _ _ hbb rfl rfl rfl rfl ⟨⟨rfl, Nat.le_of_eq (brows_len B).symm, by rw [List.take_of_length_le (by simp [brows])]; rfl⟩, ⟨rfl, Nat.le_of_eq (brows_len B).symm, by rw [List.take_of_length_le (by simp [brows])]; rfl⟩, trivial⟩ trivial rfl rfl fun _ => ?_
      conv => whnf
      exact ⟨.inl rfl, trivial⟩
    · exact absurd h1 (by simp)
  · have he := hen0 hc
    clear hen hen0
    have hne : (E.1 == E.1) = true := by simp
    refine acall.pure _ (he) rfl rfl fun _ => ?_
    conv => whnf
    refine ⟨rfl, rfl, rfl, Nat.le_refl _, by decide, fun q hq => by simp at hq, ?_⟩
    conv => whnf
    refine LoopL.un 1 ?_
    conv => whnf
    refine ⟨fun _ => ?_, fun h => absurd rfl h⟩
    conv => whnf
    refine acall.pure _ (he) rfl rfl fun _ => ?_
    conv => whnf
    refine csplit (fun h1 => ?_) (fun h1 => ?_)
    · conv => whnf
      refine acall.pure _ (hsm) rfl rfl fun _ => ?_
      conv => whnf
      refine csplit (fun h2 => ?_) (fun h2 => ?_)
      · conv => whnf
        refine acall.gen [] [29] _ _ _ _ (k_bytes []) rfl rfl rfl rfl ⟨⟨rfl, by decide, rfl⟩, .inr ⟨rfl, _, _, rfl⟩, trivial⟩ trivial rfl rfl fun _ => ?_
        conv => whnf
        exact ⟨.inl rfl, trivial⟩
      · rw [hne] at h2; cases h2
    · exact absurd h1 (by simp)
end Go.Proofs.YtffhoknkfohfgaaDoor.am

namespace Go.Proofs.YtffhoknkfohfgaaDoor.rTargetOwn
open Go Go.RowKit Go.ChangeShapes Go.WideShapes Go.ChangeAt Go.WideMaps Go.WideElems
open Go.ChangeMaps (open_string shut_string)
open Go.Proofs.YtffhoknkfohfgaaDoor.am

theorem own : ownKnob Tryd.prog.godebug = none := by kernel_rfl
theorem laidOut : laidOutB Tryd.prog = true := by kernel_rfl
set_option maxRecDepth 100000 in
theorem contract (H : Type) (enc : TypeId × Value → H) (W : World) (args : Array Value) (ds gs : List (DataW H)) (before : List MemPlace)
    (hval : ∀ (j : Nat) t v, Tryd.f3.params[j]? = some t → args[j]? = some v → ∃ base, Value.okWide Tryd.prog W .any base t v)
    (hW : DataW.Whole enc Tryd.prog Tryd.f3.params.toList Rows.targetOwnSpec.vars false W args.toList ds gs before)
    (hwt : (DataW.weightsEach Tryd.prog (Tryd.f3.params.toList ++ (OpenSpec.ofChange Rows.targetOwnSpec).bare.plain.varTypes Tryd.prog) (ds ++ gs)).all (· ≤ reachBytes) = true) (hL : laidMetH Tryd.prog Rows.targetOwnRow.laid W) :
    Calls Tryd.prog 3 args W fun e W' => ∃ v, e = .returned v ∧ Rows.targetOwnSpec.post enc Tryd.prog Tryd.f3 false true false false W args v W' := by
  have hW' := hW
  obtain ⟨p, q, hA0, hV, rfl, hfz, hnd⟩ := hW
  have hA : DataW.TrodAll enc Tryd.prog W 0 (fun _ => true) true Tryd.f3.params.toList args.toList ds p := hA0
  rw [Tryd.params3] at hA hval
  obtain ⟨v0, vs0, d0, ds0, p0, q0, hargs, rfl, rfl, h0, r0⟩ := trodAll_cons hA
  obtain ⟨v1, vs1, d1, ds1, p1, q1, rfl, rfl, rfl, h1, r1⟩ := trodAll_cons r0
  obtain ⟨rfl, rfl, rfl⟩ := trodAll_nil r1
  obtain rfl : args = #[v0, v1] := by cases args; simp_all
  obtain ⟨rfl, rfl⟩ := trodVars_none hV
  clear hA0 hA
  simp only [List.append_nil] at hW'
  have hlt : ∀ x ∈ (p0 ++ (p1)), x.block < W.heap.size := fun x hx => hW'.lt x (by simpa using hx)
  have hwt : (DataW.weightsEach Tryd.prog [9, 25] [d0, d1]).all (· ≤ reachBytes) = true := hwt
  simp only [DataW.weightsEach, List.all_append, List.all_nil, Bool.and_true, Bool.and_eq_true] at hwt
  obtain ⟨x0, rfl, rfl, rfl, wx0⟩ := open_string Tryd.underlying9 ((hval 0 9 v0 rfl rfl).choose_spec) h0
  obtain ⟨cs1, rfl⟩ : ∃ cs, v1 = .agg cs := by
    obtain ⟨base, hv⟩ := hval 1 25 v1 rfl rfl
    unfold Value.okWide at hv
    rw [Tryd.underlying25] at hv
    obtain ⟨cs, rfl, _⟩ := hv
    exact ⟨cs, rfl⟩
  obtain ⟨x1, hx1⟩ := open_obj h1 hwt.2 (fun x hx => hlt x (by simp [hx]))
  refine (K.calls (k_own x0 x1) W (tabs_of hL) #[.string x0, .agg cs1] rfl ?_).mono fun e W' he => ?_
  · intro i v a e1 e2
    have e1 := arr_get e1
    match i, e2 with
    | 0, e2 => cases e2; cases e1; exact .tr (.v (by unfold maxLen at wx0; exact wx0))
    | 1, e2 => cases e2; cases e1; exact hx1
  obtain ⟨hb, v, rfl, g', hR⟩ := he
  obtain ⟨rfl, _⟩ := val_inv hR
  exact ⟨_, rfl, _, _, _, [], _, [], hW', trodAll_cons_mk (shut_bool Tryd.underlying4 _) trodAll_mk0, (trodAll_cons_mk (shut_string Tryd.underlying9 wx0) (trodAll_cons_mk (Below.trod laidOut (by kernel_rfl) (of_decide_eq_true (by kernel_rfl)) h1 hb (fun x hx => hlt x (by simp [hx]))) trodAll_mk0)), rfl, hb.frame _, fun h => by cases h⟩

theorem reads (os : Os) {H : Type} (enc : TypeId × Value → H) : ∃ places, DataW.whole enc Tryd.prog ((World.laidAll Tryd.prog os Rows.targetOwnRow.laid).forCall (fun _ _ => 0) ⟨#[], #[.string ⟨#[]⟩, .agg #[.slice none 0 0, .int .i64 0, .int .i64 0, .int .i64 0, .slice none 0 0]], []⟩).memory Tryd.f3.params.toList Rows.targetOwnSpec.vars false (#[.string ⟨#[]⟩, .agg #[.slice none 0 0, .int .i64 0, .int .i64 0, .int .i64 0, .slice none 0 0]] : Array Value).toList 8 = some ([.lit (.string []), .agg [.nil, .lit (.int .i64 0), .lit (.int .i64 0), .lit (.int .i64 0), .nil]], [], places) :=
  ⟨[], by kernel_rfl⟩

set_option maxRecDepth 100000 in
theorem lifted (os : Os) (started : os.Started) (H : Type) (enc : TypeId × Value → H) (F : Stop.Interp) :
    ReturnsInHanded {} Tryd.checked os 3 .any ((OpenSpec.ofChange Rows.targetOwnSpec).preRow enc Tryd.prog Tryd.f3 Rows.targetOwnRow.domain false Rows.targetOwnRow.laid) (((OpenSpec.ofChange Rows.targetOwnSpec).at F).post enc Tryd.prog Tryd.f3 false true false false) := by
  obtain ⟨places, hx⟩ := reads os enc
  refine returnsInHanded_of_row (C := Tryd.checked) (s := OpenSpec.ofChange Rows.targetOwnSpec) own started (by kernel_rfl) Tryd.func3
    (witness_row_at (enc := enc) (C := Tryd.checked) false (World.laidAll Tryd.prog os Rows.targetOwnRow.laid) #[.string ⟨#[]⟩, .agg #[.slice none 0 0, .int .i64 0, .int .i64 0, .int .i64 0, .slice none 0 0]] rfl (by kernel_rfl) (by kernel_rfl) (by kernel_rfl)
      (OpenSpec.preRow_of_cond 8 hx (by kernel_rfl) (fun k hk => by cases hk) (by kernel_rfl) (by rw [MakeChecks.laidMetH_plain _ _ _ (by kernel_rfl)]; exact laidMet_laidAll _ (by kernel_rfl) (by kernel_rfl)))) ?_
  intro W base args ds gs before hval hW _ _ hwt hL _ _
  exact contract H enc W args ds gs before (fun j t v h1 h2 => ⟨base, hval j t v h1 h2⟩) hW hwt hL

theorem said : Rows.TargetOwnSaid :=
  OpenClaim.holds_of_cond 3 Tryd.f3 rfl rfl rfl rfl rfl rfl rfl ⟨rfl, rfl, rfl, rfl, rfl⟩ rfl rfl rfl rfl rfl (by kernel_rfl) Tryd.func3 (by kernel_rfl)
    (of_decide_eq_true (by kernel_rfl)) (by unfold Func.isWrapper; first | (rw [if_pos (by decide +kernel)]; kernel_rfl) | (rw [if_neg (by decide +kernel)]; exact ⟨rfl, rfl⟩))
    (fun os started H enc _ F => by rw [OpenClaim.pre_eq_preRow]; exact lifted os started H enc F)

theorem plain (f : FuncId) (fn : Func) (hf : Tryd.pinned.checked.prog.funcNamed Rows.targetOwnRow.func = some f) (hfn : Tryd.pinned.checked.prog.funcs[f]? = some fn) :
    false = Tryd.pinned.checked.prog.looks [] ∧ ∀ (j : Nat) t, fn.params[j]? = some t → Tryd.pinned.checked.prog.wantsStandIn t = false := by
  obtain rfl : f = 3 := Option.some.inj ((show Tryd.prog.funcNamed Rows.targetOwnRow.func = some 3 by kernel_rfl).symm.trans hf) |>.symm
  obtain rfl : fn = Tryd.f3 := (Option.some.inj (Tryd.func3.symm.trans hfn)).symm
  refine ⟨by kernel_rfl, fun j t ht => ?_⟩
  rw [Tryd.params3] at ht
  have hm := Array.mem_of_getElem? ht
  simp only [List.mem_toArray, List.mem_cons, List.not_mem_nil, or_false] at hm
  rcases hm with rfl | rfl
  · exact (show Tryd.prog.wantsStandIn 9 = false by kernel_rfl)
  · exact (show Tryd.prog.wantsStandIn 25 = false by kernel_rfl)
theorem card : Rows.TargetOwnCardSaid :=
  Claim7.holds_tied_plain_at .later [] _ _ _ _ said (fun _ h => by cases h) (by kernel_rfl) (fun _ h => by cases h) targetOwn_row_tie rfl ⟨rfl, rfl⟩ (by kernel_rfl) rfl plain (by kernel_rfl)
end Go.Proofs.YtffhoknkfohfgaaDoor.rTargetOwn

/- Contracts of the reference: number, value, uses, node. Contract of the reference: named; it says what the program's says. Contracts: the reference's Decls, SameGraph, Same; two nodes, graphs, units against each other. Contracts of the reference: Check, Held, Copy; the law CfgChecks. Contracts: Held of both, the reference's Copy; the law CfgChecks. Texts of nodes: contracts of cfg.does, text and of the reference's text. What Check's OK gives the texts; contracts of Show. Contracts of both Prints. -/
import Derived.Test.YthboippafkcoiaaGreatDoorP11
import Derived.Test.YthboippafkcoiaaGreatDoorP9
import Derived.WalkLawsBesides
import Derived.Deep.WholeRow
import Derived.Lib.Hide
set_option linter.all false

namespace Go.Proofs.YthboippafkcoiaaGreatDoor.am
open Go Go.Proofs
set_option linter.all false

def nmbB (used : Bool) (n most : Int) : Bool := bif used then decide (n ≥ 0) && decide (n < most) else n == 0
def vluB (used : Bool) (v : Val) (slots : Int) : Bool := bif used then (bif v.s then (decide (v.k ≥ 0) && decide (v.k < slots) && v.w == 0) else v.k == 0) else (v.s == false && (v.k == 0 && (v.w == 0 && true)))
def useS (k : Int) : Bool := k == 1 || k == 2 || k == 4
def useT (k : Int) : Bool := k == 2 || k == 3 || k == 4 || k == 5 || k == 6
def useA (k : Int) : Bool := k == 1 || k == 3 || k == 4 || k == 7 || k == 8
def useN (k : Int) : Bool := k == 1 || k == 2 || k == 3 || k == 4 || k == 5 || k == 6 || k == 7 || k == 8
def rHead (n : Nd) : Bool := decide (n.kind ≤ 0) || decide (n.kind ≥ 10) || decide (n.origin < 0) || decide (n.origin ≥ 4096)
def rOp (n : Nd) : Bool := (bif n.kind == 1 then decide (n.op ≥ 19) else false) || (bif n.kind != 1 then n.op != 0 else false)
def rFields (u : Un) (g : Gr) (n : Nd) : Bool := nmbB (useS n.kind) n.slot g.slots && nmbB (useT n.kind) n.thing (thingsI u n) && vluB (useA n.kind) n.a g.slots && vluB (bif n.kind == 1 then two n.op else false) n.b g.slots && nmbB (useN n.kind) n.next g.nodes.length && nmbB (n.kind == 8) n.els g.nodes.length
def nodeB (u : Un) (g : Gr) (n : Nd) : Bool := bif rHead n then false else bif rOp n then false else rFields u g n
theorem within_num (p has k most : Int) : withinB p has k most = nmbB (andP p has != 0) k most := by
  unfold withinB nmbB
  cases h : (andP p has == 0) with
  | true => rw [show (andP p has != 0) = false by rw [bne, h]; rfl]; simp
  | false => rw [show (andP p has != 0) = true by rw [bne, h]; rfl]; simp
theorem value_val (p has : Int) (v : Val) (slots : Int) : valueB p has v slots = vluB (andP p has != 0) v slots := by
  unfold valueB vluB
  cases h : (andP p has == 0) with
  | true => rw [show (andP p has != 0) = false by rw [bne, h]; rfl]; simp
  | false => rw [show (andP p has != 0) = true by rw [bne, h]; rfl]; simp
theorem op_num {op : Int} (h : 0 ≤ op) : nmbB true op 19 = !decide (op ≥ 19) := by
  unfold nmbB
  rw [cond_true, decide_eq_true (show op ≥ 0 from h), Bool.true_and]
  by_cases q : op ≥ 19
  · rw [decide_eq_true q, decide_eq_false (by omega)]; rfl
  · rw [decide_eq_false q, decide_eq_true (by omega)]; rfl
theorem fields_num (u : Un) (g : Gr) (n : Nd) (p : Int) : fieldsR u g n p = (nmbB (andP p 1 != 0) n.op 19 && nmbB (andP p 2 != 0) n.slot g.slots && nmbB (andP p 4 != 0) n.thing (thingsI u n) && nmbB (andP p 32 != 0) n.next g.nodes.length && nmbB (andP p 64 != 0) n.els g.nodes.length && vluB (andP p 8 != 0) n.a g.slots && vluB (andP p 16 != 0) n.b g.slots) := by
  unfold fieldsR
  rw [within_num, within_num, within_num, within_num, within_num, value_val, value_val]
theorem and_six (o s t a b x e : Bool) : (o && s && t && x && e && a && b) = bif !o then false else (s && t && a && b && x && e) := by
  cases o <;> cases s <;> cases t <;> cases a <;> cases b <;> cases x <;> cases e <;> rfl
theorem node_right {u : Un} {g : Gr} {n : Nd} (hk0 : 0 ≤ n.kind) (hop : 0 ≤ n.op) : nodeB u g n = rightB u g n := by
  have hh : rHead n = headR n := by
    unfold rHead headR
    congr 3
    by_cases e : n.kind = 0
    · rw [e]; rfl
    · rw [beq_eq_false_iff_ne.2 e, decide_eq_false (by omega)]
  unfold nodeB rightB
  rw [hh]
  cases hd : headR n with
  | true => rfl
  | false =>
  rw [cond_false, cond_false, fields_num, and_six]
  have hk : n.kind = 1 ∨ n.kind = 2 ∨ n.kind = 3 ∨ n.kind = 4 ∨ n.kind = 5 ∨ n.kind = 6 ∨ n.kind = 7 ∨ n.kind = 8 ∨ n.kind = 9 := by
    unfold headR at hd
    simp only [Bool.or_eq_false_iff] at hd
    exact kinds hd.1.1.1 hd.1.1.2 hk0
  have ho0 : nmbB false n.op 19 = !(n.op != 0) := by unfold nmbB; simp [bne]
  have ho1 := op_num hop
  unfold rOp rFields
  generalize thingsI u n = th
  rcases hk with e | e | e | e | e | e | e | e | e <;> rw [e]
  · cases h2 : two n.op with
    | true =>
      rw [show partsI 1 n.op = 59 by unfold partsI; rw [h2]; rfl]
      show (bif (decide (n.op ≥ 19) || false) then false else _) = bif !(nmbB true n.op 19) then false else _
      rw [ho1, Bool.not_not, Bool.or_false]; rfl
    | false =>
      rw [show partsI 1 n.op = 43 by unfold partsI; rw [h2]; rfl]
      show (bif (decide (n.op ≥ 19) || false) then false else _) = bif !(nmbB true n.op 19) then false else _
      rw [ho1, Bool.not_not, Bool.or_false]; rfl
  · rw [show partsI 2 n.op = 38 from rfl]
    show (bif (false || (n.op != 0)) then false else _) = bif !(nmbB false n.op 19) then false else _
    rw [ho0, Bool.not_not, Bool.false_or]; rfl
  · rw [show partsI 3 n.op = 44 from rfl]
    show (bif (false || (n.op != 0)) then false else _) = bif !(nmbB false n.op 19) then false else _
    rw [ho0, Bool.not_not, Bool.false_or]; rfl
  · rw [show partsI 4 n.op = 46 from rfl]
    show (bif (false || (n.op != 0)) then false else _) = bif !(nmbB false n.op 19) then false else _
    rw [ho0, Bool.not_not, Bool.false_or]; rfl
  · rw [show partsI 5 n.op = 36 from rfl]
    show (bif (false || (n.op != 0)) then false else _) = bif !(nmbB false n.op 19) then false else _
    rw [ho0, Bool.not_not, Bool.false_or]; rfl
  · rw [show partsI 6 n.op = 36 from rfl]
    show (bif (false || (n.op != 0)) then false else _) = bif !(nmbB false n.op 19) then false else _
    rw [ho0, Bool.not_not, Bool.false_or]; rfl
  · rw [show partsI 7 n.op = 40 from rfl]
    show (bif (false || (n.op != 0)) then false else _) = bif !(nmbB false n.op 19) then false else _
    rw [ho0, Bool.not_not, Bool.false_or]; rfl
  · rw [show partsI 8 n.op = 104 from rfl]
    show (bif (false || (n.op != 0)) then false else _) = bif !(nmbB false n.op 19) then false else _
    rw [ho0, Bool.not_not, Bool.false_or]; rfl
  · rw [show partsI 9 n.op = 0 from rfl]
    show (bif (false || (n.op != 0)) then false else _) = bif !(nmbB false n.op 19) then false else _
    rw [ho0, Bool.not_not, Bool.false_or]; rfl
set_option maxRecDepth 100000 in
theorem k_number (n : Int) (used : Bool) (most : Int) : K 117 [.tr (ti n), .tr (tb used), .tr (ti most)] [] (.ret (.tr (tb (nmbB used n most)))) [] := by
  refine Ctr.of hT hmix Tryz.func117 rfl (fun _ _ => by kernel_rfl) rfl fun hok => ?_
  clear hok
  cases used with
  | false =>
    conv => whnf
    exact ⟨.inl rfl, trivial⟩
  | true =>
    conv => whnf
    cases h1 : decide (n ≥ 0) with
    | false =>
      conv => whnf
      exact ⟨.inl (congrArg tb (by unfold nmbB; rw [h1]; rfl)), trivial⟩
    | true =>
      conv => whnf
      exact ⟨.inl (congrArg tb (by unfold nmbB; rw [h1]; rfl)), trivial⟩
set_option maxRecDepth 100000 in
theorem k_rvalue (v : Val) (used : Bool) (slots : Int) : K 118 [.agg [.tr (tb v.s), .tr (ti v.k), .tr (ti v.w)], .tr (tb used), .tr (ti slots)] [] (.ret (.tr (tb (vluB used v slots)))) [] := by
  obtain ⟨s, k, w⟩ := v
  refine Ctr.of hT hmix Tryz.func118 rfl (fun _ _ => by kernel_rfl) rfl fun hok => ?_
  clear hok
  cases used with
  | false =>
    conv => whnf
    exact ⟨.inl rfl, trivial⟩
  | true =>
    cases s with
    | false =>
      conv => whnf
      exact ⟨.inl rfl, trivial⟩
    | true =>
      conv => whnf
      cases h1 : decide (k ≥ 0) with
      | false =>
        conv => whnf
        exact ⟨.inl (congrArg tb (by unfold vluB; simp only [h1, cond_true]; rfl)), trivial⟩
      | true =>
        conv => whnf
        cases h2 : decide (k < slots) with
        | false =>
          conv => whnf
          exact ⟨.inl (congrArg tb (by unfold vluB; simp only [h1, h2, cond_true]; rfl)), trivial⟩
        | true =>
          conv => whnf
          exact ⟨.inl (congrArg tb (by unfold vluB; simp only [h1, h2, cond_true]; rfl)), trivial⟩
set_option maxRecDepth 100000 in
theorem k_ruses (k : Int) : K 115 [.tr (tu k)] [] (.ret (.tup [.tr (tb (useS k)), .tr (tb (useT k)), .tr (tb (useA k)), .tr (tb (useN k))])) [] := by
  refine Ctr.of hT hmix Tryz.func115 rfl (fun _ _ => by kernel_rfl) rfl fun hok => ?_
  clear hok
  conv => whnf
  cases h1 : (k == 1) with
  | true =>
    obtain rfl := eq_of_beq h1
    conv => whnf
    exact ⟨⟨.inl rfl, .inl rfl, .inl rfl, .inl rfl, trivial⟩, trivial⟩
  | false =>
  conv => whnf
  cases h2 : (k == 2) with
  | true =>
    obtain rfl := eq_of_beq h2
    conv => whnf
    exact ⟨⟨.inl rfl, .inl rfl, .inl rfl, .inl rfl, trivial⟩, trivial⟩
  | false =>
  conv => whnf
  cases h3 : (k == 3) with
  | true =>
    obtain rfl := eq_of_beq h3
    conv => whnf
    exact ⟨⟨.inl rfl, .inl rfl, .inl rfl, .inl rfl, trivial⟩, trivial⟩
  | false =>
  conv => whnf
  cases h4 : (k == 4) with
  | true =>
    obtain rfl := eq_of_beq h4
    conv => whnf
    exact ⟨⟨.inl rfl, .inl rfl, .inl rfl, .inl rfl, trivial⟩, trivial⟩
  | false =>
  conv => whnf
  cases h5 : (k == 5) with
  | true =>
    obtain rfl := eq_of_beq h5
    conv => whnf
    exact ⟨⟨.inl rfl, .inl rfl, .inl rfl, .inl rfl, trivial⟩, trivial⟩
  | false =>
  conv => whnf
  cases h6 : (k == 6) with
  | true =>
    obtain rfl := eq_of_beq h6
    conv => whnf
    exact ⟨⟨.inl rfl, .inl rfl, .inl rfl, .inl rfl, trivial⟩, trivial⟩
  | false =>
  conv => whnf
  cases h7 : (k == 7) with
  | true =>
    obtain rfl := eq_of_beq h7
    conv => whnf
    exact ⟨⟨.inl rfl, .inl rfl, .inl rfl, .inl rfl, trivial⟩, trivial⟩
  | false =>
  conv => whnf
  cases h8 : (k == 8) with
  | true =>
    obtain rfl := eq_of_beq h8
    conv => whnf
    exact ⟨⟨.inl rfl, .inl rfl, .inl rfl, .inl rfl, trivial⟩, trivial⟩
  | false =>
    conv => whnf
    exact ⟨⟨.inl (congrArg tb (by unfold useS; rw [h1, h2, h4]; rfl)), .inl (congrArg tb (by unfold useT; rw [h2, h3, h4, h5, h6]; rfl)), .inl (congrArg tb (by unfold useA; rw [h1, h3, h4, h7, h8]; rfl)), .inl (congrArg tb (by unfold useN; rw [h1, h2, h3, h4, h5, h6, h7, h8]; rfl)), trivial⟩, trivial⟩
set_option maxRecDepth 100000 in
set_option maxHeartbeats 2000000 in
theorem k_node (u : Un) (g : Gr) (n : Nd) : K 72 [u.av, g.av, n.av] [] (.ret (.tr (tb (nodeB u g n)))) [] := by
  have hu := k_ruses n.kind
  have htw := k_rtwo n.op
  have hls : (u.shared.map Decl.cells).length = u.shared.length := List.length_map ..
  have hlk : (u.locks.map Decl.cells).length = u.locks.length := List.length_map ..
  have hln : (g.nodes.map Nd.cells).length = g.nodes.length := List.length_map ..
  refine Ctr.cut [7] hT hmix Tryz.func72 rfl (fun _ _ => by kernel_rfl) rfl fun hok => ?_
  clear hok
  conv => whnf
  cases h1 : decide (n.kind ≤ 0) with
  | true =>
    conv => whnf
    exact ⟨.inl (congrArg tb (by unfold nodeB rHead; rw [h1]; rfl)), trivial⟩
  | false =>
  conv => whnf
  cases h2 : decide (n.kind ≥ 10) with
  | true =>
    conv => whnf
    exact ⟨.inl (congrArg tb (by unfold nodeB rHead; rw [h1, h2]; rfl)), trivial⟩
  | false =>
  conv => whnf
  cases h3 : decide (n.origin < 0) with
  | true =>
    conv => whnf
    exact ⟨.inl (congrArg tb (by unfold nodeB rHead; rw [h1, h2, h3]; rfl)), trivial⟩
  | false =>
  conv => whnf
  cases h4 : decide (n.origin ≥ 4096) with
  | true =>
    conv => whnf
    exact ⟨.inl (congrArg tb (by unfold nodeB rHead; rw [h1, h2, h3, h4]; rfl)), trivial⟩
  | false =>
  conv => whnf
  have hR : nodeB u g n = bif rOp n then false else rFields u g n := by unfold nodeB rHead; rw [h1, h2, h3, h4]; rfl
  rw [hR]
  clear h1 h2 h3 h4 hR
  unfold rFields
  have hth : thingsI u n = bif n.kind == 5 then (u.locks.length : Int) else bif n.kind == 6 then (u.locks.length : Int) else (u.shared.length : Int) := rfl
  generalize thingsI u n = th at hth ⊢
  generalize useS n.kind = us at hu ⊢
  generalize useT n.kind = ut at hu ⊢
  generalize useA n.kind = ua at hu ⊢
  generalize useN n.kind = un at hu ⊢
  refine acall.pure _ (hu) rfl rfl fun _ => ?_
  conv => whnf
  refine CutL.by (fun _ : Unit => ⟨[(3, .ptr 0 0), (4, .ptr 1 0), (5, .ptr 2 0), (7, .tr (tb us)), (8, .tr (tb ut)), (9, .tr (tb ua)), (10, .tr (tb un)), (11, .tr (ti th))], [(0, .cells 29 [.tr (declsT u.shared), .tr (declsT u.locks), .tr (graphsT u.graphs)]), (1, grBl g), (2, ndcB n)], 10⟩) (fun _ => True) ?_ ?_
  · conv => whnf
    cases h5 : (n.kind == 5) with
    | true =>
      conv => whnf
      exact ⟨(), [_, _, _], [], Sub.mk' rfl ⟨⟨rfl, rfl⟩, ⟨rfl, rfl⟩, ⟨rfl, rfl⟩, .inl rfl, .inl rfl, .inl rfl, .inl rfl, .inl (congrArg ti (by rw [hth, h5, List.length_map]; rfl)), trivial⟩ ⟨⟨rfl, .inl rfl, .inl rfl, .inl rfl, trivial⟩, ⟨rfl, .inl rfl, .inl rfl, .inl rfl, .inl rfl, trivial⟩, ⟨rfl, .inl rfl, .inl rfl, .inl rfl, .inl rfl, .inl rfl, .inl rfl, .inl rfl, .inl rfl, .inl rfl, .inl rfl, .inl rfl, .inl rfl, .inl rfl, trivial⟩, trivial⟩ rfl rfl, trivial⟩
    | false =>
      conv => whnf
      cases h6 : (n.kind == 6) with
      | true =>
        conv => whnf
        exact ⟨(), [_, _, _], [], Sub.mk' rfl ⟨⟨rfl, rfl⟩, ⟨rfl, rfl⟩, ⟨rfl, rfl⟩, .inl rfl, .inl rfl, .inl rfl, .inl rfl, .inl (congrArg ti (by rw [hth, h5, h6, List.length_map]; rfl)), trivial⟩ ⟨⟨rfl, .inl rfl, .inl rfl, .inl rfl, trivial⟩, ⟨rfl, .inl rfl, .inl rfl, .inl rfl, .inl rfl, trivial⟩, ⟨rfl, .inl rfl, .inl rfl, .inl rfl, .inl rfl, .inl rfl, .inl rfl, .inl rfl, .inl rfl, .inl rfl, .inl rfl, .inl rfl, .inl rfl, .inl rfl, trivial⟩, trivial⟩ rfl rfl, trivial⟩
      | false =>
        conv => whnf
        exact ⟨(), [_, _, _], [], Sub.mk' rfl ⟨⟨rfl, rfl⟩, ⟨rfl, rfl⟩, ⟨rfl, rfl⟩, .inl rfl, .inl rfl, .inl rfl, .inl rfl, .inl (congrArg ti (by rw [hth, h5, h6, List.length_map]; rfl)), trivial⟩ ⟨⟨rfl, .inl rfl, .inl rfl, .inl rfl, trivial⟩, ⟨rfl, .inl rfl, .inl rfl, .inl rfl, .inl rfl, trivial⟩, ⟨rfl, .inl rfl, .inl rfl, .inl rfl, .inl rfl, .inl rfl, .inl rfl, .inl rfl, .inl rfl, .inl rfl, .inl rfl, .inl rfl, .inl rfl, .inl rfl, trivial⟩, trivial⟩ rfl rfl, trivial⟩
  rintro - - -
  clear hth hu
  conv => whnf
  obtain ⟨bb, hbb⟩ : ∃ b, (bif n.kind == 1 then two n.op else false) = b := ⟨_, rfl⟩
  rw [hbb]
  have hRO : rOp n = ((bif n.kind == 1 then decide (n.op ≥ 19) else false) || (bif n.kind != 1 then n.op != 0 else false)) := rfl
  generalize rOp n = ro at hRO ⊢
  have hb1 : (n.kind != 1) = !(n.kind == 1) := rfl
  rw [hb1] at hRO
  cases h1 : (n.kind == 1) with
  | true =>
    rw [h1] at hRO hb1
    conv => whnf
    cases h2 : decide (n.op ≥ 19) with
    | true =>
      have : ro = true := by rw [hRO, h2]; rfl
      subst this
      conv => whnf
      exact ⟨.inl rfl, trivial⟩
    | false =>
      have : ro = false := by rw [hRO, h2]; rfl
      subst this
      rw [h1] at hbb
      have htw : K 116 [.tr (tu n.op)] [] (.ret (.tr (tb bb))) [] := by rw [← hbb]; exact htw
      conv => whnf
      rw [hb1]
      conv => whnf
      rw [h1]
      conv => whnf
      refine acall.pure _ (htw) rfl rfl fun _ => ?_
      conv => whnf
      have c1 := k_number n.slot us g.slots
      have c2 := k_number n.thing ut th
      have c3 := k_rvalue n.a ua g.slots
      have c4 := k_rvalue n.b bb g.slots
      have c5 := k_number n.next un g.nodes.length
      have c6 := k_number n.els (n.kind == 8) g.nodes.length
      generalize nmbB us n.slot g.slots = q1 at c1 ⊢
      generalize nmbB ut n.thing th = q2 at c2 ⊢
      generalize vluB ua n.a g.slots = q3 at c3 ⊢
      generalize vluB bb n.b g.slots = q4 at c4 ⊢
      generalize nmbB un n.next g.nodes.length = q5 at c5 ⊢
      generalize nmbB (n.kind == 8) n.els g.nodes.length = q6 at c6 ⊢
      rw [← hln] at c5 c6
      refine acall.pure _ (c1) rfl rfl fun _ => ?_
      conv => whnf
      cases q1 with
      | false =>
        conv => whnf
        exact ⟨.inl rfl, trivial⟩
      | true =>
      conv => whnf
      refine acall.pure _ (c2) rfl rfl fun _ => ?_
      conv => whnf
      cases q2 with
      | false =>
        conv => whnf
        exact ⟨.inl rfl, trivial⟩
      | true =>
      conv => whnf
      refine acall.pure _ (c3) rfl rfl fun _ => ?_
      conv => whnf
      cases q3 with
      | false =>
        conv => whnf
        exact ⟨.inl rfl, trivial⟩
      | true =>
      conv => whnf
      refine acall.pure _ (c4) rfl rfl fun _ => ?_
      conv => whnf
      cases q4 with
      | false =>
        conv => whnf
        exact ⟨.inl rfl, trivial⟩
      | true =>
      conv => whnf
      refine acall.pure _ (c5) rfl rfl fun _ => ?_
      conv => whnf
      cases q5 with
      | false =>
        conv => whnf
        exact ⟨.inl rfl, trivial⟩
      | true =>
      conv => whnf
      refine acall.pure _ (c6) rfl rfl fun _ => ?_
      conv => whnf
      exact ⟨.inl rfl, trivial⟩
  | false =>
    rw [h1] at hRO hb1
    conv => whnf
    rw [hb1]
    conv => whnf
    cases h2 : (n.op != 0) with
    | true =>
      have : ro = true := by rw [hRO, h2]; rfl
      subst this
      conv => whnf
      exact ⟨.inl rfl, trivial⟩
    | false =>
      have : ro = false := by rw [hRO, h2]; rfl
      subst this
      have : bb = false := by rw [← hbb, h1]; rfl
      subst this
      conv => whnf
      rw [h1]
      conv => whnf
      have c1 := k_number n.slot us g.slots
      have c2 := k_number n.thing ut th
      have c3 := k_rvalue n.a ua g.slots
      have c4 := k_rvalue n.b false g.slots
      have c5 := k_number n.next un g.nodes.length
      have c6 := k_number n.els (n.kind == 8) g.nodes.length
      generalize nmbB us n.slot g.slots = q1 at c1 ⊢
      generalize nmbB ut n.thing th = q2 at c2 ⊢
      generalize vluB ua n.a g.slots = q3 at c3 ⊢
      generalize vluB false n.b g.slots = q4 at c4 ⊢
      generalize nmbB un n.next g.nodes.length = q5 at c5 ⊢
      generalize nmbB (n.kind == 8) n.els g.nodes.length = q6 at c6 ⊢
      rw [← hln] at c5 c6
      refine acall.pure _ (c1) rfl rfl fun _ => ?_
      conv => whnf
      cases q1 with
      | false =>
        conv => whnf
        exact ⟨.inl rfl, trivial⟩
      | true =>
      conv => whnf
      refine acall.pure _ (c2) rfl rfl fun _ => ?_
      conv => whnf
      cases q2 with
      | false =>
        conv => whnf
        exact ⟨.inl rfl, trivial⟩
      | true =>
      conv => whnf
      refine acall.pure _ (c3) rfl rfl fun _ => ?_
      conv => whnf
      cases q3 with
      | false =>
        conv => whnf
        exact ⟨.inl rfl, trivial⟩
      | true =>
      conv => whnf
      refine acall.pure _ (c4) rfl rfl fun _ => ?_
      conv => whnf
      cases q4 with
      | false =>
        conv => whnf
        exact ⟨.inl rfl, trivial⟩
      | true =>
      conv => whnf
      refine acall.pure _ (c5) rfl rfl fun _ => ?_
      conv => whnf
      cases q5 with
      | false =>
        conv => whnf
        exact ⟨.inl rfl, trivial⟩
      | true =>
      conv => whnf
      refine acall.pure _ (c6) rfl rfl fun _ => ?_
      conv => whnf
      exact ⟨.inl rfl, trivial⟩
end Go.Proofs.YthboippafkcoiaaGreatDoor.am

namespace Go.Proofs.YthboippafkcoiaaGreatDoor.am
open Go Go.Proofs
set_option linter.all false

def nmP (s x : ByteArray) : Bool := !(x.toList == s.toList)
def nmHead (words : Bool) (d : Decl) : Bool := nameB d.name && (words || d.word == 0)
def nmOne (words : Bool) (ah : List ByteArray) (d : Decl) : Bool := nmHead words d && ah.all (nmP d.name)
def nmR (words : Bool) : List ByteArray → List Decl → List ByteArray × Bool
  | ah, [] => (ah, true)
  | ah, d :: r => bif nmOne words ah d then nmR words (ah ++ [d.name]) r else ([], false)
theorem nmR_nil (words : Bool) (ah : List ByteArray) : nmR words ah [] = (ah, true) := rfl
theorem nmR_cons (words : Bool) (ah : List ByteArray) (d : Decl) (r : List Decl) : nmR words ah (d :: r) = bif nmOne words ah d then nmR words (ah ++ [d.name]) r else ([], false) := rfl
/-! the same as the program's -/
theorem hasS_any : ∀ (l : List ByteArray) (s : ByteArray), hasS l s = l.any fun x => s.toList == x.toList
  | [], _ => rfl
  | x :: r, s => by
    show (bif s.toList == x.toList then true else hasS r s) = ((s.toList == x.toList) || r.any fun x => s.toList == x.toList)
    rw [hasS_any r s]
    cases (s.toList == x.toList) <;> rfl
theorem addS_new : ∀ (l : List ByteArray) (s : ByteArray), hasS l s = false → addS l s = l ++ [s]
  | [], _, _ => rfl
  | x :: r, s, h => by
    change (bif s.toList == x.toList then true else hasS r s) = false at h
    show (bif s.toList == x.toList then s :: r else x :: addS r s) = _
    cases hb : (s.toList == x.toList) with
    | true => rw [hb] at h; cases h
    | false =>
      rw [hb] at h
      rw [cond_false, addS_new r s h]; rfl
theorem all_has (l : List ByteArray) (s : ByteArray) : l.all (nmP s) = !hasS l s := by
  rw [hasS_any]
  induction l with
  | nil => rfl
  | cons x r ih =>
    rw [List.all_cons, List.any_cons, ih, Bool.not_or]
    congr 1
    unfold nmP
    congr 1
    by_cases e : x.toList = s.toList
    · rw [e]
    · rw [beq_eq_false_iff_ne.2 e, beq_eq_false_iff_ne.2 (fun w => e w.symm)]
theorem nmOne_add (words : Bool) (ah : List ByteArray) (d : Decl) : nmOne words ah d = (addB ah d.name && (words || d.word == 0)) := by
  unfold nmOne nmHead addB
  rw [all_has]
  cases nameB d.name <;> cases (words || d.word == 0) <;> cases hasS ah d.name <;> rfl
theorem addB_has {ah : List ByteArray} {s : ByteArray} (h : addB ah s = true) : addS ah s = ah ++ [s] := by
  refine addS_new _ _ ?_
  unfold addB at h
  cases hh : hasS ah s with
  | false => rfl
  | true => rw [hh] at h; simp at h
def thr (g : Gr) : Decl := ⟨g.name, 0, 0⟩
theorem nm3_r : ∀ (gs : List Gr) (ah : List ByteArray), nm3 ah gs = (nmR false ah (gs.map thr)).2
  | [], _ => rfl
  | g :: r, ah => by
    rw [List.map_cons, nmR_cons, nmOne_add]
    show (bif addB ah g.name then nm3 (addS ah g.name) r else false) = _
    cases h : addB ah g.name with
    | false =>
      have hg : (thr g).name = g.name := rfl
      rw [hg, h]; rfl
    | true =>
      rw [cond_true, addB_has h, nm3_r r]
      have hg : (thr g).name = g.name := rfl
      rw [hg, h]; rfl
theorem nm2_r (gs : List Gr) : ∀ (ks : List Decl) (ah : List ByteArray), nm2 gs ah ks = ((nmR false ah ks).2 && (nmR false (nmR false ah ks).1 (gs.map thr)).2)
  | [], ah => by
    show nm3 ah gs = _
    rw [nm3_r]; rfl
  | d :: r, ah => by
    rw [nmR_cons, nmOne_add]
    show (bif addB ah d.name then (bif d.word != 0 then false else nm2 gs (addS ah d.name) r) else false) = _
    cases h : addB ah d.name with
    | false => rfl
    | true =>
      rw [cond_true, addB_has h, nm2_r gs r, Bool.true_and, Bool.false_or]
      cases hw : (d.word == 0) with
      | true => rw [show (d.word != 0) = false by rw [bne, hw]; rfl]; rfl
      | false => rw [show (d.word != 0) = true by rw [bne, hw]; rfl]; rfl
theorem nm1_r (ks : List Decl) (gs : List Gr) : ∀ (l : List Decl) (ah : List ByteArray), nm1 ks gs ah l = ((nmR true ah l).2 && ((nmR false (nmR true ah l).1 ks).2 && (nmR false (nmR false (nmR true ah l).1 ks).1 (gs.map thr)).2))
  | [], ah => by
    show nm2 gs ah ks = _
    rw [nm2_r]; rfl
  | d :: r, ah => by
    rw [nmR_cons, nmOne_add]
    show (bif addB ah d.name then nm1 ks gs (addS ah d.name) r else false) = _
    cases h : addB ah d.name with
    | false => rfl
    | true => rw [cond_true, addB_has h, nm1_r ks gs r]; rfl
theorem nmR_len (words : Bool) : ∀ (l : List Decl) (ah : List ByteArray), (nmR words ah l).1.length ≤ ah.length + l.length
  | [], ah => Nat.le_refl _
  | d :: r, ah => by
    rw [nmR_cons]
    cases nmOne words ah d with
    | false => exact Nat.zero_le _
    | true =>
      have := nmR_len words r (ah ++ [d.name])
      rw [List.length_append] at this
      rw [cond_true, List.length_cons]
      simp only [List.length_cons, List.length_nil] at this
      omega
/-! the walk -/
def srow (s : ByteArray) : List Tr := [ts s]
abbrev nmsB (l : List ByteArray) : Blk := .vec 9 1 16 (l.map srow)
theorem srow_get {l : List ByteArray} {i : Nat} {row : List Tr} (h : (l.map srow)[i]? = some row) : ∃ d, l[i]? = some d ∧ row = srow d := by
  rw [List.getElem?_map, Option.map_eq_some_iff] at h
  obtain ⟨d, h1, rfl⟩ := h
  exact ⟨d, h1, rfl⟩
theorem srow_app {l : List ByteArray} (x : ByteArray) : (l.map srow).take l.length ++ [[ts x]] = (l ++ [x]).map srow := by
  rw [List.map_append, List.take_of_length_le (by rw [List.length_map]; exact Nat.le_refl _)]; rfl
theorem all_snoc {p : ByteArray → Bool} {l : List ByteArray} {k : Nat} {x : ByteArray} (h : l[k]? = some x) : (l.take (k + 1)).all p = ((l.take k).all p && p x) := by
  rw [List.take_succ, h, List.all_append]; simp
abbrev nmS (l : List Decl) (words : Bool) (h n i : Nat) (r : List (Nat × AV)) : List (Nat × AV) := (0, .tr (declsT l)) :: (1, .sl h n) :: (2, .tr (tb words)) :: (8, .tr (ti (i : Nat))) :: r

set_option maxRecDepth 100000 in
set_option maxHeartbeats 2000000 in
theorem k_namedN (l : List Decl) (words : Bool) (hl : l.length ≤ 1000000) : K 71 [.tr (declsT l), nilA, .tr (tb words)] [] (.ret (.tup [.sl 0 (nmR words [] l).1.length, .tr (tb (nmR words [] l).2)])) [some (nmsB (nmR words [] l).1)] := by
  obtain ⟨R, hR⟩ : ∃ R, R = nmR words [] l := ⟨_, rfl⟩
  rw [← hR]
  have hlc : (l.map Decl.cells).length = l.length := List.length_map ..
  refine Ctr.new [0, 5] hT hmix Tryz.func71 rfl (fun _ _ => by kernel_rfl) rfl fun hok => ?_
  clear hok
  conv => whnf
  refine LoopL.by (fun x : List ByteArray × Nat => ⟨nmS l words 0 x.1.length x.2 [], [(0, nmsB x.1)], 10⟩) (fun x => x.2 ≤ l.length ∧ R = nmR words x.1 (l.drop x.2) ∧ x.1.length + (l.length - x.2) ≤ 1000000) (fun x => l.length - x.2) ([], 0) [] [0]
    (Sub.mk' rfl ⟨.inl rfl, ⟨rfl, rfl, rfl, rfl⟩, .inl rfl, .inl rfl, trivial⟩ ⟨⟨rfl, _, _, _, rfl, by decide⟩, trivial⟩ rfl rfl) ⟨Nat.zero_le _, hR, by show 0 + (l.length - 0) ≤ 1000000; omega⟩ ?_
  clear hR
  rintro ⟨ah, i⟩ ⟨hi, hR, hb⟩ -
  simp only at hi hR hb
  conv => whnf
  refine csplit (fun hit => ?_) (fun hit => ?_)
  · replace hit : i < l.length := by have : decide ((i : Int) < ((l.map Decl.cells).length : Int)) = true := hit; have := of_decide_eq_true this; omega
    obtain ⟨d, hd⟩ : ∃ d, l[i]? = some d := ⟨_, List.getElem?_eq_getElem hit⟩
    rw [drop_cons hd, nmR_cons] at hR
    have hnm := k47 d.name
    obtain ⟨dn, dw, da⟩ := d
    obtain ⟨q, hq⟩ : ∃ q, nmHead words ⟨dn, dw, da⟩ = q := ⟨_, rfl⟩
    have hR2 : R = bif (q && ah.all (nmP dn)) then nmR words (ah ++ [dn]) (l.drop (i + 1)) else ([], false) := by rw [hR]; unfold nmOne; rw [hq]
    clear hR
    conv => whnf
    refine CutL.by (fun _ : Unit => ⟨nmS l words 0 ah.length i [(9, .tr (tb q))], [(0, nmsB ah)], 10⟩) (fun _ => True) ?_ ?_
    · conv => whnf
      refine ⟨rfl, (show (0 : Int) ≤ i by omega), (show (i : Int) < ((l.map Decl.cells).length : Int) by omega), fun row hrow => ?_⟩
      obtain ⟨d', hd', rfl⟩ := decl_get hrow
      obtain rfl := Option.some.inj (hd.symm.trans hd')
      clear hrow hd'
      conv => whnf
      refine acall.pure _ (hnm) rfl rfl fun _ => ?_
      conv => whnf
      unfold nmHead at hq
      cases hnb : nameB dn with
      | false =>
        have hq : q = false := by rw [← hq, hnb]; rfl
        subst hq
        conv => whnf
        exact ⟨(), [0], [], Sub.mk' rfl ⟨.inl rfl, ⟨rfl, rfl⟩, .inl rfl, .inl rfl, .inl rfl, trivial⟩ ⟨⟨rfl, rfl, rfl, rfl⟩, trivial⟩ rfl rfl, trivial⟩
      | true =>
        cases words with
        | true =>
          have hq : q = true := by rw [← hq, hnb]; rfl
          subst hq
          conv => whnf
          exact ⟨(), [0], [], Sub.mk' rfl ⟨.inl rfl, ⟨rfl, rfl⟩, .inl rfl, .inl rfl, .inl rfl, trivial⟩ ⟨⟨rfl, rfl, rfl, rfl⟩, trivial⟩ rfl rfl, trivial⟩
        | false =>
          have hq : q = (dw == 0) := by rw [← hq, hnb]; rfl
          conv => whnf
          refine ⟨rfl, (show (0 : Int) ≤ i by omega), (show (i : Int) < ((l.map Decl.cells).length : Int) by omega), fun row hrow => ?_⟩
          obtain ⟨d', hd', rfl⟩ := decl_get hrow
          obtain rfl := Option.some.inj (hd.symm.trans hd')
          clear hrow hd'
          conv => whnf
          exact ⟨(), [0], [], Sub.mk' rfl ⟨.inl rfl, ⟨rfl, rfl⟩, .inl rfl, .inl rfl, .inl (by rw [hq]), trivial⟩ ⟨⟨rfl, rfl, rfl, rfl⟩, trivial⟩ rfl rfl, trivial⟩
    rintro - - -
    clear hq hnm
    conv => whnf
    refine LoopL.by (fun k : Nat => ⟨nmS l words 0 ah.length i [(9, .tr (tb (q && (ah.take k).all (nmP dn)))), (10, .tr (ti (k : Nat)))], [(0, nmsB ah)], 10⟩) (fun k => k ≤ ah.length) (fun k => ah.length - k) 0 [0] []
      (Sub.mk' rfl ⟨.inl rfl, ⟨rfl, rfl⟩, .inl rfl, .inl rfl, .inl (by simp), .inl rfl, trivial⟩ ⟨⟨rfl, rfl, rfl, rfl⟩, trivial⟩ rfl rfl) (Nat.zero_le _) ?_
    rintro k hk -
    conv => whnf
    refine csplit (fun hkt => ?_) (fun hkt => ?_)
    · replace hkt : k < ah.length := by have : decide ((k : Int) < (ah.length : Int)) = true := hkt; have := of_decide_eq_true this; omega
      obtain ⟨x, hx⟩ : ∃ x, ah[k]? = some x := ⟨_, List.getElem?_eq_getElem hkt⟩
      have hsn := all_snoc (p := nmP dn) hx
      cases ho : (q && (ah.take k).all (nmP dn)) with
      | false =>
        have ho2 : (q && (ah.take (k + 1)).all (nmP dn)) = false := by rw [hsn, ← Bool.and_assoc, ho]; rfl
        conv => whnf
        refine ⟨by kernel_rfl, fun _ => ?_⟩
        conv => whnf
        exact ⟨k + 1, [0], [], Sub.mk' rfl ⟨.inl rfl, ⟨rfl, rfl⟩, .inl rfl, .inl rfl, .inl (by rw [ho2]), .inl (ti_succ hkt (by omega)), trivial⟩ ⟨⟨rfl, rfl, rfl, rfl⟩, trivial⟩ rfl rfl, hkt, by show ah.length - (k + 1) < ah.length - k; omega⟩
      | true =>
        have ho2 : (q && (ah.take (k + 1)).all (nmP dn)) = !(x.toList == dn.toList) := by rw [hsn, ← Bool.and_assoc, ho]; rfl
        conv => whnf
        refine ⟨rfl, (show (0 : Int) ≤ k by omega), (show (k : Int) < (ah.length : Int) by omega), ?_⟩
        conv => whnf
        refine ⟨rfl, (by show k < (ah.map srow).length; rw [List.length_map]; exact hkt), fun row hrow => ?_⟩
        obtain ⟨d', hd', rfl⟩ := srow_get hrow
        obtain rfl := Option.some.inj (hx.symm.trans hd')
        clear hrow hd'
        refine ⟨(show 0 < 1 by decide), fun t ht => ?_⟩
        cases ht
        conv => whnf
        refine ⟨rfl, (show (0 : Int) ≤ i by omega), (show (i : Int) < ((l.map Decl.cells).length : Int) by omega), fun row hrow => ?_⟩
        obtain ⟨d', hd', rfl⟩ := decl_get hrow
        obtain rfl := Option.some.inj (hd.symm.trans hd')
        clear hrow hd'
        conv => whnf
        refine ⟨by kernel_rfl, fun _ => ?_⟩
        conv => whnf
        exact ⟨k + 1, [0], [], Sub.mk' rfl ⟨.inl rfl, ⟨rfl, rfl⟩, .inl rfl, .inl rfl, .inl (by rw [ho2]), .inl (ti_succ hkt (by omega)), trivial⟩ ⟨⟨rfl, rfl, rfl, rfl⟩, trivial⟩ rfl rfl, hkt, by show ah.length - (k + 1) < ah.length - k; omega⟩
    · replace hkt : ah.length ≤ k := by have : decide ((k : Int) < (ah.length : Int)) = false := hkt; have := of_decide_eq_false this; omega
      rw [List.take_of_length_le hkt]
      cases ho : (q && ah.all (nmP dn)) with
      | false =>
        rw [ho] at hR2
        have hR3 : R = ([], false) := hR2
        subst hR3
        conv => whnf
        refine ⟨fun _ => ?_, fun h => absurd rfl h⟩
        conv => whnf
        refine CutL.by (fun _ : Unit => ⟨[(6, .sl 0 0), (7, .tr (tb false))], [(0, nmsB [])], 10⟩) (fun _ => True) ?_ ?_
        · conv => whnf
          exact ⟨(), [], [0], Sub.mk' rfl ⟨⟨rfl, rfl, rfl, rfl⟩, .inl rfl, trivial⟩ ⟨⟨rfl, _, _, _, rfl, by decide⟩, trivial⟩ rfl rfl, trivial⟩
        · rintro - - -
          conv => whnf
          exact ⟨[0], rfl, rfl, ⟨⟨rfl, rfl⟩, .inl rfl, trivial⟩, ⟨rfl, rfl, rfl, rfl⟩, trivial⟩
      | true =>
        rw [ho, cond_true] at hR2
        have hda := srow_app (l := ah) dn
        have hlen2 : (ah ++ [dn]).length = ah.length + 1 := by rw [List.length_append]; rfl
        conv => whnf
        refine ⟨fun _ => ?_, fun h => absurd rfl h⟩
        conv => whnf
        refine ⟨rfl, (show (0 : Int) ≤ i by omega), (show (i : Int) < ((l.map Decl.cells).length : Int) by omega), fun row hrow => ?_⟩
        obtain ⟨d', hd', rfl⟩ := decl_get hrow
        obtain rfl := Option.some.inj (hd.symm.trans hd')
        clear hrow hd'
        conv => whnf
        refine ⟨rfl, rfl, rfl, (by rw [List.length_map]; exact Nat.le_refl _), (show (ah.length + 1) * 16 ≤ 150000000000000 by omega), fun q hq => ?_, ?_⟩
        · cases hq with
          | head => exact Nat.ne_of_beq_eq_false rfl
          | tail _ h => cases h
        conv => whnf
        exact ⟨(ah ++ [dn], i + 1), [_], [], Sub.mk' rfl ⟨.inl rfl, ⟨rfl, hlen2.symm⟩, .inl rfl, .inl (ti_succ hit (by omega)), trivial⟩ ⟨⟨rfl, rfl, rfl, hda⟩, trivial⟩ rfl rfl, ⟨hit, hR2, by show (ah ++ [dn]).length + (l.length - (i + 1)) ≤ 1000000; omega⟩, by show l.length - (i + 1) < l.length - i; omega⟩
  · replace hit : i = l.length := by have : decide ((i : Int) < ((l.map Decl.cells).length : Int)) = false := hit; have := of_decide_eq_false this; omega
    subst hit
    rw [List.drop_length, nmR_nil] at hR
    subst hR
    conv => whnf
    refine ⟨fun _ => ?_, fun h => absurd rfl h⟩
    conv => whnf
    refine CutL.by (fun _ : Unit => ⟨[(6, .sl 0 ah.length), (7, .tr (tb true))], [(0, nmsB ah)], 10⟩) (fun _ => True) ?_ ?_
    · conv => whnf
      exact ⟨(), [0], [], Sub.mk' rfl ⟨⟨rfl, rfl⟩, .inl rfl, trivial⟩ ⟨⟨rfl, rfl, rfl, rfl⟩, trivial⟩ rfl rfl, trivial⟩
    · rintro - - -
      conv => whnf
      exact ⟨[0], rfl, rfl, ⟨⟨rfl, rfl⟩, .inl rfl, trivial⟩, ⟨rfl, rfl, rfl, rfl⟩, trivial⟩
set_option maxRecDepth 100000 in
theorem k_named0 (words : Bool) (ah : List ByteArray) : K 71 [.tr (declsT []), .sl 0 ah.length, .tr (tb words)] [nmsB ah] (.ret (.tup [.sl 0 ah.length, .tr (tb true)])) [some (nmsB ah)] := by
  refine Ctr.of hT hmix Tryz.func71 rfl (fun _ _ => by kernel_rfl) rfl fun hok => ?_
  clear hok
  conv => whnf
  refine .inl ⟨1, ?_⟩
  conv => whnf
  refine ⟨fun _ => ?_, fun h => absurd rfl h⟩
  conv => whnf
  exact ⟨⟨⟨rfl, rfl⟩, .inl rfl, trivial⟩, ⟨rfl, rfl, rfl, rfl⟩, trivial⟩
set_option maxRecDepth 100000 in
set_option maxHeartbeats 2000000 in
theorem k_namedA (l : List Decl) (words : Bool) (ah0 : List ByteArray) (hl : ah0.length + l.length ≤ 1000000) (hne : l ≠ []) : K 71 [.tr (declsT l), .sl 0 ah0.length, .tr (tb words)] [nmsB ah0] (.ret (.tup [.sl 1 (nmR words ah0 l).1.length, .tr (tb (nmR words ah0 l).2)])) [none, some (nmsB (nmR words ah0 l).1)] := by
  obtain ⟨R, hR⟩ : ∃ R, R = nmR words ah0 l := ⟨_, rfl⟩
  rw [← hR]
  have hlc : (l.map Decl.cells).length = l.length := List.length_map ..
  refine Ctr.new [0, 5] hT hmix Tryz.func71 rfl (fun _ _ => by kernel_rfl) rfl fun hok => ?_
  clear hok
  conv => whnf
  refine LoopL.by (fun x : Bool × List ByteArray × Nat => match x.1 with
    | true => ⟨nmS l words 1 x.2.1.length x.2.2 [], [(1, nmsB x.2.1)], 10⟩
    | false => ⟨nmS l words 0 x.2.1.length x.2.2 [], [(0, nmsB x.2.1)], 10⟩) (fun x => x.2.2 ≤ l.length ∧ R = nmR words x.2.1 (l.drop x.2.2) ∧ x.2.1.length + (l.length - x.2.2) ≤ 1000000 ∧ (x.1 = false → x.2.2 = 0)) (fun x => l.length - x.2.2) (false, ah0, 0) [0] []
    (Sub.mk' rfl ⟨.inl rfl, ⟨rfl, rfl⟩, .inl rfl, .inl rfl, trivial⟩ ⟨⟨rfl, rfl, rfl, rfl⟩, trivial⟩ rfl rfl) ⟨Nat.zero_le _, hR, by show ah0.length + (l.length - 0) ≤ 1000000; omega, fun _ => rfl⟩ ?_
  clear hR
  rintro ⟨m, ah, i⟩ ⟨hi, hR, hb, hm⟩ -
  simp only at hi hR hb hm
  cases m
  case true =>
    conv => whnf
    refine csplit (fun hit => ?_) (fun hit => ?_)
    · replace hit : i < l.length := by have : decide ((i : Int) < ((l.map Decl.cells).length : Int)) = true := hit; have := of_decide_eq_true this; omega
      obtain ⟨d, hd⟩ : ∃ d, l[i]? = some d := ⟨_, List.getElem?_eq_getElem hit⟩
      rw [drop_cons hd, nmR_cons] at hR
      have hnm := k47 d.name
      obtain ⟨dn, dw, da⟩ := d
      obtain ⟨q, hq⟩ : ∃ q, nmHead words ⟨dn, dw, da⟩ = q := ⟨_, rfl⟩
      have hR2 : R = bif (q && ah.all (nmP dn)) then nmR words (ah ++ [dn]) (l.drop (i + 1)) else ([], false) := by rw [hR]; unfold nmOne; rw [hq]
      clear hR
      conv => whnf
      refine CutL.by (fun _ : Unit => ⟨nmS l words 1 ah.length i [(9, .tr (tb q))], [(1, nmsB ah)], 10⟩) (fun _ => True) ?_ ?_
      · conv => whnf
        refine ⟨rfl, (show (0 : Int) ≤ i by omega), (show (i : Int) < ((l.map Decl.cells).length : Int) by omega), fun row hrow => ?_⟩
        obtain ⟨d', hd', rfl⟩ := decl_get hrow
        obtain rfl := Option.some.inj (hd.symm.trans hd')
        clear hrow hd'
        conv => whnf
        refine acall.pure _ (hnm) rfl rfl fun _ => ?_
        conv => whnf
        unfold nmHead at hq
        cases hnb : nameB dn with
        | false =>
          have hq : q = false := by rw [← hq, hnb]; rfl
          subst hq
          conv => whnf
          exact ⟨(), [0, 1], [], Sub.mk' rfl ⟨.inl rfl, ⟨rfl, rfl⟩, .inl rfl, .inl rfl, .inl rfl, trivial⟩ ⟨⟨rfl, rfl, rfl, rfl⟩, trivial⟩ rfl rfl, trivial⟩
        | true =>
          cases words with
          | true =>
            have hq : q = true := by rw [← hq, hnb]; rfl
            subst hq
            conv => whnf
            exact ⟨(), [0, 1], [], Sub.mk' rfl ⟨.inl rfl, ⟨rfl, rfl⟩, .inl rfl, .inl rfl, .inl rfl, trivial⟩ ⟨⟨rfl, rfl, rfl, rfl⟩, trivial⟩ rfl rfl, trivial⟩
          | false =>
            have hq : q = (dw == 0) := by rw [← hq, hnb]; rfl
            conv => whnf
            refine ⟨rfl, (show (0 : Int) ≤ i by omega), (show (i : Int) < ((l.map Decl.cells).length : Int) by omega), fun row hrow => ?_⟩
            obtain ⟨d', hd', rfl⟩ := decl_get hrow
            obtain rfl := Option.some.inj (hd.symm.trans hd')
            clear hrow hd'
            conv => whnf
            exact ⟨(), [0, 1], [], Sub.mk' rfl ⟨.inl rfl, ⟨rfl, rfl⟩, .inl rfl, .inl rfl, .inl (by rw [hq]), trivial⟩ ⟨⟨rfl, rfl, rfl, rfl⟩, trivial⟩ rfl rfl, trivial⟩
      rintro - - -
      clear hq hnm
      conv => whnf
      refine LoopL.by (fun k : Nat => ⟨nmS l words 1 ah.length i [(9, .tr (tb (q && (ah.take k).all (nmP dn)))), (10, .tr (ti (k : Nat)))], [(1, nmsB ah)], 10⟩) (fun k => k ≤ ah.length) (fun k => ah.length - k) 0 [0, 1] []
        (Sub.mk' rfl ⟨.inl rfl, ⟨rfl, rfl⟩, .inl rfl, .inl rfl, .inl (by simp), .inl rfl, trivial⟩ ⟨⟨rfl, rfl, rfl, rfl⟩, trivial⟩ rfl rfl) (Nat.zero_le _) ?_
      rintro k hk -
      conv => whnf
      refine csplit (fun hkt => ?_) (fun hkt => ?_)
      · replace hkt : k < ah.length := by have : decide ((k : Int) < (ah.length : Int)) = true := hkt; have := of_decide_eq_true this; omega
        obtain ⟨x, hx⟩ : ∃ x, ah[k]? = some x := ⟨_, List.getElem?_eq_getElem hkt⟩
        have hsn := all_snoc (p := nmP dn) hx
        cases ho : (q && (ah.take k).all (nmP dn)) with
        | false =>
          have ho2 : (q && (ah.take (k + 1)).all (nmP dn)) = false := by rw [hsn, ← Bool.and_assoc, ho]; rfl
          conv => whnf
          refine ⟨by kernel_rfl, fun _ => ?_⟩
          conv => whnf
          exact ⟨k + 1, [0, 1], [], Sub.mk' rfl ⟨.inl rfl, ⟨rfl, rfl⟩, .inl rfl, .inl rfl, .inl (by rw [ho2]), .inl (ti_succ hkt (by omega)), trivial⟩ ⟨⟨rfl, rfl, rfl, rfl⟩, trivial⟩ rfl rfl, hkt, by show ah.length - (k + 1) < ah.length - k; omega⟩
        | true =>
          have ho2 : (q && (ah.take (k + 1)).all (nmP dn)) = !(x.toList == dn.toList) := by rw [hsn, ← Bool.and_assoc, ho]; rfl
          conv => whnf
          refine ⟨rfl, (show (0 : Int) ≤ k by omega), (show (k : Int) < (ah.length : Int) by omega), ?_⟩
          conv => whnf
          refine ⟨rfl, (by show k < (ah.map srow).length; rw [List.length_map]; exact hkt), fun row hrow => ?_⟩
          obtain ⟨d', hd', rfl⟩ := srow_get hrow
          obtain rfl := Option.some.inj (hx.symm.trans hd')
          clear hrow hd'
          refine ⟨(show 0 < 1 by decide), fun t ht => ?_⟩
          cases ht
          conv => whnf
          refine ⟨rfl, (show (0 : Int) ≤ i by omega), (show (i : Int) < ((l.map Decl.cells).length : Int) by omega), fun row hrow => ?_⟩
          obtain ⟨d', hd', rfl⟩ := decl_get hrow
          obtain rfl := Option.some.inj (hd.symm.trans hd')
          clear hrow hd'
          conv => whnf
          refine ⟨by kernel_rfl, fun _ => ?_⟩
          conv => whnf
          exact ⟨k + 1, [0, 1], [], Sub.mk' rfl ⟨.inl rfl, ⟨rfl, rfl⟩, .inl rfl, .inl rfl, .inl (by rw [ho2]), .inl (ti_succ hkt (by omega)), trivial⟩ ⟨⟨rfl, rfl, rfl, rfl⟩, trivial⟩ rfl rfl, hkt, by show ah.length - (k + 1) < ah.length - k; omega⟩
      · replace hkt : ah.length ≤ k := by have : decide ((k : Int) < (ah.length : Int)) = false := hkt; have := of_decide_eq_false this; omega
        rw [List.take_of_length_le hkt]
        cases ho : (q && ah.all (nmP dn)) with
        | false =>
          rw [ho] at hR2
          have hR3 : R = ([], false) := hR2
          subst hR3
          conv => whnf
          refine ⟨fun _ => ?_, fun h => absurd rfl h⟩
          conv => whnf
          refine CutL.by (fun _ : Unit => ⟨[(6, .sl 1 0), (7, .tr (tb false))], [(1, nmsB [])], 10⟩) (fun _ => True) ?_ ?_
          · conv => whnf
            exact ⟨(), [0], [1], Sub.mk' rfl ⟨⟨rfl, rfl, rfl, rfl⟩, .inl rfl, trivial⟩ ⟨⟨rfl, _, _, _, rfl, by decide⟩, trivial⟩ rfl rfl, trivial⟩
          · rintro - - -
            conv => whnf
            exact ⟨[0, 1], rfl, rfl, ⟨⟨rfl, rfl⟩, .inl rfl, trivial⟩, ⟨rfl, rfl, rfl, rfl⟩, trivial⟩
        | true =>
          rw [ho, cond_true] at hR2
          have hda := srow_app (l := ah) dn
          have hlen2 : (ah ++ [dn]).length = ah.length + 1 := by rw [List.length_append]; rfl
          conv => whnf
          refine ⟨fun _ => ?_, fun h => absurd rfl h⟩
          conv => whnf
          refine ⟨rfl, (show (0 : Int) ≤ i by omega), (show (i : Int) < ((l.map Decl.cells).length : Int) by omega), fun row hrow => ?_⟩
          obtain ⟨d', hd', rfl⟩ := decl_get hrow
          obtain rfl := Option.some.inj (hd.symm.trans hd')
          clear hrow hd'
          conv => whnf
          refine ⟨rfl, rfl, rfl, (by rw [List.length_map]; exact Nat.le_refl _), (show (ah.length + 1) * 16 ≤ 150000000000000 by omega), fun q hq => ?_, ?_⟩
          · cases hq with
            | head => exact Nat.ne_of_beq_eq_false rfl
            | tail _ h => cases h
          conv => whnf
          exact ⟨(true, ah ++ [dn], i + 1), [0, _], [], Sub.mk' rfl ⟨.inl rfl, ⟨rfl, hlen2.symm⟩, .inl rfl, .inl (ti_succ hit (by omega)), trivial⟩ ⟨⟨rfl, rfl, rfl, hda⟩, trivial⟩ rfl rfl, ⟨hit, hR2, by show (ah ++ [dn]).length + (l.length - (i + 1)) ≤ 1000000; omega, fun w => by cases w⟩, by show l.length - (i + 1) < l.length - i; omega⟩
    · replace hit : i = l.length := by have : decide ((i : Int) < ((l.map Decl.cells).length : Int)) = false := hit; have := of_decide_eq_false this; omega
      subst hit
      rw [List.drop_length, nmR_nil] at hR
      subst hR
      conv => whnf
      refine ⟨fun _ => ?_, fun h => absurd rfl h⟩
      conv => whnf
      refine CutL.by (fun _ : Unit => ⟨[(6, .sl 1 ah.length), (7, .tr (tb true))], [(1, nmsB ah)], 10⟩) (fun _ => True) ?_ ?_
      · conv => whnf
        exact ⟨(), [0, 1], [], Sub.mk' rfl ⟨⟨rfl, rfl⟩, .inl rfl, trivial⟩ ⟨⟨rfl, rfl, rfl, rfl⟩, trivial⟩ rfl rfl, trivial⟩
      · rintro - - -
        conv => whnf
        exact ⟨[0, 1], rfl, rfl, ⟨⟨rfl, rfl⟩, .inl rfl, trivial⟩, ⟨rfl, rfl, rfl, rfl⟩, trivial⟩
  case false =>
    conv => whnf
    refine csplit (fun hit => ?_) (fun hit => ?_)
    · replace hit : i < l.length := by have : decide ((i : Int) < ((l.map Decl.cells).length : Int)) = true := hit; have := of_decide_eq_true this; omega
      obtain ⟨d, hd⟩ : ∃ d, l[i]? = some d := ⟨_, List.getElem?_eq_getElem hit⟩
      rw [drop_cons hd, nmR_cons] at hR
      have hnm := k47 d.name
      obtain ⟨dn, dw, da⟩ := d
      obtain ⟨q, hq⟩ : ∃ q, nmHead words ⟨dn, dw, da⟩ = q := ⟨_, rfl⟩
      have hR2 : R = bif (q && ah.all (nmP dn)) then nmR words (ah ++ [dn]) (l.drop (i + 1)) else ([], false) := by rw [hR]; unfold nmOne; rw [hq]
      clear hR
      conv => whnf
      refine CutL.by (fun _ : Unit => ⟨nmS l words 0 ah.length i [(9, .tr (tb q))], [(0, nmsB ah)], 10⟩) (fun _ => True) ?_ ?_
      · conv => whnf
        refine ⟨rfl, (show (0 : Int) ≤ i by omega), (show (i : Int) < ((l.map Decl.cells).length : Int) by omega), fun row hrow => ?_⟩
        obtain ⟨d', hd', rfl⟩ := decl_get hrow
        obtain rfl := Option.some.inj (hd.symm.trans hd')
        clear hrow hd'
        conv => whnf
        refine acall.pure _ (hnm) rfl rfl fun _ => ?_
        conv => whnf
        unfold nmHead at hq
        cases hnb : nameB dn with
        | false =>
          have hq : q = false := by rw [← hq, hnb]; rfl
          subst hq
          conv => whnf
          exact ⟨(), [0], [], Sub.mk' rfl ⟨.inl rfl, ⟨rfl, rfl⟩, .inl rfl, .inl rfl, .inl rfl, trivial⟩ ⟨⟨rfl, rfl, rfl, rfl⟩, trivial⟩ rfl rfl, trivial⟩
        | true =>
          cases words with
          | true =>
            have hq : q = true := by rw [← hq, hnb]; rfl
            subst hq
            conv => whnf
            exact ⟨(), [0], [], Sub.mk' rfl ⟨.inl rfl, ⟨rfl, rfl⟩, .inl rfl, .inl rfl, .inl rfl, trivial⟩ ⟨⟨rfl, rfl, rfl, rfl⟩, trivial⟩ rfl rfl, trivial⟩
          | false =>
            have hq : q = (dw == 0) := by rw [← hq, hnb]; rfl
            conv => whnf
            refine ⟨rfl, (show (0 : Int) ≤ i by omega), (show (i : Int) < ((l.map Decl.cells).length : Int) by omega), fun row hrow => ?_⟩
            obtain ⟨d', hd', rfl⟩ := decl_get hrow
            obtain rfl := Option.some.inj (hd.symm.trans hd')
            clear hrow hd'
            conv => whnf
            exact ⟨(), [0], [], Sub.mk' rfl ⟨.inl rfl, ⟨rfl, rfl⟩, .inl rfl, .inl rfl, .inl (by rw [hq]), trivial⟩ ⟨⟨rfl, rfl, rfl, rfl⟩, trivial⟩ rfl rfl, trivial⟩
      rintro - - -
      clear hq hnm
      conv => whnf
      refine LoopL.by (fun k : Nat => ⟨nmS l words 0 ah.length i [(9, .tr (tb (q && (ah.take k).all (nmP dn)))), (10, .tr (ti (k : Nat)))], [(0, nmsB ah)], 10⟩) (fun k => k ≤ ah.length) (fun k => ah.length - k) 0 [0] []
        (Sub.mk' rfl ⟨.inl rfl, ⟨rfl, rfl⟩, .inl rfl, .inl rfl, .inl (by simp), .inl rfl, trivial⟩ ⟨⟨rfl, rfl, rfl, rfl⟩, trivial⟩ rfl rfl) (Nat.zero_le _) ?_
      rintro k hk -
      conv => whnf
      refine csplit (fun hkt => ?_) (fun hkt => ?_)
      · replace hkt : k < ah.length := by have : decide ((k : Int) < (ah.length : Int)) = true := hkt; have := of_decide_eq_true this; omega
        obtain ⟨x, hx⟩ : ∃ x, ah[k]? = some x := ⟨_, List.getElem?_eq_getElem hkt⟩
        have hsn := all_snoc (p := nmP dn) hx
        cases ho : (q && (ah.take k).all (nmP dn)) with
        | false =>
          have ho2 : (q && (ah.take (k + 1)).all (nmP dn)) = false := by rw [hsn, ← Bool.and_assoc, ho]; rfl
          conv => whnf
          refine ⟨by kernel_rfl, fun _ => ?_⟩
          conv => whnf
          exact ⟨k + 1, [0], [], Sub.mk' rfl ⟨.inl rfl, ⟨rfl, rfl⟩, .inl rfl, .inl rfl, .inl (by rw [ho2]), .inl (ti_succ hkt (by omega)), trivial⟩ ⟨⟨rfl, rfl, rfl, rfl⟩, trivial⟩ rfl rfl, hkt, by show ah.length - (k + 1) < ah.length - k; omega⟩
        | true =>
          have ho2 : (q && (ah.take (k + 1)).all (nmP dn)) = !(x.toList == dn.toList) := by rw [hsn, ← Bool.and_assoc, ho]; rfl
          conv => whnf
          refine ⟨rfl, (show (0 : Int) ≤ k by omega), (show (k : Int) < (ah.length : Int) by omega), ?_⟩
          conv => whnf
          refine ⟨rfl, (by show k < (ah.map srow).length; rw [List.length_map]; exact hkt), fun row hrow => ?_⟩
          obtain ⟨d', hd', rfl⟩ := srow_get hrow
          obtain rfl := Option.some.inj (hx.symm.trans hd')
          clear hrow hd'
          refine ⟨(show 0 < 1 by decide), fun t ht => ?_⟩
          cases ht
          conv => whnf
          refine ⟨rfl, (show (0 : Int) ≤ i by omega), (show (i : Int) < ((l.map Decl.cells).length : Int) by omega), fun row hrow => ?_⟩
          obtain ⟨d', hd', rfl⟩ := decl_get hrow
          obtain rfl := Option.some.inj (hd.symm.trans hd')
          clear hrow hd'
          conv => whnf
          refine ⟨by kernel_rfl, fun _ => ?_⟩
          conv => whnf
          exact ⟨k + 1, [0], [], Sub.mk' rfl ⟨.inl rfl, ⟨rfl, rfl⟩, .inl rfl, .inl rfl, .inl (by rw [ho2]), .inl (ti_succ hkt (by omega)), trivial⟩ ⟨⟨rfl, rfl, rfl, rfl⟩, trivial⟩ rfl rfl, hkt, by show ah.length - (k + 1) < ah.length - k; omega⟩
      · replace hkt : ah.length ≤ k := by have : decide ((k : Int) < (ah.length : Int)) = false := hkt; have := of_decide_eq_false this; omega
        rw [List.take_of_length_le hkt]
        cases ho : (q && ah.all (nmP dn)) with
        | false =>
          rw [ho] at hR2
          have hR3 : R = ([], false) := hR2
          subst hR3
          conv => whnf
          refine ⟨fun _ => ?_, fun h => absurd rfl h⟩
          conv => whnf
          refine CutL.by (fun _ : Unit => ⟨[(6, .sl 1 0), (7, .tr (tb false))], [(1, nmsB [])], 10⟩) (fun _ => True) ?_ ?_
          · conv => whnf
            exact ⟨(), [0], [1], Sub.mk' rfl ⟨⟨rfl, rfl, rfl, rfl⟩, .inl rfl, trivial⟩ ⟨⟨rfl, _, _, _, rfl, by decide⟩, trivial⟩ rfl rfl, trivial⟩
          · rintro - - -
            conv => whnf
            exact ⟨[0, 1], rfl, rfl, ⟨⟨rfl, rfl⟩, .inl rfl, trivial⟩, ⟨rfl, rfl, rfl, rfl⟩, trivial⟩
        | true =>
          rw [ho, cond_true] at hR2
          have hda := srow_app (l := ah) dn
          have hlen2 : (ah ++ [dn]).length = ah.length + 1 := by rw [List.length_append]; rfl
          conv => whnf
          refine ⟨fun _ => ?_, fun h => absurd rfl h⟩
          conv => whnf
          refine ⟨rfl, (show (0 : Int) ≤ i by omega), (show (i : Int) < ((l.map Decl.cells).length : Int) by omega), fun row hrow => ?_⟩
          obtain ⟨d', hd', rfl⟩ := decl_get hrow
          obtain rfl := Option.some.inj (hd.symm.trans hd')
          clear hrow hd'
          conv => whnf
          refine ⟨rfl, rfl, rfl, (by rw [List.length_map]; exact Nat.le_refl _), (show (ah.length + 1) * 16 ≤ 150000000000000 by omega), fun q hq => ?_, ?_⟩
          · cases hq with
            | head => exact Nat.ne_of_beq_eq_false rfl
            | tail _ h => cases h
          conv => whnf
          exact ⟨(true, ah ++ [dn], i + 1), [0, _], [], Sub.mk' rfl ⟨.inl rfl, ⟨rfl, hlen2.symm⟩, .inl rfl, .inl (ti_succ hit (by omega)), trivial⟩ ⟨⟨rfl, rfl, rfl, hda⟩, trivial⟩ rfl rfl, ⟨hit, hR2, by show (ah ++ [dn]).length + (l.length - (i + 1)) ≤ 1000000; omega, fun w => by cases w⟩, by show l.length - (i + 1) < l.length - i; omega⟩
    · replace hit : i = l.length := by have : decide ((i : Int) < ((l.map Decl.cells).length : Int)) = false := hit; have := of_decide_eq_false this; omega
      subst hit
      rw [List.drop_length, nmR_nil] at hR
      subst hR
      exact absurd (hm rfl) (fun w => hne (List.length_eq_zero_iff.1 w))
end Go.Proofs.YthboippafkcoiaaGreatDoor.am

namespace Go.Proofs.YthboippafkcoiaaGreatDoor.am
open Go Go.Proofs
set_option linter.all false

/-! against each other, as the machine does it -/
def dcEq (a b : Decl) : Bool := (a.name.toList == b.name.toList) && ((a.word == b.word) && ((a.at_ == b.at_) && true))
def vlEq (a b : Val) : Bool := (a.s == b.s) && ((a.k == b.k) && ((a.w == b.w) && true))
def ndEq (a b : Nd) : Bool := (a.kind == b.kind) && ((a.op == b.op) && ((a.slot == b.slot) && ((a.thing == b.thing) && (vlEq a.a b.a && (vlEq a.b b.b && ((a.next == b.next) && ((a.els == b.els) && ((a.origin == b.origin) && true))))))))
def eqL {α : Type} (p : α → α → Bool) : List α → List α → Bool
  | [], [] => true
  | a :: l, b :: l' => bif !(p a b) then false else eqL p l l'
  | _, _ => false
def eqLL {α : Type} (p : α → α → Bool) (l l' : List α) : Bool := bif (l.length : Int) != (l'.length : Int) then false else eqL p l l'
def grEq (a b : Gr) : Bool := bif (!(a.name.toList == b.name.toList) || (a.locals != b.locals) || (a.slots != b.slots) || ((a.nodes.length : Int) != (b.nodes.length : Int))) then false else eqL ndEq a.nodes b.nodes
def unEq (a b : Un) : Bool := bif ((a.graphs.length : Int) != (b.graphs.length : Int)) || !(eqLL dcEq a.shared b.shared) || !(eqLL dcEq a.locks b.locks) then false else eqL grEq a.graphs b.graphs
theorem eqL_refl {α : Type} {p : α → α → Bool} (h : ∀ a, p a a = true) : ∀ l : List α, eqL p l l = true
  | [] => rfl
  | a :: l => by show (bif !(p a a) then false else eqL p l l) = true; rw [h, eqL_refl h l]; rfl
theorem eqLL_refl {α : Type} {p : α → α → Bool} (h : ∀ a, p a a = true) (l : List α) : eqLL p l l = true := by
  unfold eqLL
  rw [eqL_refl h]; simp
theorem dcEq_refl (a : Decl) : dcEq a a = true := by simp [dcEq]
theorem ndEq_refl (a : Nd) : ndEq a a = true := by simp [ndEq, vlEq]
theorem grEq_refl (a : Gr) : grEq a a = true := by
  unfold grEq
  rw [eqL_refl ndEq_refl]; simp
theorem unEq_refl (a : Un) : unEq a a = true := by
  unfold unEq
  rw [eqL_refl grEq_refl, eqLL_refl dcEq_refl, eqLL_refl dcEq_refl]; simp
set_option maxRecDepth 100000 in
theorem k_rdecls (l l' : List Decl) : K 46 [.tr (declsT l), .tr (declsT l')] [] (.ret (.tr (tb (eqLL dcEq l l')))) [] := by
  have h1 : (l.map Decl.cells).length = l.length := List.length_map ..
  have h2 : (l'.map Decl.cells).length = l'.length := List.length_map ..
  refine Ctr.of hT hmix Tryz.func46 rfl (fun _ _ => by kernel_rfl) rfl fun hok => ?_
  obtain ⟨_, hl1, _⟩ := (hok.slot 0 rfl).tr.lst
  rw [List.length_map] at hl1
  clear hok
  conv => whnf
  cases hc : (((l.map Decl.cells).length : Int) != ((l'.map Decl.cells).length : Int)) with
  | true =>
    conv => whnf
    exact ⟨.inl (congrArg tb (by rw [h1, h2] at hc; unfold eqLL; rw [hc]; rfl)), trivial⟩
  | false =>
  have hE : eqLL dcEq l l' = eqL dcEq l l' := by rw [h1, h2] at hc; unfold eqLL; rw [hc]; rfl
  have hll : l.length = l'.length := by
    rw [h1, h2] at hc
    refine Classical.byContradiction fun w => ?_
    rw [bne_iff_ne.2 (fun e => w (by omega))] at hc
    cases hc
  rw [hE]
  generalize hR : eqL dcEq l l' = R
  clear hE hc
  conv => whnf
  refine LoopL.by (fun i : Nat => ⟨[(0, .tr (declsT l)), (1, .tr (declsT l')), (5, .tr (ti (i : Nat)))], [], 10⟩) (fun i => i ≤ l.length ∧ R = eqL dcEq (l.drop i) (l'.drop i)) (fun i => l.length - i) 0 [] []
    (Sub.mk' rfl ⟨.inl rfl, .inl rfl, .inl rfl, trivial⟩ trivial rfl rfl) ⟨Nat.zero_le _, hR.symm⟩ ?_
  clear hR
  rintro i ⟨hi, hR⟩ -
  conv => whnf
  refine csplit (fun hit => ?_) (fun hit => ?_)
  · replace hit : i < l.length := by have : decide ((i : Int) < ((l.map Decl.cells).length : Int)) = true := hit; have := of_decide_eq_true this; omega
    obtain ⟨a, ha⟩ : ∃ a, l[i]? = some a := ⟨_, List.getElem?_eq_getElem hit⟩
    obtain ⟨b, hb⟩ : ∃ b, l'[i]? = some b := ⟨_, List.getElem?_eq_getElem (by omega)⟩
    rw [drop_cons ha, drop_cons hb] at hR
    obtain ⟨q, hq⟩ : ∃ q, dcEq a b = q := ⟨_, rfl⟩
    have hR2 : R = bif !q then false else eqL dcEq (l.drop (i + 1)) (l'.drop (i + 1)) := by rw [hR]; show (bif !(dcEq a b) then false else _) = _; rw [hq]
    clear hR
    conv => whnf
    refine ⟨rfl, (show (0 : Int) ≤ i by omega), (show (i : Int) < ((l.map Decl.cells).length : Int) by omega), fun row hrow => ?_⟩
    obtain ⟨d, hd, rfl⟩ := decl_get hrow
    obtain rfl := Option.some.inj (ha.symm.trans hd)
    clear hrow hd
    conv => whnf
    refine ⟨rfl, (show (0 : Int) ≤ i by omega), (show (i : Int) < ((l'.map Decl.cells).length : Int) by omega), fun row hrow => ?_⟩
    obtain ⟨d, hd, rfl⟩ := decl_get hrow
    obtain rfl := Option.some.inj (hb.symm.trans hd)
    clear hrow hd
    unfold dcEq at hq
    conv => whnf
    rw [hq]
    refine ⟨by kernel_rfl, fun _ => ?_⟩
    conv => whnf
    cases q with
    | false =>
      conv => whnf
      exact ⟨.inl (congrArg tb hR2.symm), trivial⟩
    | true =>
      conv => whnf
      exact ⟨i + 1, [], [], Sub.mk' rfl ⟨.inl rfl, .inl rfl, .inl (ti_succ hit (by omega)), trivial⟩ trivial rfl rfl, ⟨hit, hR2⟩, by show l.length - (i + 1) < l.length - i; omega⟩
  replace hit : l.length ≤ i := by have : decide ((i : Int) < ((l.map Decl.cells).length : Int)) = false := hit; have := of_decide_eq_false this; omega
  rw [List.drop_of_length_le hit, List.drop_of_length_le (by omega)] at hR
  conv => whnf
  refine ⟨fun _ => ?_, fun h => absurd rfl h⟩
  conv => whnf
  exact ⟨.inl (by rw [hR]; rfl), trivial⟩
set_option maxRecDepth 100000 in
theorem k_rsameG (a b : Gr) : K 47 [a.av, b.av] [] (.ret (.tr (tb (grEq a b)))) [] := by
  have hR : grEq a b = bif (!(a.name.toList == b.name.toList) || (a.locals != b.locals) || (a.slots != b.slots) || ((a.nodes.length : Int) != (b.nodes.length : Int))) then false else eqL ndEq a.nodes b.nodes := rfl
  generalize grEq a b = R at hR ⊢
  have h1 : (a.nodes.map Nd.cells).length = a.nodes.length := List.length_map ..
  have h2 : (b.nodes.map Nd.cells).length = b.nodes.length := List.length_map ..
  obtain ⟨na, la, sa, l⟩ := a
  obtain ⟨nb, lb, sb, l'⟩ := b
  simp only at hR h1 h2
  refine Ctr.of hT hmix Tryz.func47 rfl (fun _ _ => by kernel_rfl) rfl fun hok => ?_
  obtain ⟨_, hl1, _⟩ := ((hok.slot 0 rfl).agg _ (.tail _ (.tail _ (.tail _ (.head _))))).tr.lst
  rw [List.length_map] at hl1
  clear hok
  conv => whnf
  cases c1 : (!(na.toList == nb.toList)) with
  | true =>
    conv => whnf
    exact ⟨.inl (congrArg tb (by rw [hR, c1]; rfl)), trivial⟩
  | false =>
  rw [c1] at hR
  conv => whnf
  cases c2 : (la != lb) with
  | true =>
    conv => whnf
    exact ⟨.inl (congrArg tb (by rw [hR, c2]; rfl)), trivial⟩
  | false =>
  rw [c2] at hR
  conv => whnf
  cases c3 : (sa != sb) with
  | true =>
    conv => whnf
    exact ⟨.inl (congrArg tb (by rw [hR, c3]; rfl)), trivial⟩
  | false =>
  rw [c3] at hR
  conv => whnf
  cases c4 : (((l.map Nd.cells).length : Int) != ((l'.map Nd.cells).length : Int)) with
  | true =>
    rw [h1, h2] at c4
    conv => whnf
    exact ⟨.inl (congrArg tb (by rw [hR, c4]; rfl)), trivial⟩
  | false =>
  have hll : l.length = l'.length := by
    rw [h1, h2] at c4
    refine Classical.byContradiction fun w => ?_
    rw [bne_iff_ne.2 (fun e => w (by omega))] at c4
    cases c4
  replace hR : R = eqL ndEq l l' := by rw [h1, h2] at c4; rw [hR, c4]; rfl
  clear c1 c2 c3 c4
  conv => whnf
  refine LoopL.by (fun i : Nat => ⟨[(2, .ptr 0 0), (3, .ptr 1 0), (5, .tr (ti (i : Nat)))], [(0, grBl ⟨na, la, sa, l⟩), (1, grBl ⟨nb, lb, sb, l'⟩)], 10⟩) (fun i => i ≤ l.length ∧ R = eqL ndEq (l.drop i) (l'.drop i)) (fun i => l.length - i) 0 [_, _] []
    (Sub.mk' rfl ⟨⟨rfl, rfl⟩, ⟨rfl, rfl⟩, .inl rfl, trivial⟩ ⟨⟨rfl, .inl rfl, .inl rfl, .inl rfl, .inl rfl, trivial⟩, ⟨rfl, .inl rfl, .inl rfl, .inl rfl, .inl rfl, trivial⟩, trivial⟩ rfl rfl) ⟨Nat.zero_le _, hR⟩ ?_
  clear hR
  rintro i ⟨hi, hR⟩ -
  conv => whnf
  refine csplit (fun hit => ?_) (fun hit => ?_)
  · replace hit : i < l.length := by have : decide ((i : Int) < ((l.map Nd.cells).length : Int)) = true := hit; have := of_decide_eq_true this; omega
    obtain ⟨a, ha⟩ : ∃ a, l[i]? = some a := ⟨_, List.getElem?_eq_getElem hit⟩
    obtain ⟨b, hb⟩ : ∃ b, l'[i]? = some b := ⟨_, List.getElem?_eq_getElem (by omega)⟩
    rw [drop_cons ha, drop_cons hb] at hR
    obtain ⟨q, hq⟩ : ∃ q, ndEq a b = q := ⟨_, rfl⟩
    have hR2 : R = bif !q then false else eqL ndEq (l.drop (i + 1)) (l'.drop (i + 1)) := by rw [hR]; show (bif !(ndEq a b) then false else _) = _; rw [hq]
    clear hR
    conv => whnf
    refine ⟨rfl, (show (0 : Int) ≤ i by omega), (show (i : Int) < ((l.map Nd.cells).length : Int) by omega), fun row hrow => ?_⟩
    obtain ⟨d, hd, rfl⟩ := nd_get hrow
    obtain rfl := Option.some.inj (ha.symm.trans hd)
    clear hrow hd
    conv => whnf
    refine ⟨rfl, (show (0 : Int) ≤ i by omega), (show (i : Int) < ((l'.map Nd.cells).length : Int) by omega), fun row hrow => ?_⟩
    obtain ⟨d, hd, rfl⟩ := nd_get hrow
    obtain rfl := Option.some.inj (hb.symm.trans hd)
    clear hrow hd
    unfold ndEq vlEq at hq
    conv => whnf
    rw [hq]
    refine ⟨by kernel_rfl, fun _ => ?_⟩
    conv => whnf
    cases q with
    | false =>
      conv => whnf
      exact ⟨.inl (congrArg tb hR2.symm), trivial⟩
    | true =>
      conv => whnf
      exact ⟨i + 1, [0, 1], [], Sub.mk' rfl ⟨⟨rfl, rfl⟩, ⟨rfl, rfl⟩, .inl (ti_succ hit (by omega)), trivial⟩ ⟨⟨rfl, .inl rfl, .inl rfl, .inl rfl, .inl rfl, trivial⟩, ⟨rfl, .inl rfl, .inl rfl, .inl rfl, .inl rfl, trivial⟩, trivial⟩ rfl rfl, ⟨hit, hR2⟩, by show l.length - (i + 1) < l.length - i; omega⟩
  replace hit : l.length ≤ i := by have : decide ((i : Int) < ((l.map Nd.cells).length : Int)) = false := hit; have := of_decide_eq_false this; omega
  rw [List.drop_of_length_le hit, List.drop_of_length_le (by omega)] at hR
  conv => whnf
  refine ⟨fun _ => ?_, fun h => absurd rfl h⟩
  conv => whnf
  exact ⟨.inl (by rw [hR]; rfl), trivial⟩
set_option maxRecDepth 100000 in
theorem k_rsameU (a b : Un) : K 12 [a.av, b.av] [] (.ret (.tr (tb (unEq a b)))) [] := by
  have hR : unEq a b = bif ((a.graphs.length : Int) != (b.graphs.length : Int)) || !(eqLL dcEq a.shared b.shared) || !(eqLL dcEq a.locks b.locks) then false else eqL grEq a.graphs b.graphs := rfl
  generalize unEq a b = R at hR ⊢
  have h1 : (a.graphs.map Gr.cells).length = a.graphs.length := List.length_map ..
  have h2 : (b.graphs.map Gr.cells).length = b.graphs.length := List.length_map ..
  obtain ⟨s1, k1, l⟩ := a
  obtain ⟨s2, k2, l'⟩ := b
  simp only at hR h1 h2
  have d1 := k_rdecls s1 s2
  have d2 := k_rdecls k1 k2
  generalize eqLL dcEq s1 s2 = e1 at d1 hR
  generalize eqLL dcEq k1 k2 = e2 at d2 hR
  refine Ctr.of hT hmix Tryz.func12 rfl (fun _ _ => by kernel_rfl) rfl fun hok => ?_
  obtain ⟨_, hl1, _⟩ := ((hok.slot 0 rfl).agg _ (.tail _ (.tail _ (.head _)))).tr.lst
  rw [List.length_map] at hl1
  clear hok
  conv => whnf
  cases c4 : (((l.map Gr.cells).length : Int) != ((l'.map Gr.cells).length : Int)) with
  | true =>
    rw [h1, h2] at c4
    conv => whnf
    exact ⟨.inl (congrArg tb (by rw [hR, c4]; rfl)), trivial⟩
  | false =>
  have hll : l.length = l'.length := by
    rw [h1, h2] at c4
    refine Classical.byContradiction fun w => ?_
    rw [bne_iff_ne.2 (fun e => w (by omega))] at c4
    cases c4
  rw [h1, h2] at c4
  rw [c4] at hR
  clear c4
  conv => whnf
  refine acall.pure _ (d1) rfl rfl fun _ => ?_
  conv => whnf
  cases e1 with
  | false =>
    conv => whnf
    exact ⟨.inl (congrArg tb (by rw [hR]; rfl)), trivial⟩
  | true =>
  conv => whnf
  refine acall.pure _ (d2) rfl rfl fun _ => ?_
  conv => whnf
  cases e2 with
  | false =>
    conv => whnf
    exact ⟨.inl (congrArg tb (by rw [hR]; rfl)), trivial⟩
  | true =>
  replace hR : R = eqL grEq l l' := hR
  conv => whnf
  refine LoopL.by (fun i : Nat => ⟨[(2, .ptr 0 0), (3, .ptr 1 0), (5, .tr (ti (i : Nat)))], [(0, .cells 29 [.tr (declsT s1), .tr (declsT k1), .tr (graphsT l)]), (1, .cells 29 [.tr (declsT s2), .tr (declsT k2), .tr (graphsT l')])], 10⟩) (fun i => i ≤ l.length ∧ R = eqL grEq (l.drop i) (l'.drop i)) (fun i => l.length - i) 0 [_, _] []
    (Sub.mk' rfl ⟨⟨rfl, rfl⟩, ⟨rfl, rfl⟩, .inl rfl, trivial⟩ ⟨⟨rfl, .inl rfl, .inl rfl, .inl rfl, trivial⟩, ⟨rfl, .inl rfl, .inl rfl, .inl rfl, trivial⟩, trivial⟩ rfl rfl) ⟨Nat.zero_le _, hR⟩ ?_
  clear hR d1 d2
  rintro i ⟨hi, hR⟩ -
  conv => whnf
  refine csplit (fun hit => ?_) (fun hit => ?_)
  · replace hit : i < l.length := by have : decide ((i : Int) < ((l.map Gr.cells).length : Int)) = true := hit; have := of_decide_eq_true this; omega
    obtain ⟨a, ha⟩ : ∃ a, l[i]? = some a := ⟨_, List.getElem?_eq_getElem hit⟩
    obtain ⟨b, hb⟩ : ∃ b, l'[i]? = some b := ⟨_, List.getElem?_eq_getElem (by omega)⟩
    rw [drop_cons ha, drop_cons hb] at hR
    have hs := k_rsameG a b
    have hR2 : R = bif !(grEq a b) then false else eqL grEq (l.drop (i + 1)) (l'.drop (i + 1)) := hR
    generalize grEq a b = q at hs hR2
    clear hR
    conv => whnf
    refine ⟨rfl, (show (0 : Int) ≤ i by omega), (show (i : Int) < ((l.map Gr.cells).length : Int) by omega), fun row hrow => ?_⟩
    obtain ⟨d, hd, rfl⟩ := gr_get hrow
    obtain rfl := Option.some.inj (ha.symm.trans hd)
    clear hrow hd
    conv => whnf
    refine ⟨rfl, (show (0 : Int) ≤ i by omega), (show (i : Int) < ((l'.map Gr.cells).length : Int) by omega), fun row hrow => ?_⟩
    obtain ⟨d, hd, rfl⟩ := gr_get hrow
    obtain rfl := Option.some.inj (hb.symm.trans hd)
    clear hrow hd
    conv => whnf
    refine acall.pure _ (hs) rfl rfl ?_
    conv => whnf
    refine ⟨by kernel_rfl, fun _ => ?_⟩
    conv => whnf
    cases q with
    | false =>
      conv => whnf
      exact ⟨.inl (congrArg tb hR2.symm), trivial⟩
    | true =>
      conv => whnf
      exact ⟨i + 1, [0, 1], [], Sub.mk' rfl ⟨⟨rfl, rfl⟩, ⟨rfl, rfl⟩, .inl (ti_succ hit (by omega)), trivial⟩ ⟨⟨rfl, .inl rfl, .inl rfl, .inl rfl, trivial⟩, ⟨rfl, .inl rfl, .inl rfl, .inl rfl, trivial⟩, trivial⟩ rfl rfl, ⟨hit, hR2⟩, by show l.length - (i + 1) < l.length - i; omega⟩
  replace hit : l.length ≤ i := by have : decide ((i : Int) < ((l.map Gr.cells).length : Int)) = false := hit; have := of_decide_eq_false this; omega
  rw [List.drop_of_length_le hit, List.drop_of_length_le (by omega)] at hR
  conv => whnf
  refine ⟨fun _ => ?_, fun h => absurd rfl h⟩
  conv => whnf
  exact ⟨.inl (by rw [hR]; rfl), trivial⟩
end Go.Proofs.YthboippafkcoiaaGreatDoor.am

namespace Go.Proofs.YthboippafkcoiaaGreatDoor.am
open Go Go.Proofs
set_option linter.all false

set_option maxRecDepth 100000 in
set_option maxHeartbeats 4000000 in
theorem k_rcheck (u : Un) : K 30 [u.av] [] (.ret (.tup [.tr (ti (checkU u).1), .tr (ti (checkU u).2.1), .tr (ti (checkU u).2.2)])) [] := by
  have hC : checkU u = bif namedB u then ckG u u.graphs 0 else (60, 0, 0) := rfl
  have hN : namedB u = bif lensB u then false else nm1 u.locks u.graphs [] u.shared := rfl
  have hL : lensB u = (decide ((u.shared.length : Int) > 64) || decide ((u.locks.length : Int) > 16) || decide ((u.graphs.length : Int) > 8)) := rfl
  rw [nm1_r] at hN
  generalize checkU u = R at hC ⊢
  obtain ⟨U, hU⟩ : ∃ U, U = u := ⟨_, rfl⟩
  rw [← hU] at hC hN hL ⊢
  obtain ⟨sh, lo, gr⟩ := u
  have hUs : U.shared = sh := by rw [hU]
  have hUl : U.locks = lo := by rw [hU]
  have hUg : U.graphs = gr := by rw [hU]
  rw [hUs, hUl, hUg] at hN hL
  rw [hUg] at hC
  have hls : (sh.map Decl.cells).length = sh.length := List.length_map ..
  have hlk : (lo.map Decl.cells).length = lo.length := List.length_map ..
  have hlg : (gr.map Gr.cells).length = gr.length := List.length_map ..
  have hav : U.av = .agg [.tr (declsT sh), .tr (declsT lo), .tr (graphsT gr)] := by rw [hU]; rfl
  rw [hav]
  refine Ctr.cut [8, 9, 10, 11] hT hmix Tryz.func30 rfl (fun _ _ => by kernel_rfl) rfl fun hok => ?_
  obtain ⟨_, hl3, hrw⟩ := ((hok.slot 0 rfl).agg _ (.tail _ (.tail _ (.head _)))).tr.lst
  have hbd : ∀ g ∈ gr, ∀ n ∈ g.nodes, 0 ≤ n.kind ∧ 0 ≤ n.op ∧ n.op ≤ 255 := fun g hg n hnn => by
    have h1 := (hrw g.cells (List.mem_map_of_mem hg)).2 (nodesT g.nodes) (.tail _ (.tail _ (.tail _ (.head _))))
    have h2 := (h1.lst.2.2 n.cells (List.mem_map_of_mem hnn)).2
    have h3 := (h2 (tu n.kind) (.head _)).u8
    have h4 := (h2 (tu n.op) (.tail _ (.head _))).u8
    exact ⟨h3.1, h4.1, h4.2⟩
  rw [List.length_map] at hl3
  clear hok hrw
  conv => whnf
  cases h1 : decide (((sh.map Decl.cells).length : Int) > 64) with
  | true =>
    conv => whnf
    have hRf : R = (60, 0, 0) := by rw [hls] at h1; rw [hC, hN, hL, h1]; rfl
    exact ⟨⟨.inl (by rw [hRf]), .inl (by rw [hRf]), .inl (by rw [hRf]), trivial⟩, trivial⟩
  | false =>
  conv => whnf
  cases h2 : decide (((lo.map Decl.cells).length : Int) > 16) with
  | true =>
    conv => whnf
    have hRf : R = (60, 0, 0) := by rw [hls] at h1; rw [hlk] at h2; rw [hC, hN, hL, h1, h2]; rfl
    exact ⟨⟨.inl (by rw [hRf]), .inl (by rw [hRf]), .inl (by rw [hRf]), trivial⟩, trivial⟩
  | false =>
  conv => whnf
  cases h3 : decide (((gr.map Gr.cells).length : Int) > 8) with
  | true =>
    conv => whnf
    have hRf : R = (60, 0, 0) := by rw [hls] at h1; rw [hlk] at h2; rw [hlg] at h3; rw [hC, hN, hL, h1, h2, h3]; rfl
    exact ⟨⟨.inl (by rw [hRf]), .inl (by rw [hRf]), .inl (by rw [hRf]), trivial⟩, trivial⟩
  | false =>
  have hNL : namedB U = ((nmR true [] sh).2 && ((nmR false (nmR true [] sh).1 lo).2 && (nmR false (nmR false (nmR true [] sh).1 lo).1 (gr.map thr)).2)) := by rw [hls] at h1; rw [hlk] at h2; rw [hlg] at h3; rw [hN, hL, h1, h2, h3]; rfl
  have hsl : sh.length ≤ 64 := by have := of_decide_eq_false h1; omega
  have hlol : lo.length ≤ 16 := by have := of_decide_eq_false h2; omega
  have hgrl : gr.length ≤ 8 := by have := of_decide_eq_false h3; omega
  clear hN hL h1 h2 h3
  obtain ⟨ths, hths⟩ : ∃ l, gr.map thr = l := ⟨_, rfl⟩
  rw [hths] at hNL
  have hthl : ths.length = gr.length := by rw [← hths, List.length_map]
  conv => whnf
  refine CutL.by (fun _ : Unit => ⟨[(1, .ptr 0 0), (5, .tr (declsT ths))], [(0, .cells 29 [.tr (declsT sh), .tr (declsT lo), .tr (graphsT gr)])], 10⟩) (fun _ => True) ?_ ?_
  · conv => whnf
    refine LoopL.by (fun i : Nat => ⟨[(1, .ptr 0 0), (5, .sl 1 i), (6, .tr (ti (i : Nat)))], [(0, .cells 29 [.tr (declsT sh), .tr (declsT lo), .tr (graphsT gr)]), (1, .vec 77 3 32 ((ths.take i).map Decl.cells))], 10⟩) (fun i => i ≤ gr.length) (fun i => gr.length - i) 0 [_] [1]
      (Sub.mk' rfl ⟨⟨rfl, rfl⟩, ⟨rfl, rfl, rfl, rfl⟩, .inl rfl, trivial⟩ ⟨⟨rfl, .inl rfl, .inl rfl, .inl rfl, trivial⟩, ⟨rfl, _, _, _, rfl, by decide⟩, trivial⟩ rfl rfl) (Nat.zero_le _) ?_
    rintro i hi -
    conv => whnf
    refine csplit (fun hit => ?_) (fun hit => ?_)
    · replace hit : i < gr.length := by have : decide ((i : Int) < ((gr.map Gr.cells).length : Int)) = true := hit; have := of_decide_eq_true this; omega
      obtain ⟨g, hg⟩ : ∃ g, gr[i]? = some g := ⟨_, List.getElem?_eq_getElem hit⟩
      have htk : ths.take (i + 1) = ths.take i ++ [thr g] := by rw [List.take_succ, ← hths, List.getElem?_map, hg]; rfl
      have hlk2 : (ths.take i).length = i := by rw [List.length_take]; omega
      have hda : ((ths.take i).map Decl.cells).take i ++ [(thr g).cells] = (ths.take (i + 1)).map Decl.cells := by rw [htk, List.map_append, List.take_of_length_le (by rw [List.length_map]; omega)]; rfl
      conv => whnf
      refine ⟨rfl, (show (0 : Int) ≤ i by omega), (show (i : Int) < ((gr.map Gr.cells).length : Int) by omega), fun row hrow => ?_⟩
      obtain ⟨d, hd, rfl⟩ := gr_get hrow
      obtain rfl := Option.some.inj (hg.symm.trans hd)
      clear hrow hd
      conv => whnf
      refine ⟨rfl, rfl, rfl, (by rw [List.length_map]; omega), (show (i + 1) * 32 ≤ 150000000000000 by omega), fun q hq => ?_, ?_⟩
      · cases hq with
        | head => exact Nat.ne_of_beq_eq_false rfl
        | tail _ h => cases h
      conv => whnf
      exact ⟨i + 1, [0, _], [], Sub.mk' rfl ⟨⟨rfl, rfl⟩, ⟨rfl, rfl⟩, .inl (ti_succ hit (by omega)), trivial⟩ ⟨⟨rfl, .inl rfl, .inl rfl, .inl rfl, trivial⟩, ⟨rfl, rfl, rfl, hda⟩, trivial⟩ rfl rfl, hit, by show gr.length - (i + 1) < gr.length - i; omega⟩
    · replace hit : i = gr.length := by have : decide ((i : Int) < ((gr.map Gr.cells).length : Int)) = false := hit; have := of_decide_eq_false this; omega
      subst hit
      have htk : ths.take gr.length = ths := List.take_of_length_le (by omega)
      rw [htk]
      conv => whnf
      refine ⟨fun _ => ?_, fun h => absurd rfl h⟩
      conv => whnf
      exact ⟨(), [0], [], Sub.mk' rfl ⟨⟨rfl, rfl⟩, ⟨rfl, (by rw [List.length_map]; omega), (by show declsT ths = Tr.lst 3 32 ((ths.map Decl.cells).take gr.length); rw [List.take_of_length_le (by rw [List.length_map]; omega)])⟩, trivial⟩ ⟨⟨rfl, .inl rfl, .inl rfl, .inl rfl, trivial⟩, trivial⟩ rfl rfl, trivial⟩
  rintro - - -
  have n1 := k_namedN sh true (by omega)
  have hr1 := nmR_len true sh []
  generalize nmR true [] sh = R1 at n1 hr1 hNL
  obtain ⟨a1, q1⟩ := R1
  simp only [List.length_nil] at n1 hr1 hNL
  have n2 : lo ≠ [] → _ := fun h => k_namedA lo false a1 (by omega) h
  have hr2 := nmR_len false lo a1
  have z2 : lo = [] → nmR false a1 lo = (a1, true) := fun h => by rw [h]; rfl
  generalize nmR false a1 lo = R2 at n2 hr2 hNL z2
  obtain ⟨a2, q2⟩ := R2
  simp only at n2 hr2 hNL z2
  have n3 : ths ≠ [] → _ := fun h => k_namedA ths false a2 (by omega) h
  have z3 : ths = [] → nmR false a2 ths = (a2, true) := fun h => by rw [h]; rfl
  generalize nmR false a2 ths = R3 at n3 hNL z3
  obtain ⟨a3, q3⟩ := R3
  simp only at n3 hNL z3
  conv => whnf
  refine CutL.by (fun _ : Unit => ⟨[(1, .ptr 0 0), (5, .tr (declsT ths)), (7, .sl 1 a1.length), (8, .tr (tb q1))], [(0, .cells 29 [.tr (declsT sh), .tr (declsT lo), .tr (graphsT gr)]), (1, nmsB a1)], 10⟩) (fun _ => True) ?_ ?_
  · conv => whnf
    refine acall.new [] [] _ _ _ _ (n1) rfl rfl rfl rfl aut aut rfl rfl ?_
    conv => whnf
    intro _
    conv => whnf
    exact ⟨(), [0, _], [], Sub.mk' rfl ⟨⟨rfl, rfl⟩, .inl rfl, ⟨rfl, rfl⟩, .inl rfl, trivial⟩ ⟨⟨rfl, .inl rfl, .inl rfl, .inl rfl, trivial⟩, ⟨rfl, rfl, rfl, rfl⟩, trivial⟩ rfl rfl, trivial⟩
  rintro - - -
  conv => whnf
  refine CutL.by (fun _ : Unit => ⟨[(1, .ptr 0 0), (5, .tr (declsT ths)), (7, .sl 1 a2.length), (8, .tr (tb q1)), (9, .tr (tb q2))], [(0, .cells 29 [.tr (declsT sh), .tr (declsT lo), .tr (graphsT gr)]), (1, nmsB a2)], 10⟩) (fun _ => True) ?_ ?_
  · by_cases hlo : lo = []
    · have hz := z2 hlo
      cases hz
      subst hlo
      conv => whnf
      refine acall.au [1] [] (k_named0 false a1) ?_
      intro _
      conv => whnf
      exact ⟨(), [0, 1], [], Sub.mk' rfl ⟨⟨rfl, rfl⟩, .inl rfl, ⟨rfl, rfl⟩, .inl rfl, .inl rfl, trivial⟩ ⟨⟨rfl, .inl rfl, .inl rfl, .inl rfl, trivial⟩, ⟨rfl, rfl, rfl, rfl⟩, trivial⟩ rfl rfl, trivial⟩
    · have n2 := n2 hlo
      conv => whnf
      refine acall.new [1] [] _ _ _ _ (n2) rfl rfl rfl rfl aut aut rfl rfl ?_
      conv => whnf
      intro _
      conv => whnf
      exact ⟨(), [0, _], [], Sub.mk' rfl ⟨⟨rfl, rfl⟩, .inl rfl, ⟨rfl, rfl⟩, .inl rfl, .inl rfl, trivial⟩ ⟨⟨rfl, .inl rfl, .inl rfl, .inl rfl, trivial⟩, ⟨rfl, rfl, rfl, rfl⟩, trivial⟩ rfl rfl, trivial⟩
  rintro - - -
  conv => whnf
  refine CutL.by (fun _ : Unit => ⟨[(1, .ptr 0 0), (8, .tr (tb q1)), (9, .tr (tb q2)), (11, .tr (tb q3))], [(0, .cells 29 [.tr (declsT sh), .tr (declsT lo), .tr (graphsT gr)])], 10⟩) (fun _ => True) ?_ ?_
  · by_cases hlo : ths = []
    · have hz := z3 hlo
      cases hz
      subst hlo
      conv => whnf
      refine acall.au [1] [] (k_named0 false a2) ?_
      intro _
      conv => whnf
      exact ⟨(), [0], [], Sub.mk' rfl ⟨⟨rfl, rfl⟩, .inl rfl, .inl rfl, .inl rfl, trivial⟩ ⟨⟨rfl, .inl rfl, .inl rfl, .inl rfl, trivial⟩, trivial⟩ rfl rfl, trivial⟩
    · have n3 := n3 hlo
      conv => whnf
      refine acall.new [1] [] _ _ _ _ (n3) rfl rfl rfl rfl aut aut rfl rfl ?_
      conv => whnf
      intro _
      conv => whnf
      exact ⟨(), [0], [], Sub.mk' rfl ⟨⟨rfl, rfl⟩, .inl rfl, .inl rfl, .inl rfl, trivial⟩ ⟨⟨rfl, .inl rfl, .inl rfl, .inl rfl, trivial⟩, trivial⟩ rfl rfl, trivial⟩
  rintro - - -
  clear n1 n2 n3 z2 z3 hr1 hr2
  cases q1 with
  | false =>
    have hRf : R = (60, 0, 0) := by rw [hC, hNL]; rfl
    conv => whnf
    exact ⟨⟨.inl (by rw [hRf]), .inl (by rw [hRf]), .inl (by rw [hRf]), trivial⟩, trivial⟩
  | true =>
  cases q2 with
  | false =>
    have hRf : R = (60, 0, 0) := by rw [hC, hNL]; rfl
    conv => whnf
    exact ⟨⟨.inl (by rw [hRf]), .inl (by rw [hRf]), .inl (by rw [hRf]), trivial⟩, trivial⟩
  | true =>
  cases q3 with
  | false =>
    have hRf : R = (60, 0, 0) := by rw [hC, hNL]; rfl
    conv => whnf
    exact ⟨⟨.inl (by rw [hRf]), .inl (by rw [hRf]), .inl (by rw [hRf]), trivial⟩, trivial⟩
  | true =>
  have hR : R = ckG U gr 0 := by rw [hC, hNL]; rfl
  clear hC hNL
  conv => whnf
  refine LoopL.by (fun t : Nat => ⟨[(1, .ptr 0 0), (12, .tr (ti (t : Nat)))], [(0, .cells 29 [.tr (declsT sh), .tr (declsT lo), .tr (graphsT gr)])], 10⟩) (fun t => t ≤ gr.length ∧ R = ckG U (gr.drop t) t) (fun t => gr.length - t) 0 [0] []
    (Sub.mk' rfl ⟨⟨rfl, rfl⟩, .inl rfl, trivial⟩ ⟨⟨rfl, .inl rfl, .inl rfl, .inl rfl, trivial⟩, trivial⟩ rfl rfl) ⟨Nat.zero_le _, hR⟩ ?_
  clear hR
  rintro t ⟨ht, hR⟩ -
  conv => whnf
  refine csplit (fun htt => ?_) (fun htt => ?_)
  · replace htt : t < gr.length := by have : decide ((t : Int) < ((gr.map Gr.cells).length : Int)) = true := htt; have := of_decide_eq_true this; omega
    obtain ⟨g, hg⟩ : ∃ g, gr[t]? = some g := ⟨_, List.getElem?_eq_getElem htt⟩
    rw [drop_cons hg] at hR
    have hbd := hbd g (List.mem_of_getElem? hg)
    have hR2 : R = bif grBad g then (60, (t : Int), 0) else contC g t (ckG U (gr.drop (t + 1)) ((t : Int) + 1)) (ndBad U g g.nodes 0) := hR
    clear hR
    have hgl : (g.nodes.map Nd.cells).length = g.nodes.length := List.length_map ..
    conv => whnf
    refine ⟨rfl, (show (0 : Int) ≤ t by omega), (show (t : Int) < ((gr.map Gr.cells).length : Int) by omega), fun row hrow => ?_⟩
    obtain ⟨d, hd, rfl⟩ := gr_get hrow
    obtain rfl := Option.some.inj (hg.symm.trans hd)
    clear hrow hd hg
    conv => whnf
    cases b1 : decide (g.locals < 0) with
    | true =>
      conv => whnf
      have hRf : R = (60, (t : Int), 0) := by rw [hR2]; unfold grBad; rw [b1]; rfl
      exact ⟨⟨.inl (by rw [hRf]), .inl (by rw [hRf]), .inl (by rw [hRf]), trivial⟩, trivial⟩
    | false =>
    conv => whnf
    cases b2 : decide (g.locals > 64) with
    | true =>
      conv => whnf
      have hRf : R = (60, (t : Int), 0) := by rw [hR2]; unfold grBad; rw [b1, b2]; rfl
      exact ⟨⟨.inl (by rw [hRf]), .inl (by rw [hRf]), .inl (by rw [hRf]), trivial⟩, trivial⟩
    | false =>
    conv => whnf
    cases b3 : decide (g.slots < g.locals) with
    | true =>
      conv => whnf
      have hRf : R = (60, (t : Int), 0) := by rw [hR2]; unfold grBad; rw [b1, b2, b3]; rfl
      exact ⟨⟨.inl (by rw [hRf]), .inl (by rw [hRf]), .inl (by rw [hRf]), trivial⟩, trivial⟩
    | false =>
    conv => whnf
    cases b4 : decide (g.slots > 4160) with
    | true =>
      conv => whnf
      have hRf : R = (60, (t : Int), 0) := by rw [hR2]; unfold grBad; rw [b1, b2, b3, b4]; rfl
      exact ⟨⟨.inl (by rw [hRf]), .inl (by rw [hRf]), .inl (by rw [hRf]), trivial⟩, trivial⟩
    | false =>
    conv => whnf
    cases b5 : decide (((g.nodes.map Nd.cells).length : Int) < 1) with
    | true =>
      conv => whnf
      rw [hgl] at b5
      have hRf : R = (60, (t : Int), 0) := by rw [hR2]; unfold grBad; rw [b1, b2, b3, b4, b5]; rfl
      exact ⟨⟨.inl (by rw [hRf]), .inl (by rw [hRf]), .inl (by rw [hRf]), trivial⟩, trivial⟩
    | false =>
    conv => whnf
    cases b6 : decide (((g.nodes.map Nd.cells).length : Int) > 4096) with
    | true =>
      conv => whnf
      rw [hgl] at b5 b6
      have hRf : R = (60, (t : Int), 0) := by rw [hR2]; unfold grBad; rw [b1, b2, b3, b4, b5, b6]; rfl
      exact ⟨⟨.inl (by rw [hRf]), .inl (by rw [hRf]), .inl (by rw [hRf]), trivial⟩, trivial⟩
    | false =>
    conv => whnf
    have hgb : grBad g = false := by rw [hgl] at b5 b6; unfold grBad; rw [b1, b2, b3, b4, b5, b6]; rfl
    rw [hgb, cond_false] at hR2
    have hmo : g.nodes.length ≤ 4096 := by have := of_decide_eq_false b6; omega
    clear b1 b2 b3 b4 b5 b6
    generalize hRR : ckG U (gr.drop (t + 1)) ((t : Int) + 1) = RR at hR2
    refine LoopL.by (fun i : Nat => ⟨[(1, .ptr 0 0), (12, .tr (ti (t : Nat))), (13, .ptr 1 0), (14, .tr (ti (i : Nat)))], [(0, .cells 29 [.tr (declsT sh), .tr (declsT lo), .tr (graphsT gr)]), (1, grBl g)], 10⟩) (fun i => i ≤ g.nodes.length ∧ R = contC g t RR (ndBad U g (g.nodes.drop i) i) ∧ ∀ n ∈ g.nodes.take i, rightB U g n = true) (fun i => g.nodes.length - i) 0 [0, _] []
      (Sub.mk' rfl ⟨⟨rfl, rfl⟩, .inl rfl, ⟨rfl, rfl⟩, .inl rfl, trivial⟩ ⟨⟨rfl, .inl rfl, .inl rfl, .inl rfl, trivial⟩, ⟨rfl, .inl rfl, .inl rfl, .inl rfl, .inl rfl, trivial⟩, trivial⟩ rfl rfl) ⟨Nat.zero_le _, hR2, fun n hn => by cases hn⟩ ?_
    clear hR2
    rintro i ⟨hi, hR, hal⟩ -
    conv => whnf
    refine csplit (fun hit => ?_) (fun hit => ?_)
    · replace hit : i < g.nodes.length := by have : decide ((i : Int) < ((g.nodes.map Nd.cells).length : Int)) = true := hit; have := of_decide_eq_true this; omega
      obtain ⟨n, hn⟩ : ∃ n, g.nodes[i]? = some n := ⟨_, List.getElem?_eq_getElem hit⟩
      rw [drop_cons hn] at hR
      obtain ⟨q0, q1, q2⟩ := hbd n (List.mem_of_getElem? hn)
      have hri := k_node U g n
      rw [node_right q0 q1, hav] at hri
      have hR2 : R = contC g t RR (bif rightB U g n then ndBad U g (g.nodes.drop (i + 1)) ((i : Int) + 1) else some (i : Int)) := hR
      clear hR
      conv => whnf
      refine ⟨rfl, (show (0 : Int) ≤ i by omega), (show (i : Int) < ((g.nodes.map Nd.cells).length : Int) by omega), fun row hrow => ?_⟩
      obtain ⟨d, hd, rfl⟩ := nd_get hrow
      obtain rfl := Option.some.inj (hn.symm.trans hd)
      clear hrow hd
      conv => whnf
      refine acall.pure _ (hri) rfl rfl ?_
      conv => whnf
      refine ⟨by kernel_rfl, fun _ => ?_⟩
      conv => whnf
      cases hrb : rightB U g n with
      | false =>
        have hRf : R = (60, (t : Int), (i : Int)) := by rw [hR2, hrb]; rfl
        conv => whnf
        exact ⟨⟨.inl (by rw [hRf]), .inl (by rw [hRf]), .inl (by rw [hRf]), trivial⟩, trivial⟩
      | true =>
        rw [hrb, cond_true] at hR2
        conv => whnf
        exact ⟨i + 1, [0, 1], [], Sub.mk' rfl ⟨⟨rfl, rfl⟩, .inl rfl, ⟨rfl, rfl⟩, .inl (ti_succ hit (by omega)), trivial⟩ ⟨⟨rfl, .inl rfl, .inl rfl, .inl rfl, trivial⟩, ⟨rfl, .inl rfl, .inl rfl, .inl rfl, .inl rfl, trivial⟩, trivial⟩ rfl rfl, ⟨hit, hR2, fun m hm => by
          rw [take_snoc hn] at hm
          rcases List.mem_append.1 hm with w | w
          · exact hal m w
          · rw [List.mem_singleton.1 w]; exact hrb⟩, by show g.nodes.length - (i + 1) < g.nodes.length - i; omega⟩
    replace hit : g.nodes.length ≤ i := by have : decide ((i : Int) < ((g.nodes.map Nd.cells).length : Int)) = false := hit; have := of_decide_eq_false this; omega
    rw [List.drop_of_length_le hit] at hR
    rw [List.take_of_length_le hit] at hal
    have hW := whole_of (whole_right hgb fun n hn => ⟨hal n hn, (hbd n hn).1⟩)
    have hhe := k_rheld g hW
    have hR2 : R = bif decide ((heldR g).2 ≥ 0) then (60, (t : Int), (heldR g).2) else RR := hR
    clear hR
    conv => whnf
    refine ⟨fun _ => ?_, fun h => absurd rfl h⟩
    conv => whnf
    refine acall.pure _ (hhe) rfl rfl fun _ => ?_
    conv => whnf
    cases hf : decide ((heldR g).2 ≥ 0) with
    | true =>
      have hRf : R = (60, (t : Int), (heldR g).2) := by rw [hR2, hf]; rfl
      conv => whnf
      exact ⟨⟨.inl (by rw [hRf]), .inl (by rw [hRf]), .inl (by rw [hRf]), trivial⟩, trivial⟩
    | false =>
      have hR3 : R = ckG U (gr.drop (t + 1)) ((t + 1 : Nat) : Int) := by rw [hR2, hf, cond_false, ← hRR]; rfl
      conv => whnf
      exact ⟨t + 1, [0], [], Sub.mk' rfl ⟨⟨rfl, rfl⟩, .inl (ti_succ htt (by omega)), trivial⟩ ⟨⟨rfl, .inl rfl, .inl rfl, .inl rfl, trivial⟩, trivial⟩ rfl rfl, ⟨htt, hR3⟩, by show gr.length - (t + 1) < gr.length - t; omega⟩
  · replace htt : gr.length ≤ t := by have : decide ((t : Int) < ((gr.map Gr.cells).length : Int)) = false := htt; have := of_decide_eq_false this; omega
    rw [List.drop_of_length_le htt] at hR
    have hRf : R = (0, 0, 0) := hR
    conv => whnf
    refine ⟨fun _ => ?_, fun h => absurd rfl h⟩
    conv => whnf
    exact ⟨⟨.inl (by rw [hRf]), .inl (by rw [hRf]), .inl (by rw [hRf]), trivial⟩, trivial⟩
end Go.Proofs.YthboippafkcoiaaGreatDoor.am

namespace Go.Proofs.YthboippafkcoiaaGreatDoor.am
open Go Go.Proofs
set_option linter.all false

def heL (L : List (Option (List Int))) : List (List Int) := L.map fun o => o.getD []
set_option maxRecDepth 100000 in
theorem k_copyGT (g : Gr) : K 67 [g.av] [] (.ret g.av) [] := by
  have hln : (g.nodes.map Nd.cells).length = g.nodes.length := List.length_map ..
  obtain ⟨name, locals, slots, nodes⟩ := g
  simp only at hln
  refine Ctr.of hT hmix Tryz.func67 rfl (fun _ _ => by kernel_rfl) rfl fun hok => ?_
  obtain ⟨hb, _⟩ := ((hok.slot 0 rfl).agg _ (.tail _ (.tail _ (.tail _ (.head _))))).tr.lst
  clear hok
  conv => whnf
  refine ⟨rfl, rfl, rfl, Nat.le_refl _, (by show (0 + (nodes.map Nd.cells).length) * 96 ≤ 150000000000000; rw [Nat.zero_add]; exact hb), (fun q hq => by cases hq), ?_⟩
  conv => whnf
  exact ⟨⟨.inl rfl, .inl rfl, .inl rfl, ⟨rfl, (by show 0 + (nodes.map Nd.cells).length ≤ (nodes.map Nd.cells).length; omega), (by show nodesT nodes = Tr.lst 13 96 ((nodes.map Nd.cells).take (0 + (nodes.map Nd.cells).length)); rw [Nat.zero_add, List.take_length])⟩, trivial⟩, trivial⟩
theorem take_all {l : List (List Tr)} {n : Nat} (h : l.length = n) : l.take (0 + n) = l := by rw [Nat.zero_add, List.take_of_length_le (Nat.le_of_eq h)]
abbrev grsB (l : List Gr) : Blk := .vec 50 4 56 (l.map Gr.cells)
set_option maxRecDepth 100000 in
set_option maxHeartbeats 2000000 in
theorem k_copyU (u : Un) : K 28 [u.av] [] (.ret u.av) [] := by
  obtain ⟨sh, lo, gr⟩ := u
  have hlg : (gr.map Gr.cells).length = gr.length := List.length_map ..
  refine Ctr.cut [2] hT hmix Tryz.func28 rfl (fun _ _ => by kernel_rfl) rfl fun hok => ?_
  obtain ⟨hb1, _⟩ := ((hok.slot 0 rfl).agg _ (.head _)).tr.lst
  obtain ⟨hb2, _⟩ := ((hok.slot 0 rfl).agg _ (.tail _ (.head _))).tr.lst
  obtain ⟨hb3, hl3, _⟩ := ((hok.slot 0 rfl).agg _ (.tail _ (.tail _ (.head _)))).tr.lst
  rw [List.length_map] at hl3
  clear hok
  conv => whnf
  refine CutL.by (fun _ : Unit => ⟨[(1, .ptr 0 0), (2, .ptr 1 0), (3, .ptr 2 0)], [(0, .cells 29 [.tr (declsT sh), .tr (declsT lo), .tr (graphsT gr)]), (1, .cells 29 [nilA, nilA, nilA]), (2, .cells 29 [.tr (declsT sh), .tr (declsT lo), .sl 3 0]), (3, grsB [])], 10⟩) (fun _ => True) ?_ ?_
  · conv => whnf
    refine ⟨rfl, rfl, rfl, Nat.le_refl _, (by show (0 + (sh.map Decl.cells).length) * 32 ≤ 150000000000000; rw [Nat.zero_add]; exact hb1), (fun q hq => by cases hq), ?_⟩
    conv => whnf
    refine ⟨rfl, rfl, rfl, Nat.le_refl _, (by show (0 + (lo.map Decl.cells).length) * 32 ≤ 150000000000000; rw [Nat.zero_add]; exact hb2), (fun q hq => by cases hq), ?_⟩
    conv => whnf
    refine ⟨by kernel_rfl, fun _ => ?_⟩
    conv => whnf
    exact ⟨(), [_, _, _], [3], Sub.mk' rfl ⟨⟨rfl, rfl⟩, ⟨rfl, rfl⟩, ⟨rfl, rfl⟩, trivial⟩ ⟨⟨rfl, .inl rfl, .inl rfl, .inl rfl, trivial⟩, ⟨rfl, .inl rfl, .inl rfl, .inl rfl, trivial⟩, ⟨rfl, ⟨rfl, (by simp), (by show declsT sh = Tr.lst 3 32 ((sh.map Decl.cells).take _); rw [take_all rfl])⟩, ⟨rfl, (by simp), (by show declsT lo = Tr.lst 3 32 ((lo.map Decl.cells).take _); rw [take_all rfl])⟩, ⟨rfl, rfl, rfl, rfl⟩, trivial⟩, ⟨rfl, _, _, _, rfl, by decide⟩, trivial⟩ rfl rfl, trivial⟩
  rintro - - -
  conv => whnf
  refine LoopL.by (fun i : Nat => ⟨[(1, .ptr 0 0), (2, .ptr 1 0), (3, .ptr 2 0), (4, .tr (ti (i : Nat)))], [(0, .cells 29 [.tr (declsT sh), .tr (declsT lo), .tr (graphsT gr)]), (1, .cells 29 [nilA, nilA, nilA]), (2, .cells 29 [.tr (declsT sh), .tr (declsT lo), .sl 3 i]), (3, grsB (gr.take i))], 10⟩) (fun i => i ≤ gr.length) (fun i => gr.length - i) 0 [0, 1, 2, 3] []
    (Sub.mk' rfl ⟨⟨rfl, rfl⟩, ⟨rfl, rfl⟩, ⟨rfl, rfl⟩, .inl rfl, trivial⟩ ⟨⟨rfl, .inl rfl, .inl rfl, .inl rfl, trivial⟩, ⟨rfl, .inl rfl, .inl rfl, .inl rfl, trivial⟩, ⟨rfl, .inl rfl, .inl rfl, ⟨rfl, rfl⟩, trivial⟩, ⟨rfl, rfl, rfl, rfl⟩, trivial⟩ rfl rfl) (Nat.zero_le _) ?_
  rintro i hi -
  conv => whnf
  refine csplit (fun hit => ?_) (fun hit => ?_)
  · replace hit : i < gr.length := by have : decide ((i : Int) < ((gr.map Gr.cells).length : Int)) = true := hit; have := of_decide_eq_true this; omega
    obtain ⟨g, hg⟩ : ∃ g, gr[i]? = some g := ⟨_, List.getElem?_eq_getElem hit⟩
    have hcg := k_copyGT g
    have htk : gr.take (i + 1) = gr.take i ++ [g] := by rw [List.take_succ, hg]; rfl
    have hlk2 : (gr.take i).length = i := by rw [List.length_take]; omega
    have hda : ((gr.take i).map Gr.cells).take i ++ [g.cells] = (gr.take (i + 1)).map Gr.cells := by rw [htk, List.map_append, List.take_of_length_le (by rw [List.length_map]; omega)]; rfl
    have hbd : (i + 1) * 56 ≤ 150000000000000 := by
      have : (i + 1) * 56 ≤ (gr.map Gr.cells).length * 56 := Nat.mul_le_mul_right _ (by omega)
      exact Nat.le_trans this hb3
    conv => whnf
    refine ⟨rfl, (show (0 : Int) ≤ i by omega), (show (i : Int) < ((gr.map Gr.cells).length : Int) by omega), fun row hrow => ?_⟩
    obtain ⟨d, hd, rfl⟩ := gr_get hrow
    obtain rfl := Option.some.inj (hg.symm.trans hd)
    clear hrow hd
    conv => whnf
    refine acall.pure _ (hcg) rfl rfl ?_
    conv => whnf
    refine ⟨rfl, rfl, rfl, (by rw [List.length_map]; omega), hbd, fun q hq => ?_, ?_⟩
    · cases hq with
      | head => exact Nat.ne_of_beq_eq_false rfl
      | tail _ h => cases h
    conv => whnf
    refine ⟨by kernel_rfl, fun _ => ?_⟩
    conv => whnf
    exact ⟨i + 1, [0, 1, 2, _], [], Sub.mk' rfl ⟨⟨rfl, rfl⟩, ⟨rfl, rfl⟩, ⟨rfl, rfl⟩, .inl (ti_succ hit (by omega)), trivial⟩ ⟨⟨rfl, .inl rfl, .inl rfl, .inl rfl, trivial⟩, ⟨rfl, .inl rfl, .inl rfl, .inl rfl, trivial⟩, ⟨rfl, .inl rfl, .inl rfl, ⟨rfl, rfl⟩, trivial⟩, ⟨rfl, rfl, rfl, hda⟩, trivial⟩ rfl rfl, hit, by show gr.length - (i + 1) < gr.length - i; omega⟩
  · replace hit : i = gr.length := by have : decide ((i : Int) < ((gr.map Gr.cells).length : Int)) = false := hit; have := of_decide_eq_false this; omega
    subst hit
    have htk : gr.take gr.length = gr := List.take_of_length_le (Nat.le_refl _)
    rw [htk]
    conv => whnf
    refine ⟨fun _ => ?_, fun h => absurd rfl h⟩
    conv => whnf
    exact ⟨⟨.inl rfl, .inl rfl, ⟨rfl, (by rw [List.length_map]; exact Nat.le_refl _), (by show graphsT gr = Tr.lst 4 56 ((gr.map Gr.cells).take gr.length); rw [List.take_of_length_le (by rw [List.length_map]; exact Nat.le_refl _)])⟩, trivial⟩, trivial⟩
end Go.Proofs.YthboippafkcoiaaGreatDoor.am

namespace Go.Proofs.YthboippafkcoiaaGreatDoor.ws
open Go Go.RowKit
def knownS (op : Nat) : Bool := decide (1 ≤ op ∧ op ≤ 18)
theorem knownS_any (op : Nat) (w : World) :
    Calls Tryz.prog 170 #[.int .u8 op] w fun e w' => e = .returned (.bool (knownS op)) ∧ w = w' := by
  by_cases h : 1 ≤ op ∧ op ≤ 18
  · have e : knownS op = true := by simp [knownS, h]
    have E := Lib.hid e
    clear e
    obtain ⟨h1, h2⟩ := h
    go_enter Tryz.func170, Tryz.ntmps170
    go_wp2
    go_ret
    exact ⟨ret_bool (by rw [E.out]; simp; omega), rfl⟩
  · have e : knownS op = false := by simp [knownS]; omega
    have E := Lib.hid e
    clear e
    by_cases h0 : 1 ≤ op
    · have h1 : ¬ op ≤ 18 := fun h2 => h ⟨h0, h2⟩
      go_enter Tryz.func170, Tryz.ntmps170
      go_wp2
      go_ret
      exact ⟨ret_bool (by rw [E.out]; simp; omega), rfl⟩
    go_enter Tryz.func170, Tryz.ntmps170
    go_wp2
    go_ret
    exact ⟨ret_bool (by rw [E.out]), rfl⟩
theorem sgn_out {op : Nat} (h : 19 ≤ op) : am.sgn op = ⟨#[]⟩ := by
  unfold am.sgn; rw [List.getD_eq_getElem?_getD, List.getElem?_eq_none (by exact h)]; rfl
theorem wshow_any (op : Nat) (w : World) (ht : ∀ k, k < 19 → w.cell? ⟨0, k * 2, none⟩ = some (.string (am.sgn k))) :
    Calls Tryz.prog 160 #[.int .u8 op] w fun e w' => e = .returned (.string (am.sgn op)) ∧ w = w' := by
  cases h : knownS op
  · have H := Lib.hid h
    have e : am.sgn op = ⟨#[]⟩ := by
      have : op = 0 ∨ 19 ≤ op := by simp [knownS] at h; omega
      rcases this with rfl | h2
      · rfl
      · exact sgn_out h2
    have E := Lib.hid e
    clear e h ht
    go_enter Tryz.func160, Tryz.ntmps160
    go_wp2_with (go_at_call 170; refine (knownS_any _ _).mono ?_; rw [H.out]; rintro e w' ⟨rfl, rfl⟩)
    go_ret
    exact ⟨ret_str E.out.symm, rfl⟩
  · have H := Lib.hid h
    have hlt : op < 19 := by simp [knownS] at h; omega
    have hc := ht op hlt
    clear h ht
    go_enter Tryz.func160, Tryz.ntmps160
    go_wp2_with (go_at_call 170; refine (knownS_any _ _).mono ?_; rw [H.out]; rintro e w' ⟨rfl, rfl⟩)
    go_ret
    exact ⟨rfl, rfl⟩
end Go.Proofs.YthboippafkcoiaaGreatDoor.ws
namespace Go.Proofs.YthboippafkcoiaaGreatDoor.am
open Go Go.Proofs
set_option linter.all false

theorem size_add (a b : ByteArray) : (a ++ b).size = a.size + b.size := ByteArray.size_append
theorem sgn_len (k : Nat) : (sgn k).size ≤ 2 := by
  have h : ∀ l ∈ sgnL, l.length ≤ 2 := by decide
  unfold sgn
  rw [List.getD_eq_getElem?_getD]
  cases e : sgnL[k]? with
  | none => exact Nat.zero_le _
  | some l => exact h l (List.mem_of_getElem? e)
theorem k_wshow (op : Int) : K 160 [.tr (tu op)] [] (.ret (.tr (ts (sgn op.toNat)))) [] := by
  refine Ctr.ofCalls (fun _ _ => by kernel_rfl) fun g w vs hm hsz hv => ?_
  obtain ⟨v, rfl⟩ := one_arg hsz
  obtain ⟨rfl, h1, h2⟩ := val_inv (hv 0 v (.tr (tu op)) rfl rfl)
  obtain ⟨k, rfl⟩ : ∃ k : Nat, op = k := ⟨op.toNat, by have : (0 : Int) ≤ op := h1; omega⟩
  obtain ⟨_, cs, t, fz, e, hk⟩ := hm.gl _ _ (.inr ⟨rfl, rfl⟩)
  refine (ws.wshow_any k w fun j hj => by rw [heap_cell e]; exact hk j hj).mono ?_
  rintro e w' ⟨rfl, rfl⟩
  exact ⟨_, rfl, Go.RowKit.Below.refl _ _, fun _ _ => .tr (.v (Nat.le_trans (sgn_len k) (by omega)))⟩
theorem z_print (n : Int) : K 76 [.tr (ti n)] [] (.ret (.tr (ts (prnB n)))) [] := by
  refine Ctr.ofCalls (fun _ _ => by kernel_rfl) fun g w vs hm hsz hv => ?_
  obtain ⟨v, rfl⟩ := one_arg hsz
  obtain ⟨rfl, h1, h2⟩ := val_inv (hv 0 v (.tr (ti n)) rfl rfl)
  refine (ws.rprint_any n w h1 h2).mono ?_
  rintro e w' ⟨rfl, hb⟩
  exact ⟨_, rfl, hb, fun _ _ => .tr (.v (Nat.le_trans (prn_len h1 h2) (by omega)))⟩
set_option maxRecDepth 100000 in
theorem z_show (op : Int) (h0 : 0 ≤ op) : K 124 [.tr (tu op)] [] (.ret (.tr (ts (sgn op.toNat)))) [] := by
  have hrows : ∀ k, k < 19 → ∀ row, (sgnL.map fun l => [ts ⟨l.toArray⟩])[k]? = some row → row = [ts (sgn k)] := fun k hk row h => by
    rw [List.getElem?_map, Option.map_eq_some_iff] at h
    obtain ⟨l, h1, rfl⟩ := h
    unfold sgn
    rw [List.getD_eq_getElem?_getD, h1]; rfl
  refine Ctr.of hT hmix Tryz.func124 rfl (fun _ _ => by kernel_rfl) rfl fun hok => ?_
  clear hok
  conv => whnf
  cases h : decide (op ≥ 19) with
  | true =>
    have := of_decide_eq_true h
    have e : sgn op.toNat = ⟨#[]⟩ := ws.sgn_out (by omega)
    conv => whnf
    exact ⟨.inl (congrArg ts e.symm), trivial⟩
  | false =>
    have := of_decide_eq_false h
    conv => whnf
    refine ⟨rfl, (show (0 : Int) ≤ op from h0), (show op < ((19 : Nat) : Int) by omega), ?_⟩
    conv => whnf
    refine ⟨rfl, (show op.toNat < 19 by omega), fun row hrow => ?_⟩
    obtain rfl := hrows op.toNat (by omega) row hrow
    clear hrow
    refine ⟨(show 0 < 1 by decide), fun t ht => ?_⟩
    cases ht
    conv => whnf
    exact ⟨.inl rfl, trivial⟩

def slotB (n : Int) : ByteArray := (⟨#[115]⟩ : ByteArray) ++ prnB n
def valS (v : Val) : ByteArray := bif v.s then slotB v.k else prnB v.w
def nameAt (l : List Decl) (k : Int) : ByteArray := match l[k.toNat]? with | some d => d.name | none => ⟨#[]⟩
def thingB (u : Un) (n : Nd) : ByteArray := bif n.kind == 5 then nameAt u.locks n.thing else bif n.kind == 6 then nameAt u.locks n.thing else nameAt u.shared n.thing
def doesS (kind op : Int) (S A B G T : ByteArray) : ByteArray :=
  bif kind == 1 then (bif two op then S ++ (⟨#[32, 61, 32]⟩ : ByteArray) ++ A ++ (⟨#[32]⟩ : ByteArray) ++ G ++ (⟨#[32]⟩ : ByteArray) ++ B else bif op != 0 then S ++ (⟨#[32, 61, 32]⟩ : ByteArray) ++ G ++ (⟨#[32]⟩ : ByteArray) ++ A else S ++ (⟨#[32, 61, 32]⟩ : ByteArray) ++ A)
  else bif kind == 2 then S ++ (⟨#[32, 61, 32]⟩ : ByteArray) ++ T
  else bif kind == 3 then T ++ (⟨#[32, 61, 32]⟩ : ByteArray) ++ A
  else bif kind == 4 then S ++ (⟨#[32, 61, 32, 115, 119, 97, 112, 32]⟩ : ByteArray) ++ T ++ (⟨#[32]⟩ : ByteArray) ++ A
  else bif kind == 5 then (⟨#[108, 111, 99, 107, 32]⟩ : ByteArray) ++ T
  else bif kind == 6 then (⟨#[117, 110, 108, 111, 99, 107, 32]⟩ : ByteArray) ++ T
  else bif kind == 7 then (⟨#[112, 114, 105, 110, 116, 32]⟩ : ByteArray) ++ A
  else bif kind == 8 then (⟨#[98, 114, 97, 110, 99, 104, 32]⟩ : ByteArray) ++ A
  else (⟨#[101, 110, 100]⟩ : ByteArray)
def textS (kind op : Int) (S A B G T N E : ByteArray) : ByteArray :=
  bif kind == 9 then doesS kind op S A B G T else bif kind == 8 then doesS kind op S A B G T ++ ((⟨#[32, 45, 62, 32]⟩ : ByteArray) ++ N) ++ (⟨#[32]⟩ : ByteArray) ++ E else doesS kind op S A B G T ++ ((⟨#[32, 45, 62, 32]⟩ : ByteArray) ++ N)
def doesB (u : Un) (n : Nd) : ByteArray := doesS n.kind n.op (slotB n.slot) (valS n.a) (valS n.b) (sgn n.op.toNat) (thingB u n)
def textB (u : Un) (n : Nd) : ByteArray := textS n.kind n.op (slotB n.slot) (valS n.a) (valS n.b) (sgn n.op.toNat) (thingB u n) (prnB n.next) (prnB n.els)
structure TextOk (u : Un) (n : Nd) : Prop where
  kind : n.kind = 1 ∨ n.kind = 2 ∨ n.kind = 3 ∨ n.kind = 4 ∨ n.kind = 5 ∨ n.kind = 6 ∨ n.kind = 7 ∨ n.kind = 8 ∨ n.kind = 9
  op : 0 ≤ n.op
  sh : n.kind = 2 ∨ n.kind = 3 ∨ n.kind = 4 → 0 ≤ n.thing ∧ n.thing < u.shared.length
  lo : n.kind = 5 ∨ n.kind = 6 → 0 ≤ n.thing ∧ n.thing < u.locks.length
  ns : ∀ d ∈ u.shared, d.name.size ≤ 32
  nl : ∀ d ∈ u.locks, d.name.size ≤ 32
theorem nameAt_len {l : List Decl} (h : ∀ d ∈ l, d.name.size ≤ 32) (k : Int) : (nameAt l k).size ≤ 32 := by
  unfold nameAt
  cases e : l[k.toNat]? with
  | none => exact Nat.zero_le _
  | some d => exact h d (List.mem_of_getElem? e)
theorem thingB_len {u : Un} {n : Nd} (h : TextOk u n) : (thingB u n).size ≤ 32 := by
  unfold thingB
  cases n.kind == 5 <;> cases n.kind == 6 <;> first | exact nameAt_len h.nl _ | exact nameAt_len h.ns _
theorem slotB_len {n : Int} (h1 : -9223372036854775808 ≤ n) (h2 : n ≤ 9223372036854775807) : (slotB n).size ≤ 22 := by
  unfold slotB
  rw [size_add]
  have := prn_len h1 h2
  have : (⟨#[115]⟩ : ByteArray).size = 1 := rfl
  omega
def rngV (v : Val) : Prop := (-9223372036854775808 ≤ v.k ∧ v.k ≤ 9223372036854775807) ∧ -9223372036854775808 ≤ v.w ∧ v.w ≤ 9223372036854775807
def rngN (n : Nd) : Prop := (-9223372036854775808 ≤ n.slot ∧ n.slot ≤ 9223372036854775807) ∧ rngV n.a ∧ rngV n.b ∧ (-9223372036854775808 ≤ n.next ∧ n.next ≤ 9223372036854775807) ∧ -9223372036854775808 ≤ n.els ∧ n.els ≤ 9223372036854775807
theorem valS_len {v : Val} (h : rngV v) : (valS v).size ≤ 22 := by
  unfold valS
  cases v.s with
  | true => exact slotB_len h.1.1 h.1.2
  | false => exact Nat.le_succ_of_le (prn_len h.2.1 h.2.2)
theorem rng_of {n : Nd} (h : ∀ t ∈ n.cells, TOkT t) : rngN n := by
  obtain ⟨kind, op, slot, thing, ⟨sa, ka, wa⟩, ⟨sb, kb, wb⟩, next, els, origin⟩ := n
  have q := fun t (ht : t ∈ [tu kind, tu op, ti slot, ti thing, tb sa, ti ka, ti wa, tb sb, ti kb, ti wb, ti next, ti els, ti origin]) => h t ht
  exact ⟨(q (ti slot) (by simp)).i64, ⟨(q (ti ka) (by simp)).i64, (q (ti wa) (by simp)).i64⟩, ⟨(q (ti kb) (by simp)).i64, (q (ti wb) (by simp)).i64⟩, (q (ti next) (by simp)).i64, (q (ti els) (by simp)).i64⟩

set_option maxRecDepth 100000 in
theorem k_slotT (n : Int) : K 158 [.tr (ti n)] [] (.ret (.tr (ts (slotB n)))) [] := by
  refine Ctr.of hT hmix Tryz.func158 rfl (fun _ _ => by kernel_rfl) rfl fun hok => ?_
  obtain ⟨h1, h2⟩ := (hok.slot 0 rfl).tr.i64
  clear hok
  have hl := prn_len h1 h2
  have z0 : (⟨#[115]⟩ : ByteArray).size = 1 := rfl
  conv => whnf
  refine acall.pure _ (k_itoa n) rfl rfl fun _ => ?_
  conv => whnf
  refine ⟨by simp only [z0]; omega, ?_⟩
  conv => whnf
  exact ⟨.inl rfl, trivial⟩
set_option maxRecDepth 100000 in
theorem z_slotT (n : Int) : K 123 [.tr (ti n)] [] (.ret (.tr (ts (slotB n)))) [] := by
  refine Ctr.of hT hmix Tryz.func123 rfl (fun _ _ => by kernel_rfl) rfl fun hok => ?_
  obtain ⟨h1, h2⟩ := (hok.slot 0 rfl).tr.i64
  clear hok
  have hl := prn_len h1 h2
  have z0 : (⟨#[115]⟩ : ByteArray).size = 1 := rfl
  conv => whnf
  refine acall.pure _ (z_print n) rfl rfl fun _ => ?_
  conv => whnf
  refine ⟨by simp only [z0]; omega, ?_⟩
  conv => whnf
  exact ⟨.inl rfl, trivial⟩
set_option maxRecDepth 100000 in
theorem k_valT (v : Val) : K 159 [.agg [.tr (tb v.s), .tr (ti v.k), .tr (ti v.w)]] [] (.ret (.tr (ts (valS v)))) [] := by
  obtain ⟨s, k, w⟩ := v
  refine Ctr.of hT hmix Tryz.func159 rfl (fun _ _ => by kernel_rfl) rfl fun hok => ?_
  clear hok
  cases s with
  | true =>
    conv => whnf
    refine acall.pure _ (k_slotT k) rfl rfl fun _ => ?_
    conv => whnf
    exact ⟨.inl rfl, trivial⟩
  | false =>
    conv => whnf
    refine acall.pure _ (k_print w) rfl rfl fun _ => ?_
    conv => whnf
    exact ⟨.inl rfl, trivial⟩
set_option maxRecDepth 100000 in
theorem z_valT (v : Val) : K 122 [.agg [.tr (tb v.s), .tr (ti v.k), .tr (ti v.w)]] [] (.ret (.tr (ts (valS v)))) [] := by
  obtain ⟨s, k, w⟩ := v
  refine Ctr.of hT hmix Tryz.func122 rfl (fun _ _ => by kernel_rfl) rfl fun hok => ?_
  clear hok
  cases s with
  | true =>
    conv => whnf
    refine acall.pure _ (z_slotT k) rfl rfl fun _ => ?_
    conv => whnf
    exact ⟨.inl rfl, trivial⟩
  | false =>
    conv => whnf
    refine acall.pure _ (z_print w) rfl rfl fun _ => ?_
    conv => whnf
    exact ⟨.inl rfl, trivial⟩
set_option maxRecDepth 100000 in
theorem k_thing (u : Un) (n : Nd) (h : TextOk u n) (hk : n.kind = 2 ∨ n.kind = 3 ∨ n.kind = 4 ∨ n.kind = 5 ∨ n.kind = 6) : K 157 [.ept n.cells, .ept u.cells] [] (.ret (.tr (ts (thingB u n)))) [] := by
  refine Ctr.of hT hmix Tryz.func157 rfl (fun _ _ => by kernel_rfl) rfl fun hok => ?_
  clear hok
  unfold thingB
  conv => whnf
  cases h5 : (n.kind == 5) with
  | true =>
    have hq := h.lo (.inl (eq_of_beq h5))
    conv => whnf
    refine ⟨rfl, (show (0 : Int) ≤ n.thing from hq.1), (show n.thing < ((u.locks.map Decl.cells).length : Int) by rw [List.length_map]; exact hq.2), fun row hrow => ?_⟩
    obtain ⟨d, hd, rfl⟩ := decl_get hrow
    have hnm : d.name = nameAt u.locks n.thing := by unfold nameAt; rw [hd]
    clear hrow hd
    conv => whnf
    exact ⟨.inl (congrArg ts hnm), trivial⟩
  | false =>
  conv => whnf
  cases h6 : (n.kind == 6) with
  | true =>
    have hq := h.lo (.inr (eq_of_beq h6))
    conv => whnf
    refine ⟨rfl, (show (0 : Int) ≤ n.thing from hq.1), (show n.thing < ((u.locks.map Decl.cells).length : Int) by rw [List.length_map]; exact hq.2), fun row hrow => ?_⟩
    obtain ⟨d, hd, rfl⟩ := decl_get hrow
    have hnm : d.name = nameAt u.locks n.thing := by unfold nameAt; rw [hd]
    clear hrow hd
    conv => whnf
    exact ⟨.inl (congrArg ts hnm), trivial⟩
  | false =>
    have hq := h.sh (by
      have e5 := beq_eq_false_iff_ne.1 h5
      have e6 := beq_eq_false_iff_ne.1 h6
      omega)
    conv => whnf
    refine ⟨rfl, (show (0 : Int) ≤ n.thing from hq.1), (show n.thing < ((u.shared.map Decl.cells).length : Int) by rw [List.length_map]; exact hq.2), fun row hrow => ?_⟩
    obtain ⟨d, hd, rfl⟩ := decl_get hrow
    have hnm : d.name = nameAt u.shared n.thing := by unfold nameAt; rw [hd]
    clear hrow hd
    conv => whnf
    exact ⟨.inl (congrArg ts hnm), trivial⟩
set_option maxRecDepth 100000 in
set_option maxHeartbeats 4000000 in
theorem k_does (u : Un) (n : Nd) (h : TextOk u n) : K 120 [u.av, n.av] [] (.ret (.tr (ts (doesB u n)))) [] := by
  unfold doesB
  have cS := k_slotT n.slot
  have cA := k_valT n.a
  have cB := k_valT n.b
  have cG := k_wshow n.op
  have lG := sgn_len n.op.toNat
  have cT := k_thing u n h
  have lT := thingB_len h
  have htw := k_two n.op
  refine Ctr.of hT hmix Tryz.func120 rfl (fun _ _ => by kernel_rfl) rfl fun hok => ?_
  have hr := rng_of (n := n) (fun t ht => ((hok.slot 1 rfl).agg (.tr t) (List.mem_map.2 ⟨t, ht, rfl⟩)).tr)
  clear hok
  have lS := slotB_len hr.1.1 hr.1.2
  have lA := valS_len hr.2.1
  have lB := valS_len hr.2.2.1
  clear hr
  have z0 : (⟨#[115]⟩ : ByteArray).size = 1 := rfl
  have z1 : (⟨#[32, 61, 32]⟩ : ByteArray).size = 3 := rfl
  have z2 : (⟨#[32]⟩ : ByteArray).size = 1 := rfl
  have z3 : (⟨#[32, 61, 32, 115, 119, 97, 112, 32]⟩ : ByteArray).size = 8 := rfl
  have z4 : (⟨#[108, 111, 99, 107, 32]⟩ : ByteArray).size = 5 := rfl
  have z5 : (⟨#[117, 110, 108, 111, 99, 107, 32]⟩ : ByteArray).size = 7 := rfl
  have z6 : (⟨#[112, 114, 105, 110, 116, 32]⟩ : ByteArray).size = 6 := rfl
  have z7 : (⟨#[98, 114, 97, 110, 99, 104, 32]⟩ : ByteArray).size = 7 := rfl
  have z8 : (⟨#[101, 110, 100]⟩ : ByteArray).size = 3 := rfl
  have z9 : (⟨#[32, 45, 62, 32]⟩ : ByteArray).size = 4 := rfl
  generalize slotB n.slot = S at cS lS ⊢
  generalize valS n.a = A at cA lA ⊢
  generalize valS n.b = B at cB lB ⊢
  generalize sgn n.op.toNat = G at cG lG ⊢
  generalize thingB u n = TT at cT lT ⊢
  have hk := h.kind
  obtain ⟨kind, op, slot, thing, va, vb, next, els, origin⟩ := n
  simp only at hk
  rcases hk with rfl | rfl | rfl | rfl | rfl | rfl | rfl | rfl | rfl
  · clear cT
    conv => whnf
    refine acall.pure _ (cS) rfl rfl fun _ => ?_
    conv => whnf
    refine ⟨by simp only [size_add, z0, z1, z2, z3, z4, z5, z6, z7, z8, z9]; omega, ?_⟩
    conv => whnf
    refine acall.pure _ (htw) rfl rfl fun _ => ?_
    conv => whnf
    cases h2 : two op with
    | true =>
      conv => whnf
      refine acall.pure _ (cA) rfl rfl ?_
      conv => whnf
      refine ⟨by simp only [size_add, z0, z1, z2, z3, z4, z5, z6, z7, z8, z9]; omega, ?_⟩
      conv => whnf
      refine ⟨by simp only [size_add, z0, z1, z2, z3, z4, z5, z6, z7, z8, z9]; omega, ?_⟩
      conv => whnf
      refine acall.pure _ (cG) rfl rfl ?_
      conv => whnf
      refine ⟨by simp only [size_add, z0, z1, z2, z3, z4, z5, z6, z7, z8, z9]; omega, ?_⟩
      conv => whnf
      refine ⟨by simp only [size_add, z0, z1, z2, z3, z4, z5, z6, z7, z8, z9]; omega, ?_⟩
      conv => whnf
      refine acall.pure _ (cB) rfl rfl ?_
      conv => whnf
      refine ⟨by simp only [size_add, z0, z1, z2, z3, z4, z5, z6, z7, z8, z9]; omega, ?_⟩
      conv => whnf
      refine ⟨by kernel_rfl, fun _ => ?_⟩
      conv => whnf
      exact ⟨.inl (congrArg ts (by unfold doesS; rw [h2]; rfl)), trivial⟩
    | false =>
      conv => whnf
      cases h3 : (op != 0) with
      | true =>
        conv => whnf
        refine acall.pure _ (cG) rfl rfl ?_
        conv => whnf
        refine ⟨by simp only [size_add, z0, z1, z2, z3, z4, z5, z6, z7, z8, z9]; omega, ?_⟩
        conv => whnf
        refine ⟨by simp only [size_add, z0, z1, z2, z3, z4, z5, z6, z7, z8, z9]; omega, ?_⟩
        conv => whnf
        refine acall.pure _ (cA) rfl rfl ?_
        conv => whnf
        refine ⟨by simp only [size_add, z0, z1, z2, z3, z4, z5, z6, z7, z8, z9]; omega, ?_⟩
        conv => whnf
        refine ⟨by kernel_rfl, fun _ => ?_⟩
        conv => whnf
        exact ⟨.inl (congrArg ts (by unfold doesS; rw [h2, h3]; rfl)), trivial⟩
      | false =>
        conv => whnf
        refine acall.pure _ (cA) rfl rfl fun _ => ?_
        conv => whnf
        refine ⟨by simp only [size_add, z0, z1, z2, z3, z4, z5, z6, z7, z8, z9]; omega, ?_⟩
        conv => whnf
        exact ⟨.inl (congrArg ts (by unfold doesS; rw [h2, h3]; rfl)), trivial⟩

  · replace cT := cT (by simp)
    conv => whnf
    refine acall.pure _ (cS) rfl rfl fun _ => ?_
    conv => whnf
    refine ⟨by simp only [size_add, z0, z1, z2, z3, z4, z5, z6, z7, z8, z9]; omega, ?_⟩
    conv => whnf
    refine acall.au [] [1, 0] (cT) ?_
    intro _
    conv => whnf
    refine ⟨by simp only [size_add, z0, z1, z2, z3, z4, z5, z6, z7, z8, z9]; omega, ?_⟩
    conv => whnf
    exact ⟨.inl rfl, trivial⟩
  · replace cT := cT (by simp)
    conv => whnf
    refine acall.au [] [1, 0] (cT) ?_
    conv => whnf
    refine ⟨by simp only [size_add, z0, z1, z2, z3, z4, z5, z6, z7, z8, z9]; omega, ?_⟩
    conv => whnf
    refine acall.pure _ (cA) rfl rfl ?_
    conv => whnf
    refine ⟨by simp only [size_add, z0, z1, z2, z3, z4, z5, z6, z7, z8, z9]; omega, ?_⟩
    conv => whnf
    refine ⟨by kernel_rfl, fun _ => ?_⟩
    conv => whnf
    exact ⟨.inl rfl, trivial⟩
  · replace cT := cT (by simp)
    conv => whnf
    refine acall.pure _ (cS) rfl rfl ?_
    conv => whnf
    refine ⟨by simp only [size_add, z0, z1, z2, z3, z4, z5, z6, z7, z8, z9]; omega, ?_⟩
    conv => whnf
    refine acall.au [] [1, 0] (cT) ?_
    conv => whnf
    refine ⟨by simp only [size_add, z0, z1, z2, z3, z4, z5, z6, z7, z8, z9]; omega, ?_⟩
    conv => whnf
    refine ⟨by simp only [size_add, z0, z1, z2, z3, z4, z5, z6, z7, z8, z9]; omega, ?_⟩
    conv => whnf
    refine acall.pure _ (cA) rfl rfl ?_
    conv => whnf
    refine ⟨by simp only [size_add, z0, z1, z2, z3, z4, z5, z6, z7, z8, z9]; omega, ?_⟩
    conv => whnf
    refine ⟨by kernel_rfl, fun _ => ?_⟩
    conv => whnf
    exact ⟨.inl rfl, trivial⟩
  · replace cT := cT (by simp)
    conv => whnf
    refine acall.au [] [1, 0] (cT) ?_
    intro _
    conv => whnf
    refine ⟨by simp only [size_add, z0, z1, z2, z3, z4, z5, z6, z7, z8, z9]; omega, ?_⟩
    conv => whnf
    exact ⟨.inl rfl, trivial⟩
  · replace cT := cT (by simp)
    conv => whnf
    refine acall.au [] [1, 0] (cT) ?_
    intro _
    conv => whnf
    refine ⟨by simp only [size_add, z0, z1, z2, z3, z4, z5, z6, z7, z8, z9]; omega, ?_⟩
    conv => whnf
    exact ⟨.inl rfl, trivial⟩
  · clear cT
    conv => whnf
    refine acall.pure _ (cA) rfl rfl fun _ => ?_
    conv => whnf
    refine ⟨by simp only [size_add, z0, z1, z2, z3, z4, z5, z6, z7, z8, z9]; omega, ?_⟩
    conv => whnf
    exact ⟨.inl rfl, trivial⟩
  · clear cT
    conv => whnf
    refine acall.pure _ (cA) rfl rfl fun _ => ?_
    conv => whnf
    refine ⟨by simp only [size_add, z0, z1, z2, z3, z4, z5, z6, z7, z8, z9]; omega, ?_⟩
    conv => whnf
    exact ⟨.inl rfl, trivial⟩
  · clear cT
    conv => whnf
    exact ⟨.inl rfl, trivial⟩
theorem doesS_len {kind op : Int} {S A B G T : ByteArray} (h1 : S.size ≤ 22) (h2 : A.size ≤ 22) (h3 : B.size ≤ 22) (h4 : G.size ≤ 2) (h5 : T.size ≤ 32) : (doesS kind op S A B G T).size ≤ 120 := by
  have z0 : (⟨#[115]⟩ : ByteArray).size = 1 := rfl
  have z1 : (⟨#[32, 61, 32]⟩ : ByteArray).size = 3 := rfl
  have z2 : (⟨#[32]⟩ : ByteArray).size = 1 := rfl
  have z3 : (⟨#[32, 61, 32, 115, 119, 97, 112, 32]⟩ : ByteArray).size = 8 := rfl
  have z4 : (⟨#[108, 111, 99, 107, 32]⟩ : ByteArray).size = 5 := rfl
  have z5 : (⟨#[117, 110, 108, 111, 99, 107, 32]⟩ : ByteArray).size = 7 := rfl
  have z6 : (⟨#[112, 114, 105, 110, 116, 32]⟩ : ByteArray).size = 6 := rfl
  have z7 : (⟨#[98, 114, 97, 110, 99, 104, 32]⟩ : ByteArray).size = 7 := rfl
  have z8 : (⟨#[101, 110, 100]⟩ : ByteArray).size = 3 := rfl
  have z9 : (⟨#[32, 45, 62, 32]⟩ : ByteArray).size = 4 := rfl
  unfold doesS
  cases kind == 1 with
  | true => cases two op <;> cases op != 0 <;> simp only [cond_true, cond_false, size_add, z0, z1, z2, z3, z4, z5, z6, z7, z8, z9] <;> omega
  | false =>
  rw [cond_false]
  cases kind == 2 with
  | true => simp only [cond_true, cond_false, size_add, z0, z1, z2, z3, z4, z5, z6, z7, z8, z9] <;> omega
  | false =>
  rw [cond_false]
  cases kind == 3 with
  | true => simp only [cond_true, cond_false, size_add, z0, z1, z2, z3, z4, z5, z6, z7, z8, z9] <;> omega
  | false =>
  rw [cond_false]
  cases kind == 4 with
  | true => simp only [cond_true, cond_false, size_add, z0, z1, z2, z3, z4, z5, z6, z7, z8, z9] <;> omega
  | false =>
  rw [cond_false]
  cases kind == 5 with
  | true => simp only [cond_true, cond_false, size_add, z0, z1, z2, z3, z4, z5, z6, z7, z8, z9] <;> omega
  | false =>
  rw [cond_false]
  cases kind == 6 with
  | true => simp only [cond_true, cond_false, size_add, z0, z1, z2, z3, z4, z5, z6, z7, z8, z9] <;> omega
  | false =>
  rw [cond_false]
  cases kind == 7 with
  | true => simp only [cond_true, cond_false, size_add, z0, z1, z2, z3, z4, z5, z6, z7, z8, z9] <;> omega
  | false =>
  rw [cond_false]
  cases kind == 8 with
  | true => simp only [cond_true, cond_false, size_add, z0, z1, z2, z3, z4, z5, z6, z7, z8, z9] <;> omega
  | false =>
  rw [cond_false]
  simp only [z0, z1, z2, z3, z4, z5, z6, z7, z8, z9]; omega
theorem textB_len {u : Un} {n : Nd} (h : TextOk u n) (hr : rngN n) : (textB u n).size ≤ 200 := by
  have z0 : (⟨#[115]⟩ : ByteArray).size = 1 := rfl
  have z1 : (⟨#[32, 61, 32]⟩ : ByteArray).size = 3 := rfl
  have z2 : (⟨#[32]⟩ : ByteArray).size = 1 := rfl
  have z3 : (⟨#[32, 61, 32, 115, 119, 97, 112, 32]⟩ : ByteArray).size = 8 := rfl
  have z4 : (⟨#[108, 111, 99, 107, 32]⟩ : ByteArray).size = 5 := rfl
  have z5 : (⟨#[117, 110, 108, 111, 99, 107, 32]⟩ : ByteArray).size = 7 := rfl
  have z6 : (⟨#[112, 114, 105, 110, 116, 32]⟩ : ByteArray).size = 6 := rfl
  have z7 : (⟨#[98, 114, 97, 110, 99, 104, 32]⟩ : ByteArray).size = 7 := rfl
  have z8 : (⟨#[101, 110, 100]⟩ : ByteArray).size = 3 := rfl
  have z9 : (⟨#[32, 45, 62, 32]⟩ : ByteArray).size = 4 := rfl
  have lS := slotB_len hr.1.1 hr.1.2
  have lA := valS_len hr.2.1
  have lB := valS_len hr.2.2.1
  have lN := prn_len hr.2.2.2.1.1 hr.2.2.2.1.2
  have lE := prn_len hr.2.2.2.2.1 hr.2.2.2.2.2
  have hd := doesS_len (kind := n.kind) (op := n.op) lS lA lB (sgn_len n.op.toNat) (thingB_len h)
  unfold textB textS
  cases n.kind == 9 <;> cases n.kind == 8 <;> simp only [cond_true, cond_false, size_add, z0, z1, z2, z3, z4, z5, z6, z7, z8, z9] <;> omega
set_option maxRecDepth 100000 in
theorem k_text (u : Un) (n : Nd) (h : TextOk u n) : K 75 [u.av, n.av] [] (.ret (.tr (ts (textB u n)))) [] := by
  have hd := k_does u n h
  have cN := k_itoa n.next
  have cE := k_itoa n.els
  refine Ctr.of hT hmix Tryz.func75 rfl (fun _ _ => by kernel_rfl) rfl fun hok => ?_
  have hr := rng_of (n := n) (fun t ht => ((hok.slot 1 rfl).agg (.tr t) (List.mem_map.2 ⟨t, ht, rfl⟩)).tr)
  clear hok
  have ld : (doesB u n).size ≤ 120 := doesS_len (slotB_len hr.1.1 hr.1.2) (valS_len hr.2.1) (valS_len hr.2.2.1) (sgn_len n.op.toNat) (thingB_len h)
  have lN := prn_len hr.2.2.2.1.1 hr.2.2.2.1.2
  have lE := prn_len hr.2.2.2.2.1 hr.2.2.2.2.2
  clear hr
  have z0 : (⟨#[115]⟩ : ByteArray).size = 1 := rfl
  have z1 : (⟨#[32, 61, 32]⟩ : ByteArray).size = 3 := rfl
  have z2 : (⟨#[32]⟩ : ByteArray).size = 1 := rfl
  have z3 : (⟨#[32, 61, 32, 115, 119, 97, 112, 32]⟩ : ByteArray).size = 8 := rfl
  have z4 : (⟨#[108, 111, 99, 107, 32]⟩ : ByteArray).size = 5 := rfl
  have z5 : (⟨#[117, 110, 108, 111, 99, 107, 32]⟩ : ByteArray).size = 7 := rfl
  have z6 : (⟨#[112, 114, 105, 110, 116, 32]⟩ : ByteArray).size = 6 := rfl
  have z7 : (⟨#[98, 114, 97, 110, 99, 104, 32]⟩ : ByteArray).size = 7 := rfl
  have z8 : (⟨#[101, 110, 100]⟩ : ByteArray).size = 3 := rfl
  have z9 : (⟨#[32, 45, 62, 32]⟩ : ByteArray).size = 4 := rfl
  have hR : textB u n = bif n.kind == 9 then doesB u n else bif n.kind == 8 then doesB u n ++ ((⟨#[32, 45, 62, 32]⟩ : ByteArray) ++ prnB n.next) ++ (⟨#[32]⟩ : ByteArray) ++ prnB n.els else doesB u n ++ ((⟨#[32, 45, 62, 32]⟩ : ByteArray) ++ prnB n.next) := rfl
  rw [hR]
  clear hR
  generalize doesB u n = DD at hd ld ⊢
  generalize prnB n.next = N at cN lN ⊢
  generalize prnB n.els = E at cE lE ⊢
  conv => whnf
  refine acall.pure _ (hd) rfl rfl fun _ => ?_
  conv => whnf
  cases h9 : (n.kind == 9) with
  | true =>
    have e9 : (n.kind != 9) = false := by rw [bne, h9]; rfl
    have e8 : (n.kind == 8) = false := by rw [eq_of_beq h9]; rfl
    rw [e9]
    conv => whnf
    rw [e8]
    conv => whnf
    exact ⟨.inl rfl, trivial⟩
  | false =>
    have e9 : (n.kind != 9) = true := by rw [bne, h9]; rfl
    rw [e9]
    conv => whnf
    refine acall.pure _ (cN) rfl rfl fun _ => ?_
    conv => whnf
    refine ⟨by simp only [size_add, z0, z1, z2, z3, z4, z5, z6, z7, z8, z9]; omega, ?_⟩
    conv => whnf
    refine ⟨by simp only [size_add, z0, z1, z2, z3, z4, z5, z6, z7, z8, z9]; omega, ?_⟩
    conv => whnf
    cases h8 : (n.kind == 8) with
    | true =>
      conv => whnf
      refine acall.pure _ (cE) rfl rfl fun _ => ?_
      conv => whnf
      refine ⟨by simp only [size_add, z0, z1, z2, z3, z4, z5, z6, z7, z8, z9]; omega, ?_⟩
      conv => whnf
      refine ⟨by simp only [size_add, z0, z1, z2, z3, z4, z5, z6, z7, z8, z9]; omega, ?_⟩
      conv => whnf
      exact ⟨.inl (congrArg ts (by rw [cond_false, cond_true, ByteArray.append_assoc (b := (⟨#[32]⟩ : ByteArray))])), trivial⟩
    | false =>
      conv => whnf
      exact ⟨.inl rfl, trivial⟩
set_option maxRecDepth 100000 in
set_option maxHeartbeats 4000000 in
theorem z_text (u : Un) (n : Nd) (h : TextOk u n) : K 77 [u.av, n.av] [] (.ret (.tr (ts (textB u n)))) [] := by
  unfold textB
  have cS := z_slotT n.slot
  have cA := z_valT n.a
  have cB := z_valT n.b
  have cG := z_show n.op h.op
  have lG := sgn_len n.op.toNat
  have lT := thingB_len h
  have htw := k_rtwo n.op
  have cN := z_print n.next
  have cE := z_print n.els
  refine Ctr.of hT hmix Tryz.func77 rfl (fun _ _ => by kernel_rfl) rfl fun hok => ?_
  have hr := rng_of (n := n) (fun t ht => ((hok.slot 1 rfl).agg (.tr t) (List.mem_map.2 ⟨t, ht, rfl⟩)).tr)
  clear hok
  have lS := slotB_len hr.1.1 hr.1.2
  have lA := valS_len hr.2.1
  have lB := valS_len hr.2.2.1
  have lN := prn_len hr.2.2.2.1.1 hr.2.2.2.1.2
  have lE := prn_len hr.2.2.2.2.1 hr.2.2.2.2.2
  clear hr
  have z0 : (⟨#[115]⟩ : ByteArray).size = 1 := rfl
  have z1 : (⟨#[32, 61, 32]⟩ : ByteArray).size = 3 := rfl
  have z2 : (⟨#[32]⟩ : ByteArray).size = 1 := rfl
  have z3 : (⟨#[32, 61, 32, 115, 119, 97, 112, 32]⟩ : ByteArray).size = 8 := rfl
  have z4 : (⟨#[108, 111, 99, 107, 32]⟩ : ByteArray).size = 5 := rfl
  have z5 : (⟨#[117, 110, 108, 111, 99, 107, 32]⟩ : ByteArray).size = 7 := rfl
  have z6 : (⟨#[112, 114, 105, 110, 116, 32]⟩ : ByteArray).size = 6 := rfl
  have z7 : (⟨#[98, 114, 97, 110, 99, 104, 32]⟩ : ByteArray).size = 7 := rfl
  have z8 : (⟨#[101, 110, 100]⟩ : ByteArray).size = 3 := rfl
  have z9 : (⟨#[32, 45, 62, 32]⟩ : ByteArray).size = 4 := rfl
  generalize slotB n.slot = S at cS lS ⊢
  generalize valS n.a = A at cA lA ⊢
  generalize valS n.b = B at cB lB ⊢
  generalize sgn n.op.toNat = G at cG lG ⊢
  generalize prnB n.next = N at cN lN ⊢
  generalize prnB n.els = E at cE lE ⊢
  generalize hTT : thingB u n = TT at lT ⊢
  have hk := h.kind
  obtain ⟨kind, op, slot, thing, va, vb, next, els, origin⟩ := n
  simp only at hk
  rcases hk with rfl | rfl | rfl | rfl | rfl | rfl | rfl | rfl | rfl
  · clear hTT
    conv => whnf
    refine acall.pure _ (cN) rfl rfl fun _ => ?_
    conv => whnf
    refine ⟨by simp only [size_add, z0, z1, z2, z3, z4, z5, z6, z7, z8, z9]; omega, ?_⟩
    conv => whnf
    refine acall.pure _ (cA) rfl rfl fun _ => ?_
    conv => whnf
    refine acall.pure _ (cS) rfl rfl fun _ => ?_
    conv => whnf
    refine ⟨by simp only [size_add, z0, z1, z2, z3, z4, z5, z6, z7, z8, z9]; omega, ?_⟩
    conv => whnf
    cases h3 : (op == 0) with
    | true =>
      have e3 : (op != 0) = false := by rw [bne, h3]; rfl
      have h2 : two op = false := by rw [eq_of_beq h3]; rfl
      conv => whnf
      refine ⟨by simp only [size_add, z0, z1, z2, z3, z4, z5, z6, z7, z8, z9]; omega, ?_⟩
      conv => whnf
      refine ⟨by simp only [size_add, z0, z1, z2, z3, z4, z5, z6, z7, z8, z9]; omega, ?_⟩
      conv => whnf
      exact ⟨.inl (congrArg ts (by unfold textS doesS; rw [h2, e3]; rfl)), trivial⟩
    | false =>
      have e3 : (op != 0) = true := by rw [bne, h3]; rfl
      conv => whnf
      refine acall.pure _ (htw) rfl rfl fun _ => ?_
      conv => whnf
      cases h2 : two op with
      | true =>
        conv => whnf
        refine ⟨by simp only [size_add, z0, z1, z2, z3, z4, z5, z6, z7, z8, z9]; omega, ?_⟩
        conv => whnf
        refine ⟨by simp only [size_add, z0, z1, z2, z3, z4, z5, z6, z7, z8, z9]; omega, ?_⟩
        conv => whnf
        refine acall.pure _ (cG) rfl rfl ?_
        conv => whnf
        refine ⟨by simp only [size_add, z0, z1, z2, z3, z4, z5, z6, z7, z8, z9]; omega, ?_⟩
        conv => whnf
        refine ⟨by simp only [size_add, z0, z1, z2, z3, z4, z5, z6, z7, z8, z9]; omega, ?_⟩
        conv => whnf
        refine acall.pure _ (cB) rfl rfl ?_
        conv => whnf
        refine ⟨by simp only [size_add, z0, z1, z2, z3, z4, z5, z6, z7, z8, z9]; omega, ?_⟩
        conv => whnf
        refine ⟨by simp only [size_add, z0, z1, z2, z3, z4, z5, z6, z7, z8, z9]; omega, ?_⟩
        conv => whnf
        refine ⟨by kernel_rfl, fun _ => ?_⟩
        conv => whnf
        exact ⟨.inl (congrArg ts (by unfold textS doesS; rw [h2]; rfl)), trivial⟩
      | false =>
        conv => whnf
        refine acall.pure _ (cG) rfl rfl fun _ => ?_
        conv => whnf
        refine ⟨by simp only [size_add, z0, z1, z2, z3, z4, z5, z6, z7, z8, z9]; omega, ?_⟩
        conv => whnf
        refine ⟨by simp only [size_add, z0, z1, z2, z3, z4, z5, z6, z7, z8, z9]; omega, ?_⟩
        conv => whnf
        refine ⟨by simp only [size_add, z0, z1, z2, z3, z4, z5, z6, z7, z8, z9]; omega, ?_⟩
        conv => whnf
        refine ⟨by simp only [size_add, z0, z1, z2, z3, z4, z5, z6, z7, z8, z9]; omega, ?_⟩
        conv => whnf
        exact ⟨.inl (congrArg ts (by unfold textS doesS; rw [h2, e3]; rfl)), trivial⟩
  · have hq := h.sh (by simp)
    conv => whnf
    refine acall.pure _ (cN) rfl rfl fun _ => ?_
    conv => whnf
    refine ⟨by simp only [size_add, z0, z1, z2, z3, z4, z5, z6, z7, z8, z9]; omega, ?_⟩
    conv => whnf
    refine acall.pure _ (cA) rfl rfl fun _ => ?_
    conv => whnf
    refine acall.pure _ (cS) rfl rfl ?_
    conv => whnf
    refine ⟨by simp only [size_add, z0, z1, z2, z3, z4, z5, z6, z7, z8, z9]; omega, ?_⟩
    conv => whnf
    refine ⟨rfl, (show (0 : Int) ≤ thing from hq.1), (show thing < ((u.shared.map Decl.cells).length : Int) by rw [List.length_map]; exact hq.2), fun row hrow => ?_⟩
    obtain ⟨d, hd, rfl⟩ := decl_get hrow
    obtain rfl : d.name = TT := by rw [← hTT]; show _ = nameAt u.shared thing; unfold nameAt; rw [hd]
    clear hrow hd
    conv => whnf
    refine ⟨by simp only [size_add, z0, z1, z2, z3, z4, z5, z6, z7, z8, z9]; omega, ?_⟩
    conv => whnf
    refine ⟨by simp only [size_add, z0, z1, z2, z3, z4, z5, z6, z7, z8, z9]; omega, ?_⟩
    conv => whnf
    refine ⟨by kernel_rfl, fun _ => ?_⟩
    conv => whnf
    exact ⟨.inl rfl, trivial⟩
  · have hq := h.sh (by simp)
    conv => whnf
    refine acall.pure _ (cN) rfl rfl fun _ => ?_
    conv => whnf
    refine ⟨by simp only [size_add, z0, z1, z2, z3, z4, z5, z6, z7, z8, z9]; omega, ?_⟩
    conv => whnf
    refine acall.pure _ (cA) rfl rfl fun _ => ?_
    conv => whnf
    refine ⟨rfl, (show (0 : Int) ≤ thing from hq.1), (show thing < ((u.shared.map Decl.cells).length : Int) by rw [List.length_map]; exact hq.2), fun row hrow => ?_⟩
    obtain ⟨d, hd, rfl⟩ := decl_get hrow
    obtain rfl : d.name = TT := by rw [← hTT]; show _ = nameAt u.shared thing; unfold nameAt; rw [hd]
    clear hrow hd
    conv => whnf
    refine ⟨by simp only [size_add, z0, z1, z2, z3, z4, z5, z6, z7, z8, z9]; omega, ?_⟩
    conv => whnf
    refine ⟨by simp only [size_add, z0, z1, z2, z3, z4, z5, z6, z7, z8, z9]; omega, ?_⟩
    conv => whnf
    refine ⟨by simp only [size_add, z0, z1, z2, z3, z4, z5, z6, z7, z8, z9]; omega, ?_⟩
    conv => whnf
    exact ⟨.inl rfl, trivial⟩
  · have hq := h.sh (by simp)
    conv => whnf
    refine acall.pure _ (cN) rfl rfl fun _ => ?_
    conv => whnf
    refine ⟨by simp only [size_add, z0, z1, z2, z3, z4, z5, z6, z7, z8, z9]; omega, ?_⟩
    conv => whnf
    refine acall.pure _ (cA) rfl rfl fun _ => ?_
    conv => whnf
    refine acall.pure _ (cS) rfl rfl ?_
    conv => whnf
    refine ⟨by simp only [size_add, z0, z1, z2, z3, z4, z5, z6, z7, z8, z9]; omega, ?_⟩
    conv => whnf
    refine ⟨rfl, (show (0 : Int) ≤ thing from hq.1), (show thing < ((u.shared.map Decl.cells).length : Int) by rw [List.length_map]; exact hq.2), fun row hrow => ?_⟩
    obtain ⟨d, hd, rfl⟩ := decl_get hrow
    obtain rfl : d.name = TT := by rw [← hTT]; show _ = nameAt u.shared thing; unfold nameAt; rw [hd]
    clear hrow hd
    conv => whnf
    refine ⟨by simp only [size_add, z0, z1, z2, z3, z4, z5, z6, z7, z8, z9]; omega, ?_⟩
    conv => whnf
    refine ⟨by simp only [size_add, z0, z1, z2, z3, z4, z5, z6, z7, z8, z9]; omega, ?_⟩
    conv => whnf
    refine ⟨by simp only [size_add, z0, z1, z2, z3, z4, z5, z6, z7, z8, z9]; omega, ?_⟩
    conv => whnf
    refine ⟨by simp only [size_add, z0, z1, z2, z3, z4, z5, z6, z7, z8, z9]; omega, ?_⟩
    conv => whnf
    refine ⟨by kernel_rfl, fun _ => ?_⟩
    conv => whnf
    exact ⟨.inl rfl, trivial⟩
  · have hq := h.lo (by simp)
    conv => whnf
    refine acall.pure _ (cN) rfl rfl fun _ => ?_
    conv => whnf
    refine ⟨by simp only [size_add, z0, z1, z2, z3, z4, z5, z6, z7, z8, z9]; omega, ?_⟩
    conv => whnf
    refine acall.pure _ (cA) rfl rfl fun _ => ?_
    conv => whnf
    refine ⟨rfl, (show (0 : Int) ≤ thing from hq.1), (show thing < ((u.locks.map Decl.cells).length : Int) by rw [List.length_map]; exact hq.2), fun row hrow => ?_⟩
    obtain ⟨d, hd, rfl⟩ := decl_get hrow
    obtain rfl : d.name = TT := by rw [← hTT]; show _ = nameAt u.locks thing; unfold nameAt; rw [hd]
    clear hrow hd
    conv => whnf
    refine ⟨by simp only [size_add, z0, z1, z2, z3, z4, z5, z6, z7, z8, z9]; omega, ?_⟩
    conv => whnf
    refine ⟨by simp only [size_add, z0, z1, z2, z3, z4, z5, z6, z7, z8, z9]; omega, ?_⟩
    conv => whnf
    exact ⟨.inl rfl, trivial⟩
  · have hq := h.lo (by simp)
    conv => whnf
    refine acall.pure _ (cN) rfl rfl fun _ => ?_
    conv => whnf
    refine ⟨by simp only [size_add, z0, z1, z2, z3, z4, z5, z6, z7, z8, z9]; omega, ?_⟩
    conv => whnf
    refine acall.pure _ (cA) rfl rfl fun _ => ?_
    conv => whnf
    refine ⟨rfl, (show (0 : Int) ≤ thing from hq.1), (show thing < ((u.locks.map Decl.cells).length : Int) by rw [List.length_map]; exact hq.2), fun row hrow => ?_⟩
    obtain ⟨d, hd, rfl⟩ := decl_get hrow
    obtain rfl : d.name = TT := by rw [← hTT]; show _ = nameAt u.locks thing; unfold nameAt; rw [hd]
    clear hrow hd
    conv => whnf
    refine ⟨by simp only [size_add, z0, z1, z2, z3, z4, z5, z6, z7, z8, z9]; omega, ?_⟩
    conv => whnf
    refine ⟨by simp only [size_add, z0, z1, z2, z3, z4, z5, z6, z7, z8, z9]; omega, ?_⟩
    conv => whnf
    exact ⟨.inl rfl, trivial⟩
  · conv => whnf
    refine acall.pure _ (cN) rfl rfl fun _ => ?_
    conv => whnf
    refine ⟨by simp only [size_add, z0, z1, z2, z3, z4, z5, z6, z7, z8, z9]; omega, ?_⟩
    conv => whnf
    refine acall.pure _ (cA) rfl rfl fun _ => ?_
    conv => whnf
    refine ⟨by simp only [size_add, z0, z1, z2, z3, z4, z5, z6, z7, z8, z9]; omega, ?_⟩
    conv => whnf
    refine ⟨by simp only [size_add, z0, z1, z2, z3, z4, z5, z6, z7, z8, z9]; omega, ?_⟩
    conv => whnf
    exact ⟨.inl rfl, trivial⟩
  · conv => whnf
    refine acall.pure _ (cN) rfl rfl fun _ => ?_
    conv => whnf
    refine ⟨by simp only [size_add, z0, z1, z2, z3, z4, z5, z6, z7, z8, z9]; omega, ?_⟩
    conv => whnf
    refine acall.pure _ (cA) rfl rfl fun _ => ?_
    conv => whnf
    refine ⟨by simp only [size_add, z0, z1, z2, z3, z4, z5, z6, z7, z8, z9]; omega, ?_⟩
    conv => whnf
    refine ⟨by simp only [size_add, z0, z1, z2, z3, z4, z5, z6, z7, z8, z9]; omega, ?_⟩
    conv => whnf
    refine ⟨by simp only [size_add, z0, z1, z2, z3, z4, z5, z6, z7, z8, z9]; omega, ?_⟩
    conv => whnf
    refine acall.pure _ (cE) rfl rfl fun _ => ?_
    conv => whnf
    refine ⟨by simp only [size_add, z0, z1, z2, z3, z4, z5, z6, z7, z8, z9]; omega, ?_⟩
    conv => whnf
    exact ⟨.inl rfl, trivial⟩
  · conv => whnf
    refine acall.pure _ (cN) rfl rfl fun _ => ?_
    conv => whnf
    refine ⟨by simp only [size_add, z0, z1, z2, z3, z4, z5, z6, z7, z8, z9]; omega, ?_⟩
    conv => whnf
    refine acall.pure _ (cA) rfl rfl fun _ => ?_
    conv => whnf
    exact ⟨.inl rfl, trivial⟩
end Go.Proofs.YthboippafkcoiaaGreatDoor.am

namespace Go.Proofs.YthboippafkcoiaaGreatDoor.am
open Go Go.Proofs
set_option linter.all false

theorem nameB_len {s : ByteArray} (h : nameB s = true) : s.size ≤ 32 := by
  unfold nameB at h
  cases hc : (decide ((s.size : Int) < 1) || decide ((s.size : Int) > 32) || digB (chI s 0) || wordB s) with
  | true => rw [hc] at h; cases h
  | false =>
    simp only [Bool.or_eq_false_iff] at hc
    have := of_decide_eq_false hc.1.1.2
    omega
theorem nmR_names (words : Bool) : ∀ (l : List Decl) (ah : List ByteArray), (nmR words ah l).2 = true → ∀ d ∈ l, d.name.size ≤ 32
  | [], _, _, _, h => by cases h
  | d :: r, ah, h, x, hx => by
    rw [nmR_cons] at h
    cases hh : nmOne words ah d with
    | false => rw [hh] at h; cases h
    | true =>
      rw [hh, cond_true] at h
      rcases List.mem_cons.1 hx with rfl | hx
      · unfold nmOne nmHead at hh
        simp only [Bool.and_eq_true] at hh
        exact nameB_len hh.1.1
      · exact nmR_names words r _ h x hx
structure ChkOk (u : Un) : Prop where
  sh : ∀ d ∈ u.shared, d.name.size ≤ 32
  lo : ∀ d ∈ u.locks, d.name.size ≤ 32
  gr : ∀ g ∈ u.graphs, g.name.size ≤ 32
  len : u.graphs.length ≤ 8
  nodes : ∀ g ∈ u.graphs, g.nodes.length ≤ 4096 ∧ ∀ n ∈ g.nodes, rightB u g n = true
theorem ndBad_right {u : Un} {g : Gr} : ∀ (l : List Nd) (i : Int), ndBad u g l i = none → ∀ n ∈ l, rightB u g n = true
  | [], _, _, _, h => by cases h
  | n :: r, i, h, x, hx => by
    have e : ndBad u g (n :: r) i = bif rightB u g n then ndBad u g r (i + 1) else some i := rfl
    rw [e] at h
    cases hr : rightB u g n with
    | false => rw [hr] at h; cases h
    | true =>
      rw [hr, cond_true] at h
      rcases List.mem_cons.1 hx with rfl | hx
      · exact hr
      · exact ndBad_right r _ h x hx
theorem ckG_nodes {u : Un} : ∀ (l : List Gr) (t : Int), (ckG u l t).1 = 0 → ∀ g ∈ l, g.nodes.length ≤ 4096 ∧ ∀ n ∈ g.nodes, rightB u g n = true
  | [], _, _, _, h => by cases h
  | g :: r, t, h, x, hx => by
    have e : ckG u (g :: r) t = bif grBad g then (60, t, 0) else contC g t (ckG u r (t + 1)) (ndBad u g g.nodes 0) := rfl
    rw [e] at h
    cases hb : grBad g with
    | true => rw [hb] at h; exact absurd (show (60 : Int) = 0 from h) (by decide)
    | false =>
      rw [hb, cond_false] at h
      cases hn : ndBad u g g.nodes 0 with
      | some i => rw [hn] at h; exact absurd (show (60 : Int) = 0 from h) (by decide)
      | none =>
        rw [hn] at h
        have e2 : contC g t (ckG u r (t + 1)) none = bif decide ((heldR g).2 ≥ 0) then (60, t, (heldR g).2) else ckG u r (t + 1) := rfl
        rw [e2] at h
        cases hh : decide ((heldR g).2 ≥ 0) with
        | true => rw [hh] at h; exact absurd (show (60 : Int) = 0 from h) (by decide)
        | false =>
          rw [hh, cond_false] at h
          rcases List.mem_cons.1 hx with rfl | hx
          · refine ⟨?_, ndBad_right _ _ hn⟩
            unfold grBad at hb
            simp only [Bool.or_eq_false_iff] at hb
            have := of_decide_eq_false hb.2
            omega
          · exact ckG_nodes r _ h x hx
theorem chk_ok {u : Un} (h : (checkU u).1 = 0) : ChkOk u := by
  unfold checkU at h
  cases hn : namedB u with
  | false => rw [hn] at h; exact absurd (show (60 : Int) = 0 from h) (by decide)
  | true =>
    rw [hn, cond_true] at h
    unfold namedB at hn
    cases hl : lensB u with
    | true => rw [hl] at hn; cases hn
    | false =>
      rw [hl, cond_false, nm1_r] at hn
      simp only [Bool.and_eq_true] at hn
      unfold lensB at hl
      simp only [Bool.or_eq_false_iff] at hl
      refine ⟨nmR_names _ _ _ hn.1, nmR_names _ _ _ hn.2.1, fun g hg => ?_, ?_, ckG_nodes _ _ h⟩
      · exact nmR_names _ _ _ hn.2.2 (thr g) (List.mem_map_of_mem hg)
      · have := of_decide_eq_false hl.2
        omega
theorem text_ok {u : Un} {g : Gr} {n : Nd} (hc : ChkOk u) (hg : g ∈ u.graphs) (hn : n ∈ g.nodes) (h0 : 0 ≤ n.kind) (ho : 0 ≤ n.op) : TextOk u n := by
  have h := (hc.nodes g hg).2 n hn
  unfold rightB at h
  cases hh : headR n with
  | true => rw [hh] at h; cases h
  | false =>
    rw [hh, cond_false] at h
    unfold headR at hh
    simp only [Bool.or_eq_false_iff] at hh
    have hk := kinds hh.1.1.1 hh.1.1.2 h0
    unfold fieldsR at h
    simp only [Bool.and_eq_true] at h
    have ht := h.1.1.1.1.2
    clear h hh hn
    obtain ⟨kind, op, slot, thing, a, b, next, els, origin⟩ := n
    refine ⟨hk, ho, fun hq => ?_, fun hq => ?_, hc.sh, hc.lo⟩ <;> simp only at hq ht
    · rcases hq with rfl | rfl | rfl <;> exact within_hi ht (by kernel_rfl)
    · rcases hq with rfl | rfl <;> exact within_hi ht (by kernel_rfl)

def showG (u : Un) (g : Gr) (a : Int) : ByteArray := bif decide (a < 0) then (⟨#[]⟩ : ByteArray) else bif decide (a ≥ ((g.nodes.map Nd.cells).length : Int)) then (⟨#[]⟩ : ByteArray) else match g.nodes[a.toNat]? with | some n => textB u n | none => (⟨#[]⟩ : ByteArray)
def showU (u : Un) (t a : Int) : ByteArray := bif (checkU u).1 != 0 then (⟨#[]⟩ : ByteArray) else bif decide (t < 0) then (⟨#[]⟩ : ByteArray) else bif decide (t ≥ ((u.graphs.map Gr.cells).length : Int)) then (⟨#[]⟩ : ByteArray) else match u.graphs[t.toNat]? with | some g => showG u g a | none => (⟨#[]⟩ : ByteArray)
set_option maxRecDepth 100000 in
theorem k_showU (u : Un) (t a : Int) : K 35 [u.av, .tr (ti t), .tr (ti a)] [] (.ret (.tr (ts (showU u t a)))) [] := by
  have hc := k_check u
  have hC := fun h => chk_ok (u := u) h
  have hS : showU u t a = bif (checkU u).1 != 0 then (⟨#[]⟩ : ByteArray) else bif decide (t < 0) then (⟨#[]⟩ : ByteArray) else bif decide (t ≥ ((u.graphs.map Gr.cells).length : Int)) then (⟨#[]⟩ : ByteArray) else match u.graphs[t.toNat]? with | some g => showG u g a | none => (⟨#[]⟩ : ByteArray) := rfl
  generalize showU u t a = R at hS ⊢
  generalize checkU u = C at hc hC hS
  obtain ⟨c1, c2, c3⟩ := C
  simp only at hC hS
  refine Ctr.of hT hmix Tryz.func35 rfl (fun _ _ => by kernel_rfl) rfl fun hok => ?_
  obtain ⟨_, hl3, hrw⟩ := ((hok.slot 0 rfl).agg _ (.tail _ (.tail _ (.head _)))).tr.lst
  have hbd : ∀ g ∈ u.graphs, ∀ n ∈ g.nodes, 0 ≤ n.kind ∧ 0 ≤ n.op := fun g hg n hnn => by
    have h1 := (hrw g.cells (List.mem_map_of_mem hg)).2 (nodesT g.nodes) (.tail _ (.tail _ (.tail _ (.head _))))
    have h2 := (h1.lst.2.2 n.cells (List.mem_map_of_mem hnn)).2
    have h3 := (h2 (tu n.kind) (.head _)).u8
    have h4 := (h2 (tu n.op) (.tail _ (.head _))).u8
    exact ⟨h3.1, h4.1⟩
  rw [List.length_map] at hl3
  clear hok hrw
  conv => whnf
  refine acall.pure _ (hc) rfl rfl fun _ => ?_
  conv => whnf
  cases h1 : (c1 != 0) with
  | true =>
    conv => whnf
    have hRf : R = (⟨#[]⟩ : ByteArray) := by rw [hS, h1]; rfl
    exact ⟨.inl (by rw [hRf]), trivial⟩
  | false =>
  conv => whnf
  cases h2 : decide (t < 0) with
  | true =>
    conv => whnf
    have hRf : R = (⟨#[]⟩ : ByteArray) := by rw [hS, h1, h2]; rfl
    exact ⟨.inl (by rw [hRf]), trivial⟩
  | false =>
  conv => whnf
  cases h3 : decide (t ≥ ((u.graphs.map Gr.cells).length : Int)) with
  | true =>
    conv => whnf
    have hRf : R = (⟨#[]⟩ : ByteArray) := by rw [hS, h1, h2, h3]; rfl
    exact ⟨.inl (by rw [hRf]), trivial⟩
  | false =>
  have ht0 := of_decide_eq_false h2
  have ht1 := of_decide_eq_false h3
  rw [List.length_map] at ht1
  obtain ⟨g, hg⟩ : ∃ g, u.graphs[t.toNat]? = some g := ⟨_, List.getElem?_eq_getElem (by omega)⟩
  have hgm := List.mem_of_getElem? hg
  replace hS : R = showG u g a := by rw [hS, h1, h2, h3, hg]; rfl
  unfold showG at hS
  conv => whnf
  cases h4 : decide (a < 0) with
  | true =>
    conv => whnf
    have hRf : R = (⟨#[]⟩ : ByteArray) := by rw [hS, h4]; rfl
    exact ⟨.inl (by rw [hRf]), trivial⟩
  | false =>
  conv => whnf
  refine ⟨rfl, (by omega), (by have := of_decide_eq_false h3; omega), fun row hrow => ?_⟩
  obtain ⟨d, hd, rfl⟩ := gr_get hrow
  obtain rfl := Option.some.inj (hg.symm.trans hd)
  clear hrow hd
  conv => whnf
  cases h5 : decide (a ≥ ((g.nodes.map Nd.cells).length : Int)) with
  | true =>
    conv => whnf
    have hRf : R = (⟨#[]⟩ : ByteArray) := by rw [hS, h4, h5]; rfl
    exact ⟨.inl (by rw [hRf]), trivial⟩
  | false =>
  have ha0 := of_decide_eq_false h4
  have ha1 := of_decide_eq_false h5
  rw [List.length_map] at ha1
  obtain ⟨n, hn⟩ : ∃ n, g.nodes[a.toNat]? = some n := ⟨_, List.getElem?_eq_getElem (by omega)⟩
  have hnm := List.mem_of_getElem? hn
  replace hS : R = textB u n := by rw [hS, h4, h5, hn]; rfl
  have hT := k_text u n (text_ok (hC (by have e := h1; rw [bne_eq_false_iff_eq] at e; exact e)) hgm hnm (hbd g hgm n hnm).1 (hbd g hgm n hnm).2)
  rw [← hS] at hT
  conv => whnf
  refine ⟨rfl, (by omega), (by have := of_decide_eq_false h3; omega), fun row hrow => ?_⟩
  obtain ⟨d, hd, rfl⟩ := gr_get hrow
  obtain rfl := Option.some.inj (hg.symm.trans hd)
  clear hrow hd
  conv => whnf
  refine ⟨rfl, (by omega), (by have := of_decide_eq_false h5; omega), fun row hrow => ?_⟩
  obtain ⟨d, hd, rfl⟩ := nd_get hrow
  obtain rfl := Option.some.inj (hn.symm.trans hd)
  clear hrow hd
  conv => whnf
  refine acall.pure _ (hT) rfl rfl ?_
  conv => whnf
  refine ⟨by kernel_rfl, fun _ => ?_⟩
  conv => whnf
  exact ⟨.inl rfl, trivial⟩
set_option maxRecDepth 100000 in
theorem z_showU (u : Un) (t a : Int) : K 36 [u.av, .tr (ti t), .tr (ti a)] [] (.ret (.tr (ts (showU u t a)))) [] := by
  have hc := k_rcheck u
  have hC := fun h => chk_ok (u := u) h
  have hS : showU u t a = bif (checkU u).1 != 0 then (⟨#[]⟩ : ByteArray) else bif decide (t < 0) then (⟨#[]⟩ : ByteArray) else bif decide (t ≥ ((u.graphs.map Gr.cells).length : Int)) then (⟨#[]⟩ : ByteArray) else match u.graphs[t.toNat]? with | some g => showG u g a | none => (⟨#[]⟩ : ByteArray) := rfl
  generalize showU u t a = R at hS ⊢
  generalize checkU u = C at hc hC hS
  obtain ⟨c1, c2, c3⟩ := C
  simp only at hC hS
  refine Ctr.of hT hmix Tryz.func36 rfl (fun _ _ => by kernel_rfl) rfl fun hok => ?_
  obtain ⟨_, hl3, hrw⟩ := ((hok.slot 0 rfl).agg _ (.tail _ (.tail _ (.head _)))).tr.lst
  have hbd : ∀ g ∈ u.graphs, ∀ n ∈ g.nodes, 0 ≤ n.kind ∧ 0 ≤ n.op := fun g hg n hnn => by
    have h1 := (hrw g.cells (List.mem_map_of_mem hg)).2 (nodesT g.nodes) (.tail _ (.tail _ (.tail _ (.head _))))
    have h2 := (h1.lst.2.2 n.cells (List.mem_map_of_mem hnn)).2
    have h3 := (h2 (tu n.kind) (.head _)).u8
    have h4 := (h2 (tu n.op) (.tail _ (.head _))).u8
    exact ⟨h3.1, h4.1⟩
  rw [List.length_map] at hl3
  clear hok hrw
  conv => whnf
  refine acall.pure _ (hc) rfl rfl fun _ => ?_
  conv => whnf
  cases h1 : (c1 != 0) with
  | true =>
    conv => whnf
    have hRf : R = (⟨#[]⟩ : ByteArray) := by rw [hS, h1]; rfl
    exact ⟨.inl (by rw [hRf]), trivial⟩
  | false =>
  conv => whnf
  cases h2 : decide (t < 0) with
  | true =>
    conv => whnf
    have hRf : R = (⟨#[]⟩ : ByteArray) := by rw [hS, h1, h2]; rfl
    exact ⟨.inl (by rw [hRf]), trivial⟩
  | false =>
  conv => whnf
  cases h3 : decide (t ≥ ((u.graphs.map Gr.cells).length : Int)) with
  | true =>
    conv => whnf
    have hRf : R = (⟨#[]⟩ : ByteArray) := by rw [hS, h1, h2, h3]; rfl
    exact ⟨.inl (by rw [hRf]), trivial⟩
  | false =>
  have ht0 := of_decide_eq_false h2
  have ht1 := of_decide_eq_false h3
  rw [List.length_map] at ht1
  obtain ⟨g, hg⟩ : ∃ g, u.graphs[t.toNat]? = some g := ⟨_, List.getElem?_eq_getElem (by omega)⟩
  have hgm := List.mem_of_getElem? hg
  replace hS : R = showG u g a := by rw [hS, h1, h2, h3, hg]; rfl
  unfold showG at hS
  conv => whnf
  cases h4 : decide (a < 0) with
  | true =>
    conv => whnf
    have hRf : R = (⟨#[]⟩ : ByteArray) := by rw [hS, h4]; rfl
    exact ⟨.inl (by rw [hRf]), trivial⟩
  | false =>
  conv => whnf
  refine ⟨rfl, (by omega), (by have := of_decide_eq_false h3; omega), fun row hrow => ?_⟩
  obtain ⟨d, hd, rfl⟩ := gr_get hrow
  obtain rfl := Option.some.inj (hg.symm.trans hd)
  clear hrow hd
  conv => whnf
  cases h5 : decide (a ≥ ((g.nodes.map Nd.cells).length : Int)) with
  | true =>
    conv => whnf
    have hRf : R = (⟨#[]⟩ : ByteArray) := by rw [hS, h4, h5]; rfl
    exact ⟨.inl (by rw [hRf]), trivial⟩
  | false =>
  have ha0 := of_decide_eq_false h4
  have ha1 := of_decide_eq_false h5
  rw [List.length_map] at ha1
  obtain ⟨n, hn⟩ : ∃ n, g.nodes[a.toNat]? = some n := ⟨_, List.getElem?_eq_getElem (by omega)⟩
  have hnm := List.mem_of_getElem? hn
  replace hS : R = textB u n := by rw [hS, h4, h5, hn]; rfl
  have hT := z_text u n (text_ok (hC (by have e := h1; rw [bne_eq_false_iff_eq] at e; exact e)) hgm hnm (hbd g hgm n hnm).1 (hbd g hgm n hnm).2)
  rw [← hS] at hT
  conv => whnf
  refine ⟨rfl, (by omega), (by have := of_decide_eq_false h3; omega), fun row hrow => ?_⟩
  obtain ⟨d, hd, rfl⟩ := gr_get hrow
  obtain rfl := Option.some.inj (hg.symm.trans hd)
  clear hrow hd
  conv => whnf
  refine ⟨rfl, (by omega), (by have := of_decide_eq_false h5; omega), fun row hrow => ?_⟩
  obtain ⟨d, hd, rfl⟩ := nd_get hrow
  obtain rfl := Option.some.inj (hn.symm.trans hd)
  clear hrow hd
  conv => whnf
  refine acall.pure _ (hT) rfl rfl ?_
  conv => whnf
  refine ⟨by kernel_rfl, fun _ => ?_⟩
  conv => whnf
  exact ⟨.inl rfl, trivial⟩
end Go.Proofs.YthboippafkcoiaaGreatDoor.am

namespace Go.Proofs.YthboippafkcoiaaGreatDoor.am
open Go Go.Proofs
set_option linter.all false

abbrev byB (l : List UInt8) : Blk := .vec 5 1 1 (brows l)
theorem by_app (r s : List UInt8) : (brows r).take r.length ++ brows s = brows (r ++ s) := by
  rw [List.take_of_length_le (Nat.le_of_eq (brows_len r))]; simp [brows]
theorem by_add (l : List UInt8) (s : ByteArray) : l.length + s.size = (l ++ s.data.toList).length := by simp
theorem by_dat (s : ByteArray) : s.data.toList.length = s.size := by simp
theorem by_src {m : Mem} {h e n : Nat} {l : List UInt8} (hm : m h = some (.vec e 1 1 (brows l))) (hn : n = l.length) : srcRows 1 m (.sl h n) = some (brows l, [(h, .vec e 1 1 (brows l))]) := by
  subst hn
  show (match m h with | some (.vec e n' B rows) => bif Nat.beq 1 n' && Nat.ble l.length rows.length then some (rows.take l.length, [(h, Blk.vec e n' B rows)]) else none | _ => none) = _
  rw [hm]
  simp only [Nat.beq_refl, Bool.true_and]
  rw [show Nat.ble l.length (brows l).length = true from Nat.ble_eq_true_of_le (by simp [brows]), List.take_of_length_le (by simp [brows])]
  rfl
def lineG (g : Gr) : List UInt8 := ((⟨#[116, 104, 114, 101, 97, 100, 32]⟩ : ByteArray) ++ g.name ++ (⟨#[10]⟩ : ByteArray)).data.toList
def lineN (u : Un) (n : Nd) (i : Nat) : List UInt8 := (prnB (i : Nat) ++ (⟨#[32]⟩ : ByteArray) ++ textB u n ++ (⟨#[10]⟩ : ByteArray)).data.toList
def prN (u : Un) : List Nd → Nat → List UInt8 → Option (List UInt8)
  | [], _, l => some l
  | n :: r, i, l => bif decide (((l ++ lineN u n i).length : Int) > 16777216) then none else prN u r (i + 1) (l ++ lineN u n i)
def contP (K : List UInt8 → Option (List UInt8)) : Option (List UInt8) → Option (List UInt8)
  | none => none
  | some l => K l
def prG (u : Un) : List Gr → List UInt8 → Option (List UInt8)
  | [], l => some l
  | g :: r, l => contP (prG u r) (prN u g.nodes 0 (l ++ lineG g))
def outP : Option (List UInt8) → ByteArray × Int
  | none => ((⟨#[]⟩ : ByteArray), 4)
  | some l => (⟨l.toArray⟩, 0)
def printU (u : Un) : ByteArray × Int := bif (checkU u).1 != 0 then ((⟨#[]⟩ : ByteArray), (checkU u).1) else outP (prG u u.graphs [])
set_option maxRecDepth 100000 in
set_option maxHeartbeats 4000000 in
theorem k_printU (u : Un) : K 33 [u.av] [] (.ret (.tup [.tr (ts (printU u).1), .tr (ti (printU u).2)])) [] := by
  have hc := k_check u
  have hC := fun h => chk_ok (u := u) h
  have hS : printU u = bif (checkU u).1 != 0 then ((⟨#[]⟩ : ByteArray), (checkU u).1) else outP (prG u u.graphs []) := rfl
  generalize printU u = R at hS ⊢
  generalize checkU u = C at hc hC hS
  obtain ⟨c1, c2, c3⟩ := C
  simp only at hC hS
  have z1 : (⟨#[116, 104, 114, 101, 97, 100, 32]⟩ : ByteArray).size = 7 := rfl
  have z2 : (⟨#[32]⟩ : ByteArray).size = 1 := rfl
  have z3 : (⟨#[10]⟩ : ByteArray).size = 1 := rfl
  refine Ctr.of hT hmix Tryz.func33 rfl (fun _ _ => by kernel_rfl) rfl fun hok => ?_
  obtain ⟨_, hl3, hrw⟩ := ((hok.slot 0 rfl).agg _ (.tail _ (.tail _ (.head _)))).tr.lst
  have hbd : ∀ g ∈ u.graphs, ∀ n ∈ g.nodes, 0 ≤ n.kind ∧ 0 ≤ n.op := fun g hg n hnn => by
    have h1 := (hrw g.cells (List.mem_map_of_mem hg)).2 (nodesT g.nodes) (.tail _ (.tail _ (.tail _ (.head _))))
    have h2 := (h1.lst.2.2 n.cells (List.mem_map_of_mem hnn)).2
    have h3 := (h2 (tu n.kind) (.head _)).u8
    have h4 := (h2 (tu n.op) (.tail _ (.head _))).u8
    exact ⟨h3.1, h4.1⟩
  have hrg : ∀ g ∈ u.graphs, ∀ n ∈ g.nodes, rngN n := fun g hg n hnn => by
    have h1 := (hrw g.cells (List.mem_map_of_mem hg)).2 (nodesT g.nodes) (.tail _ (.tail _ (.tail _ (.head _))))
    exact rng_of (h1.lst.2.2 n.cells (List.mem_map_of_mem hnn)).2
  clear hok hrw
  conv => whnf
  refine acall.pure _ (hc) rfl rfl fun _ => ?_
  conv => whnf
  cases h1 : (c1 != 0) with
  | true =>
    conv => whnf
    have hRf : R = ((⟨#[]⟩ : ByteArray), c1) := by rw [hS, h1]; rfl
    exact ⟨⟨.inl (by rw [hRf]), .inl (by rw [hRf]), trivial⟩, trivial⟩
  | false =>
  replace hC := hC (by have e := h1; rw [bne_eq_false_iff_eq] at e; exact e)
  replace hS : R = outP (prG u u.graphs []) := by rw [hS, h1]; rfl
  have hgl := hC.len
  clear hc h1
  obtain ⟨Q, hQ⟩ : ∃ Q, Q = prG u u.graphs [] := ⟨_, rfl⟩
  rw [← hQ] at hS
  conv => whnf
  refine LoopL.by (fun x : List UInt8 × Nat => ⟨[(1, .ptr 0 0), (7, .sl 1 x.1.length), (22, .tr (graphsT u.graphs)), (23, .tr (ti ((u.graphs.map Gr.cells).length : Nat))), (24, .tr (ti (x.2 : Nat)))], [(0, .cells 29 [.tr (declsT u.shared), .tr (declsT u.locks), .tr (graphsT u.graphs)]), (1, byB x.1)], 10⟩)
    (fun x => x.2 ≤ u.graphs.length ∧ Q = prG u (u.graphs.drop x.2) x.1 ∧ x.1.length ≤ 16777216 + 40 * x.2) (fun x => u.graphs.length - x.2) ([], 0) [_] [1]
    (Sub.mk' rfl ⟨⟨rfl, rfl⟩, ⟨rfl, rfl, rfl, rfl⟩, .inl rfl, .inl rfl, .inl rfl, trivial⟩ ⟨⟨rfl, .inl rfl, .inl rfl, .inl rfl, trivial⟩, ⟨rfl, _, _, _, rfl, by decide⟩, trivial⟩ rfl rfl) ⟨Nat.zero_le _, hQ, Nat.zero_le _⟩ ?_
  clear hQ
  rintro ⟨l, i⟩ ⟨hi, hQ, hlen⟩ -
  simp only at hi hQ hlen
  conv => whnf
  refine csplit (fun hit => ?_) (fun hit => ?_)
  · replace hit : i < u.graphs.length := by have : decide ((i : Int) < ((u.graphs.map Gr.cells).length : Int)) = true := hit; have := of_decide_eq_true this; rw [List.length_map] at this; omega
    obtain ⟨g, hg⟩ : ∃ g, u.graphs[i]? = some g := ⟨_, List.getElem?_eq_getElem hit⟩
    have hgm := List.mem_of_getElem? hg
    have hgn := hC.gr g hgm
    have hnl := (hC.nodes g hgm).1
    rw [drop_cons hg] at hQ
    replace hQ : Q = contP (prG u (u.graphs.drop (i + 1))) (prN u g.nodes 0 (l ++ lineG g)) := hQ
    obtain ⟨K0, hK0⟩ : ∃ K0, K0 = contP (prG u (u.graphs.drop (i + 1))) := ⟨_, rfl⟩
    rw [← hK0] at hQ
    have hlg : (l ++ lineG g).length ≤ 16777216 + 40 * (i + 1) := by unfold lineG; simp only [List.length_append, by_dat, size_add, z1, z3]; omega
    conv => whnf
    refine ⟨rfl, (show (0 : Int) ≤ i by omega), (show (i : Int) < ((u.graphs.map Gr.cells).length : Int) by rw [List.length_map]; omega), fun row hrow => ?_⟩
    obtain ⟨d, hd, rfl⟩ := gr_get hrow
    obtain rfl := Option.some.inj (hg.symm.trans hd)
    clear hrow hd
    conv => whnf
    refine ⟨by simp only [z1]; omega, ?_⟩
    conv => whnf
    refine ⟨by simp only [size_add, z1, z3]; omega, ?_⟩
    conv => whnf
    refine ⟨rfl, rfl, rfl, by simp [brows], by simp only [size_add, z1, z3]; omega, ?_⟩
    conv => whnf
    refine LoopL.by (fun y : List UInt8 × Nat => ⟨[(1, .ptr 0 0), (7, .sl 1 y.1.length), (22, .tr (graphsT u.graphs)), (23, .tr (ti ((u.graphs.map Gr.cells).length : Nat))), (24, .tr (ti (i : Nat))), (35, .tr (nodesT g.nodes)), (36, .tr (ti ((g.nodes.map Nd.cells).length : Nat))), (37, .tr (ti (y.2 : Nat)))], [(0, .cells 29 [.tr (declsT u.shared), .tr (declsT u.locks), .tr (graphsT u.graphs)]), (1, byB y.1)], 10⟩)
      (fun y => y.2 ≤ g.nodes.length ∧ Q = K0 (prN u (g.nodes.drop y.2) y.2 y.1) ∧ y.1.length ≤ 16777216 + 40 * (i + 1)) (fun y => g.nodes.length - y.2) (l ++ lineG g, 0) [0, _] []
      (Sub.mk' rfl ⟨⟨rfl, rfl⟩, ⟨rfl, by_add _ _⟩, .inl rfl, .inl rfl, .inl rfl, .inl rfl, .inl rfl, .inl rfl, trivial⟩ ⟨⟨rfl, .inl rfl, .inl rfl, .inl rfl, trivial⟩, ⟨rfl, rfl, rfl, by_app _ _⟩, trivial⟩ rfl rfl) ⟨Nat.zero_le _, hQ, hlg⟩ ?_
    clear hQ hlg hlen
    rintro ⟨l, j⟩ ⟨hj, hQ, hlen⟩ -
    simp only at hj hQ hlen
    conv => whnf
    refine csplit (fun hit2 => ?_) (fun hit2 => ?_)
    · replace hit2 : j < g.nodes.length := by have : decide ((j : Int) < ((g.nodes.map Nd.cells).length : Int)) = true := hit2; have := of_decide_eq_true this; rw [List.length_map] at this; omega
      obtain ⟨n, hn⟩ : ∃ n, g.nodes[j]? = some n := ⟨_, List.getElem?_eq_getElem hit2⟩
      have hnm := List.mem_of_getElem? hn
      have hto := text_ok hC hgm hnm (hbd g hgm n hnm).1 (hbd g hgm n hnm).2
      have hT := k_text u n hto
      have lT := textB_len hto (hrg g hgm n hnm)
      have lI : (prnB (j : Int)).size ≤ 21 := prn_len (by omega) (by omega)
      have hI := k_itoa (j : Int)
      rw [drop_cons hn] at hQ
      replace hQ : Q = K0 (bif decide (((l ++ lineN u n j).length : Int) > 16777216) then none else prN u (g.nodes.drop (j + 1)) (j + 1) (l ++ lineN u n j)) := hQ
      have hL : lineN u n j = (prnB (j : Nat) ++ (⟨#[32]⟩ : ByteArray) ++ textB u n ++ (⟨#[10]⟩ : ByteArray)).data.toList := rfl
      generalize lineN u n j = L at hQ hL
      generalize textB u n = X at hT lT hL
      generalize prnB (j : Int) = Y at hI lI hL
      have hll : l.length + (Y ++ (⟨#[32]⟩ : ByteArray) ++ X ++ (⟨#[10]⟩ : ByteArray)).size = (l ++ L).length := by rw [hL]; exact by_add _ _
      conv => whnf
      refine ⟨rfl, (show (0 : Int) ≤ j by omega), (show (j : Int) < ((g.nodes.map Nd.cells).length : Int) by rw [List.length_map]; omega), fun row hrow => ?_⟩
      obtain ⟨d, hd, rfl⟩ := nd_get hrow
      obtain rfl := Option.some.inj (hn.symm.trans hd)
      clear hrow hd
      conv => whnf
      refine acall.pure _ (hI) rfl rfl ?_
      conv => whnf
      refine ⟨by simp only [z2]; omega, ?_⟩
      conv => whnf
      refine acall.pure _ (hT) rfl rfl ?_
      conv => whnf
      refine ⟨by simp only [size_add, z2]; omega, ?_⟩
      conv => whnf
      refine ⟨by simp only [size_add, z2, z3]; omega, ?_⟩
      conv => whnf
      refine ⟨rfl, rfl, rfl, by simp [brows], by simp only [size_add, z2, z3]; omega, ?_⟩
      conv => whnf
      refine ⟨by kernel_rfl, fun _ => ?_⟩
      conv => whnf
      refine csplit (fun hbig => ?_) (fun hbig => ?_)
      · replace hbig : decide (((l ++ L).length : Int) > 16777216) = true := by rw [← hll]; exact hbig
        rw [hbig] at hQ
        conv => whnf
        have hRf : R = ((⟨#[]⟩ : ByteArray), 4) := by rw [hS, hQ, hK0]; rfl
        exact ⟨⟨.inl (by rw [hRf]), .inl (by rw [hRf]), trivial⟩, trivial⟩
      replace hbig : decide (((l ++ L).length : Int) > 16777216) = false := by rw [← hll]; exact hbig
      rw [hbig, cond_false] at hQ
      have hlen2 : (l ++ L).length ≤ 16777216 + 40 * (i + 1) := by have := of_decide_eq_false hbig; omega
      conv => whnf
      exact ⟨(l ++ L, j + 1), [0, _], [], Sub.mk' rfl ⟨⟨rfl, rfl⟩, ⟨rfl, hll⟩, .inl rfl, .inl rfl, .inl rfl, .inl rfl, .inl rfl, .inl (ti_succ hit2 (by omega)), trivial⟩ ⟨⟨rfl, .inl rfl, .inl rfl, .inl rfl, trivial⟩, ⟨rfl, rfl, rfl, by rw [hL]; exact by_app _ _⟩, trivial⟩ rfl rfl, ⟨hit2, hQ, hlen2⟩, by show g.nodes.length - (j + 1) < g.nodes.length - j; omega⟩
    replace hit2 : g.nodes.length ≤ j := by have : decide ((j : Int) < ((g.nodes.map Nd.cells).length : Int)) = false := hit2; have := of_decide_eq_false this; rw [List.length_map] at this; omega
    rw [List.drop_eq_nil_of_le hit2, hK0] at hQ
    replace hQ : Q = prG u (u.graphs.drop (i + 1)) l := hQ
    conv => whnf
    refine ⟨fun _ => ?_, fun h => absurd rfl h⟩
    conv => whnf
    exact ⟨(l, i + 1), [0, 1], [], Sub.mk' rfl ⟨⟨rfl, rfl⟩, ⟨rfl, rfl⟩, .inl rfl, .inl rfl, .inl (ti_succ hit (by omega)), trivial⟩ ⟨⟨rfl, .inl rfl, .inl rfl, .inl rfl, trivial⟩, ⟨rfl, rfl, rfl, rfl⟩, trivial⟩ rfl rfl, ⟨hit, hQ, hlen⟩, by show u.graphs.length - (i + 1) < u.graphs.length - i; omega⟩
  replace hit : u.graphs.length ≤ i := by have : decide ((i : Int) < ((u.graphs.map Gr.cells).length : Int)) = false := hit; have := of_decide_eq_false this; rw [List.length_map] at this; omega
  rw [List.drop_eq_nil_of_le hit] at hQ
  replace hQ : Q = some l := hQ
  have hRf : R = (⟨l.toArray⟩, 0) := by rw [hS, hQ]; rfl
  conv => whnf
  refine ⟨fun _ => ?_, fun h => absurd rfl h⟩
  conv => whnf
  rw [by_src (h := 1) (l := l) (e := 5) ?hm rfl]
  case hm => rfl
  conv => whnf
  refine ⟨l, rfl, by omega, ?_⟩
  conv => whnf
  exact ⟨⟨.inl (by rw [hRf]), .inl (by rw [hRf]), trivial⟩, trivial⟩
set_option maxRecDepth 100000 in
set_option maxHeartbeats 4000000 in
theorem z_printU (u : Un) : K 34 [u.av] [] (.ret (.tup [.tr (ts (printU u).1), .tr (ti (printU u).2)])) [] := by
  have hc := k_rcheck u
  have hC := fun h => chk_ok (u := u) h
  have hS : printU u = bif (checkU u).1 != 0 then ((⟨#[]⟩ : ByteArray), (checkU u).1) else outP (prG u u.graphs []) := rfl
  generalize printU u = R at hS ⊢
  generalize checkU u = C at hc hC hS
  obtain ⟨c1, c2, c3⟩ := C
  simp only at hC hS
  have z1 : (⟨#[116, 104, 114, 101, 97, 100, 32]⟩ : ByteArray).size = 7 := rfl
  have z2 : (⟨#[32]⟩ : ByteArray).size = 1 := rfl
  have z3 : (⟨#[10]⟩ : ByteArray).size = 1 := rfl
  refine Ctr.of hT hmix Tryz.func34 rfl (fun _ _ => by kernel_rfl) rfl fun hok => ?_
  obtain ⟨_, hl3, hrw⟩ := ((hok.slot 0 rfl).agg _ (.tail _ (.tail _ (.head _)))).tr.lst
  have hbd : ∀ g ∈ u.graphs, ∀ n ∈ g.nodes, 0 ≤ n.kind ∧ 0 ≤ n.op := fun g hg n hnn => by
    have h1 := (hrw g.cells (List.mem_map_of_mem hg)).2 (nodesT g.nodes) (.tail _ (.tail _ (.tail _ (.head _))))
    have h2 := (h1.lst.2.2 n.cells (List.mem_map_of_mem hnn)).2
    have h3 := (h2 (tu n.kind) (.head _)).u8
    have h4 := (h2 (tu n.op) (.tail _ (.head _))).u8
    exact ⟨h3.1, h4.1⟩
  have hrg : ∀ g ∈ u.graphs, ∀ n ∈ g.nodes, rngN n := fun g hg n hnn => by
    have h1 := (hrw g.cells (List.mem_map_of_mem hg)).2 (nodesT g.nodes) (.tail _ (.tail _ (.tail _ (.head _))))
    exact rng_of (h1.lst.2.2 n.cells (List.mem_map_of_mem hnn)).2
  clear hok hrw
  conv => whnf
  refine acall.pure _ (hc) rfl rfl fun _ => ?_
  conv => whnf
  cases h1 : (c1 != 0) with
  | true =>
    conv => whnf
    have hRf : R = ((⟨#[]⟩ : ByteArray), c1) := by rw [hS, h1]; rfl
    exact ⟨⟨.inl (by rw [hRf]), .inl (by rw [hRf]), trivial⟩, trivial⟩
  | false =>
  replace hC := hC (by have e := h1; rw [bne_eq_false_iff_eq] at e; exact e)
  replace hS : R = outP (prG u u.graphs []) := by rw [hS, h1]; rfl
  have hgl := hC.len
  clear hc h1
  obtain ⟨Q, hQ⟩ : ∃ Q, Q = prG u u.graphs [] := ⟨_, rfl⟩
  rw [← hQ] at hS
  conv => whnf
  refine LoopL.by (fun x : List UInt8 × Nat => ⟨[(1, .ptr 0 0), (7, .sl 1 x.1.length), (8, .tr (ti (x.2 : Nat)))], [(0, .cells 29 [.tr (declsT u.shared), .tr (declsT u.locks), .tr (graphsT u.graphs)]), (1, byB x.1)], 10⟩)
    (fun x => x.2 ≤ u.graphs.length ∧ Q = prG u (u.graphs.drop x.2) x.1 ∧ x.1.length ≤ 16777216 + 40 * x.2) (fun x => u.graphs.length - x.2) ([], 0) [_] [1]
    (Sub.mk' rfl ⟨⟨rfl, rfl⟩, ⟨rfl, rfl, rfl, rfl⟩, .inl rfl, trivial⟩ ⟨⟨rfl, .inl rfl, .inl rfl, .inl rfl, trivial⟩, ⟨rfl, _, _, _, rfl, by decide⟩, trivial⟩ rfl rfl) ⟨Nat.zero_le _, hQ, Nat.zero_le _⟩ ?_
  clear hQ
  rintro ⟨l, i⟩ ⟨hi, hQ, hlen⟩ -
  simp only at hi hQ hlen
  conv => whnf
  refine csplit (fun hit => ?_) (fun hit => ?_)
  · replace hit : i < u.graphs.length := by have : decide ((i : Int) < ((u.graphs.map Gr.cells).length : Int)) = true := hit; have := of_decide_eq_true this; rw [List.length_map] at this; omega
    obtain ⟨g, hg⟩ : ∃ g, u.graphs[i]? = some g := ⟨_, List.getElem?_eq_getElem hit⟩
    have hgm := List.mem_of_getElem? hg
    have hgn := hC.gr g hgm
    have hnl := (hC.nodes g hgm).1
    rw [drop_cons hg] at hQ
    replace hQ : Q = contP (prG u (u.graphs.drop (i + 1))) (prN u g.nodes 0 (l ++ lineG g)) := hQ
    obtain ⟨K0, hK0⟩ : ∃ K0, K0 = contP (prG u (u.graphs.drop (i + 1))) := ⟨_, rfl⟩
    rw [← hK0] at hQ
    have hlg : (l ++ lineG g).length ≤ 16777216 + 40 * (i + 1) := by unfold lineG; simp only [List.length_append, by_dat, size_add, z1, z3]; omega
    conv => whnf
    refine ⟨rfl, (show (0 : Int) ≤ i by omega), (show (i : Int) < ((u.graphs.map Gr.cells).length : Int) by rw [List.length_map]; omega), fun row hrow => ?_⟩
    obtain ⟨d, hd, rfl⟩ := gr_get hrow
    obtain rfl := Option.some.inj (hg.symm.trans hd)
    clear hrow hd
    conv => whnf
    refine ⟨by simp only [z1]; omega, ?_⟩
    conv => whnf
    refine ⟨by simp only [size_add, z1, z3]; omega, ?_⟩
    conv => whnf
    refine ⟨rfl, rfl, rfl, by simp [brows], by simp only [size_add, z1, z3]; omega, ?_⟩
    conv => whnf
    refine LoopL.by (fun y : List UInt8 × Nat => ⟨[(1, .ptr 0 0), (7, .sl 1 y.1.length), (8, .tr (ti (i : Nat))), (9, .tr (ti (y.2 : Nat)))], [(0, .cells 29 [.tr (declsT u.shared), .tr (declsT u.locks), .tr (graphsT u.graphs)]), (1, byB y.1)], 10⟩)
      (fun y => y.2 ≤ g.nodes.length ∧ Q = K0 (prN u (g.nodes.drop y.2) y.2 y.1) ∧ y.1.length ≤ 16777216 + 40 * (i + 1)) (fun y => g.nodes.length - y.2) (l ++ lineG g, 0) [0, _] []
      (Sub.mk' rfl ⟨⟨rfl, rfl⟩, ⟨rfl, by_add _ _⟩, .inl rfl, .inl rfl, trivial⟩ ⟨⟨rfl, .inl rfl, .inl rfl, .inl rfl, trivial⟩, ⟨rfl, rfl, rfl, by_app _ _⟩, trivial⟩ rfl rfl) ⟨Nat.zero_le _, hQ, hlg⟩ ?_
    clear hQ hlg hlen
    rintro ⟨l, j⟩ ⟨hj, hQ, hlen⟩ -
    simp only at hj hQ hlen
    conv => whnf
    refine ⟨rfl, (show (0 : Int) ≤ i by omega), (show (i : Int) < ((u.graphs.map Gr.cells).length : Int) by rw [List.length_map]; omega), fun row hrow => ?_⟩
    obtain ⟨d, hd, rfl⟩ := gr_get hrow
    obtain rfl := Option.some.inj (hg.symm.trans hd)
    clear hrow hd
    conv => whnf
    refine csplit (fun hit2 => ?_) (fun hit2 => ?_)
    · replace hit2 : j < g.nodes.length := by have : decide ((j : Int) < ((g.nodes.map Nd.cells).length : Int)) = true := hit2; have := of_decide_eq_true this; rw [List.length_map] at this; omega
      obtain ⟨n, hn⟩ : ∃ n, g.nodes[j]? = some n := ⟨_, List.getElem?_eq_getElem hit2⟩
      have hnm := List.mem_of_getElem? hn
      have hto := text_ok hC hgm hnm (hbd g hgm n hnm).1 (hbd g hgm n hnm).2
      have hT := z_text u n hto
      have lT := textB_len hto (hrg g hgm n hnm)
      have lI : (prnB (j : Int)).size ≤ 21 := prn_len (by omega) (by omega)
      have hI := z_print (j : Int)
      rw [drop_cons hn] at hQ
      replace hQ : Q = K0 (bif decide (((l ++ lineN u n j).length : Int) > 16777216) then none else prN u (g.nodes.drop (j + 1)) (j + 1) (l ++ lineN u n j)) := hQ
      have hL : lineN u n j = (prnB (j : Nat) ++ (⟨#[32]⟩ : ByteArray) ++ textB u n ++ (⟨#[10]⟩ : ByteArray)).data.toList := rfl
      generalize lineN u n j = L at hQ hL
      generalize textB u n = X at hT lT hL
      generalize prnB (j : Int) = Y at hI lI hL
      have hll : l.length + (Y ++ (⟨#[32]⟩ : ByteArray) ++ X ++ (⟨#[10]⟩ : ByteArray)).size = (l ++ L).length := by rw [hL]; exact by_add _ _
      conv => whnf
      refine acall.pure _ (hI) rfl rfl ?_
      conv => whnf
      refine ⟨by simp only [z2]; omega, ?_⟩
      conv => whnf
      refine ⟨rfl, (show (0 : Int) ≤ i by omega), (show (i : Int) < ((u.graphs.map Gr.cells).length : Int) by rw [List.length_map]; omega), fun row hrow => ?_⟩
      obtain ⟨d, hd, rfl⟩ := gr_get hrow
      obtain rfl := Option.some.inj (hg.symm.trans hd)
      clear hrow hd
      conv => whnf
      refine ⟨rfl, (show (0 : Int) ≤ j by omega), (show (j : Int) < ((g.nodes.map Nd.cells).length : Int) by rw [List.length_map]; omega), fun row hrow => ?_⟩
      obtain ⟨d, hd, rfl⟩ := nd_get hrow
      obtain rfl := Option.some.inj (hn.symm.trans hd)
      clear hrow hd
      conv => whnf
      refine acall.pure _ (hT) rfl rfl ?_
      conv => whnf
      refine ⟨by simp only [size_add, z2]; omega, ?_⟩
      conv => whnf
      refine ⟨by simp only [size_add, z2, z3]; omega, ?_⟩
      conv => whnf
      refine ⟨rfl, rfl, rfl, by simp [brows], by simp only [size_add, z2, z3]; omega, ?_⟩
      conv => whnf
      refine ⟨by kernel_rfl, fun _ => ?_⟩
      conv => whnf
      refine csplit (fun hbig => ?_) (fun hbig => ?_)
      · replace hbig : decide (((l ++ L).length : Int) > 16777216) = true := by rw [← hll]; exact hbig
        rw [hbig] at hQ
        conv => whnf
        have hRf : R = ((⟨#[]⟩ : ByteArray), 4) := by rw [hS, hQ, hK0]; rfl
        exact ⟨⟨.inl (by rw [hRf]), .inl (by rw [hRf]), trivial⟩, trivial⟩
      replace hbig : decide (((l ++ L).length : Int) > 16777216) = false := by rw [← hll]; exact hbig
      rw [hbig, cond_false] at hQ
      have hlen2 : (l ++ L).length ≤ 16777216 + 40 * (i + 1) := by have := of_decide_eq_false hbig; omega
      conv => whnf
      exact ⟨(l ++ L, j + 1), [0, _], [], Sub.mk' rfl ⟨⟨rfl, rfl⟩, ⟨rfl, hll⟩, .inl rfl, .inl (ti_succ hit2 (by omega)), trivial⟩ ⟨⟨rfl, .inl rfl, .inl rfl, .inl rfl, trivial⟩, ⟨rfl, rfl, rfl, by rw [hL]; exact by_app _ _⟩, trivial⟩ rfl rfl, ⟨hit2, hQ, hlen2⟩, by show g.nodes.length - (j + 1) < g.nodes.length - j; omega⟩
    replace hit2 : g.nodes.length ≤ j := by have : decide ((j : Int) < ((g.nodes.map Nd.cells).length : Int)) = false := hit2; have := of_decide_eq_false this; rw [List.length_map] at this; omega
    rw [List.drop_eq_nil_of_le hit2, hK0] at hQ
    replace hQ : Q = prG u (u.graphs.drop (i + 1)) l := hQ
    conv => whnf
    refine ⟨fun _ => ?_, fun h => absurd rfl h⟩
    conv => whnf
    exact ⟨(l, i + 1), [0, 1], [], Sub.mk' rfl ⟨⟨rfl, rfl⟩, ⟨rfl, rfl⟩, .inl (ti_succ hit (by omega)), trivial⟩ ⟨⟨rfl, .inl rfl, .inl rfl, .inl rfl, trivial⟩, ⟨rfl, rfl, rfl, rfl⟩, trivial⟩ rfl rfl, ⟨hit, hQ, hlen⟩, by show u.graphs.length - (i + 1) < u.graphs.length - i; omega⟩
  replace hit : u.graphs.length ≤ i := by have : decide ((i : Int) < ((u.graphs.map Gr.cells).length : Int)) = false := hit; have := of_decide_eq_false this; rw [List.length_map] at this; omega
  rw [List.drop_eq_nil_of_le hit] at hQ
  replace hQ : Q = some l := hQ
  have hRf : R = (⟨l.toArray⟩, 0) := by rw [hS, hQ]; rfl
  conv => whnf
  refine ⟨fun _ => ?_, fun h => absurd rfl h⟩
  conv => whnf
  rw [by_src (h := 1) (l := l) (e := 5) ?hm rfl]
  case hm => rfl
  conv => whnf
  refine ⟨l, rfl, by omega, ?_⟩
  conv => whnf
  exact ⟨⟨.inl (by rw [hRf]), .inl (by rw [hRf]), trivial⟩, trivial⟩
end Go.Proofs.YthboippafkcoiaaGreatDoor.am

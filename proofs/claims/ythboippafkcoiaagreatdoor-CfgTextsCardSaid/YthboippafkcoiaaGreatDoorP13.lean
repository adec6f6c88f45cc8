/- Contracts of cfg.Same; the law CfgTexts. -/
import Derived.Test.YthboippafkcoiaaGreatDoorP12
set_option linter.all false

namespace Go.Proofs.YthboippafkcoiaaGreatDoor.am
open Go Go.Proofs
set_option linter.all false

set_option maxRecDepth 100000 in
theorem k_eqD (l l' : List Decl) : K 78 [.tr (declsT l), .tr (declsT l')] [] (.ret (.tr (tb (eqLL dcEq l l')))) [] := by
  have h1 : (l.map Decl.cells).length = l.length := List.length_map ..
  have h2 : (l'.map Decl.cells).length = l'.length := List.length_map ..
  refine Ctr.of hT hmix Tryz.func78 rfl (fun _ _ => by kernel_rfl) rfl fun hok => ?_
  obtain ⟨_, hl1, _⟩ := (hok.slot 0 rfl).tr.lst
  rw [List.length_map] at hl1
  clear hok
  conv => whnf
  cases hc : (((l.map Decl.cells).length : Int) != ((l'.map Decl.cells).length : Int)) with
  | true =>
    conv => whnf
    exact ⟨.inl (congrArg tb (by rw [h1, h2] at hc; unfold eqLL; rw [hc]; rfl)), trivial⟩
  | false =>
  have hE : eqLL dcEq l l' = eqL dcEq l l' := by rw [h1, h2] at hc; unfold eqLL; rw [hc]; rfl
  have hll : l.length = l'.length := by
    rw [h1, h2] at hc
    refine Classical.byContradiction fun w => ?_
    rw [bne_iff_ne.2 (fun e => w (by omega))] at hc
    cases hc
  rw [hE]
  generalize hR : eqL dcEq l l' = R
  clear hE hc
  conv => whnf
  refine LoopL.by (fun i : Nat => ⟨[(0, .tr (declsT l)), (1, .tr (declsT l')), (12, .tr (ti ((l.map Decl.cells).length : Nat))), (13, .tr (ti (i : Nat)))], [], 10⟩) (fun i => i ≤ l.length ∧ R = eqL dcEq (l.drop i) (l'.drop i)) (fun i => l.length - i) 0 [] []
    (Sub.mk' rfl ⟨.inl rfl, .inl rfl, .inl rfl, .inl rfl, trivial⟩ trivial rfl rfl) ⟨Nat.zero_le _, hR.symm⟩ ?_
  clear hR
  rintro i ⟨hi, hR⟩ -
  conv => whnf
  refine csplit (fun hit => ?_) (fun hit => ?_)
  · replace hit : i < l.length := by have : decide ((i : Int) < ((l.map Decl.cells).length : Int)) = true := hit; have := of_decide_eq_true this; omega
    obtain ⟨a, ha⟩ : ∃ a, l[i]? = some a := ⟨_, List.getElem?_eq_getElem hit⟩
    obtain ⟨b, hb⟩ : ∃ b, l'[i]? = some b := ⟨_, List.getElem?_eq_getElem (by omega)⟩
    rw [drop_cons ha, drop_cons hb] at hR
    obtain ⟨q, hq⟩ : ∃ q, dcEq a b = q := ⟨_, rfl⟩
    have hR2 : R = bif !q then false else eqL dcEq (l.drop (i + 1)) (l'.drop (i + 1)) := by rw [hR]; show (bif !(dcEq a b) then false else _) = _; rw [hq]
    clear hR
    conv => whnf
    refine ⟨rfl, (show (0 : Int) ≤ i by omega), (show (i : Int) < ((l.map Decl.cells).length : Int) by omega), fun row hrow => ?_⟩
    obtain ⟨d, hd, rfl⟩ := decl_get hrow
    obtain rfl := Option.some.inj (ha.symm.trans hd)
    clear hrow hd
    conv => whnf
    refine ⟨rfl, (show (0 : Int) ≤ i by omega), (show (i : Int) < ((l'.map Decl.cells).length : Int) by omega), fun row hrow => ?_⟩
    obtain ⟨d, hd, rfl⟩ := decl_get hrow
    obtain rfl := Option.some.inj (hb.symm.trans hd)
    clear hrow hd
    unfold dcEq at hq
    conv => whnf
    rw [hq]
    refine ⟨by kernel_rfl, fun _ => ?_⟩
    conv => whnf
    cases q with
    | false =>
      conv => whnf
      exact ⟨.inl (congrArg tb hR2.symm), trivial⟩
    | true =>
      conv => whnf
      exact ⟨i + 1, [], [], Sub.mk' rfl ⟨.inl rfl, .inl rfl, .inl rfl, .inl (ti_succ hit (by omega)), trivial⟩ trivial rfl rfl, ⟨hit, hR2⟩, by show l.length - (i + 1) < l.length - i; omega⟩
  replace hit : l.length ≤ i := by have : decide ((i : Int) < ((l.map Decl.cells).length : Int)) = false := hit; have := of_decide_eq_false this; omega
  rw [List.drop_of_length_le hit, List.drop_of_length_le (by omega)] at hR
  conv => whnf
  refine ⟨fun _ => ?_, fun h => absurd rfl h⟩
  conv => whnf
  exact ⟨.inl (by rw [hR]; rfl), trivial⟩
set_option maxRecDepth 100000 in
theorem k_eqNd (l l' : List Nd) : K 81 [.tr (nodesT l), .tr (nodesT l')] [] (.ret (.tr (tb (eqLL ndEq l l')))) [] := by
  have h1 : (l.map Nd.cells).length = l.length := List.length_map ..
  have h2 : (l'.map Nd.cells).length = l'.length := List.length_map ..
  refine Ctr.of hT hmix Tryz.func81 rfl (fun _ _ => by kernel_rfl) rfl fun hok => ?_
  obtain ⟨_, hl1, _⟩ := (hok.slot 0 rfl).tr.lst
  rw [List.length_map] at hl1
  clear hok
  conv => whnf
  cases hc : (((l.map Nd.cells).length : Int) != ((l'.map Nd.cells).length : Int)) with
  | true =>
    conv => whnf
    exact ⟨.inl (congrArg tb (by rw [h1, h2] at hc; unfold eqLL; rw [hc]; rfl)), trivial⟩
  | false =>
  have hE : eqLL ndEq l l' = eqL ndEq l l' := by rw [h1, h2] at hc; unfold eqLL; rw [hc]; rfl
  have hll : l.length = l'.length := by
    rw [h1, h2] at hc
    refine Classical.byContradiction fun w => ?_
    rw [bne_iff_ne.2 (fun e => w (by omega))] at hc
    cases hc
  rw [hE]
  generalize hR : eqL ndEq l l' = R
  clear hE hc
  conv => whnf
  refine LoopL.by (fun i : Nat => ⟨[(0, .tr (nodesT l)), (1, .tr (nodesT l')), (12, .tr (ti ((l.map Nd.cells).length : Nat))), (13, .tr (ti (i : Nat)))], [], 10⟩) (fun i => i ≤ l.length ∧ R = eqL ndEq (l.drop i) (l'.drop i)) (fun i => l.length - i) 0 [] []
    (Sub.mk' rfl ⟨.inl rfl, .inl rfl, .inl rfl, .inl rfl, trivial⟩ trivial rfl rfl) ⟨Nat.zero_le _, hR.symm⟩ ?_
  clear hR
  rintro i ⟨hi, hR⟩ -
  conv => whnf
  refine csplit (fun hit => ?_) (fun hit => ?_)
  · replace hit : i < l.length := by have : decide ((i : Int) < ((l.map Nd.cells).length : Int)) = true := hit; have := of_decide_eq_true this; omega
    obtain ⟨a, ha⟩ : ∃ a, l[i]? = some a := ⟨_, List.getElem?_eq_getElem hit⟩
    obtain ⟨b, hb⟩ : ∃ b, l'[i]? = some b := ⟨_, List.getElem?_eq_getElem (by omega)⟩
    rw [drop_cons ha, drop_cons hb] at hR
    obtain ⟨q, hq⟩ : ∃ q, ndEq a b = q := ⟨_, rfl⟩
    have hR2 : R = bif !q then false else eqL ndEq (l.drop (i + 1)) (l'.drop (i + 1)) := by rw [hR]; show (bif !(ndEq a b) then false else _) = _; rw [hq]
    clear hR
    conv => whnf
    refine ⟨rfl, (show (0 : Int) ≤ i by omega), (show (i : Int) < ((l.map Nd.cells).length : Int) by omega), fun row hrow => ?_⟩
    obtain ⟨d, hd, rfl⟩ := nd_get hrow
    obtain rfl := Option.some.inj (ha.symm.trans hd)
    clear hrow hd
    conv => whnf
    refine ⟨rfl, (show (0 : Int) ≤ i by omega), (show (i : Int) < ((l'.map Nd.cells).length : Int) by omega), fun row hrow => ?_⟩
    obtain ⟨d, hd, rfl⟩ := nd_get hrow
    obtain rfl := Option.some.inj (hb.symm.trans hd)
    clear hrow hd
    unfold ndEq vlEq at hq
    conv => whnf
    rw [hq]
    refine ⟨by kernel_rfl, fun _ => ?_⟩
    conv => whnf
    cases q with
    | false =>
      conv => whnf
      exact ⟨.inl (congrArg tb hR2.symm), trivial⟩
    | true =>
      conv => whnf
      exact ⟨i + 1, [], [], Sub.mk' rfl ⟨.inl rfl, .inl rfl, .inl rfl, .inl (ti_succ hit (by omega)), trivial⟩ trivial rfl rfl, ⟨hit, hR2⟩, by show l.length - (i + 1) < l.length - i; omega⟩
  replace hit : l.length ≤ i := by have : decide ((i : Int) < ((l.map Nd.cells).length : Int)) = false := hit; have := of_decide_eq_false this; omega
  rw [List.drop_of_length_le hit, List.drop_of_length_le (by omega)] at hR
  conv => whnf
  refine ⟨fun _ => ?_, fun h => absurd rfl h⟩
  conv => whnf
  exact ⟨.inl (by rw [hR]; rfl), trivial⟩
set_option maxRecDepth 100000 in
theorem k_same1 (a b : Gr) : K 80 [a.av, b.av] [] (.ret (.tr (tb (grEq a b)))) [] := by
  have hR : grEq a b = bif (!(a.name.toList == b.name.toList) || (a.locals != b.locals) || (a.slots != b.slots) || ((a.nodes.length : Int) != (b.nodes.length : Int))) then false else eqL ndEq a.nodes b.nodes := rfl
  have hq := k_eqNd a.nodes b.nodes
  have hQ : eqLL ndEq a.nodes b.nodes = bif ((a.nodes.length : Int) != (b.nodes.length : Int)) then false else eqL ndEq a.nodes b.nodes := rfl
  generalize eqLL ndEq a.nodes b.nodes = Q at hq hQ
  replace hR : grEq a b = ((a.name.toList == b.name.toList) && (a.locals == b.locals) && (a.slots == b.slots) && Q) := by
    rw [hR, hQ]
    cases (a.name.toList == b.name.toList) <;> cases h1 : (a.locals == b.locals) <;> cases h2 : (a.slots == b.slots) <;> cases ((a.nodes.length : Int) != (b.nodes.length : Int)) <;> simp [bne, h1, h2]
  generalize grEq a b = R at hR ⊢
  obtain ⟨na, la, sa, l⟩ := a
  obtain ⟨nb, lb, sb, l'⟩ := b
  simp only at hR hq
  refine Ctr.of hT hmix Tryz.func80 rfl (fun _ _ => by kernel_rfl) rfl fun hok => ?_
  clear hok
  conv => whnf
  cases c1 : (na.toList == nb.toList) with
  | false =>
    conv => whnf
    exact ⟨.inl (congrArg tb (by rw [hR, c1]; rfl)), trivial⟩
  | true =>
  rw [c1] at hR
  conv => whnf
  cases c2 : (la == lb) with
  | false =>
    conv => whnf
    exact ⟨.inl (congrArg tb (by rw [hR, c2]; rfl)), trivial⟩
  | true =>
  rw [c2] at hR
  conv => whnf
  cases c3 : (sa == sb) with
  | false =>
    conv => whnf
    exact ⟨.inl (congrArg tb (by rw [hR, c3]; rfl)), trivial⟩
  | true =>
  rw [c3] at hR
  conv => whnf
  refine acall.pure _ (hq) rfl rfl fun _ => ?_
  conv => whnf
  exact ⟨.inl (congrArg tb (by rw [hR]; rfl)), trivial⟩
set_option maxRecDepth 100000 in
theorem k_eqG (l l' : List Gr) : K 79 [.tr (graphsT l), .tr (graphsT l'), .fn 80 []] [] (.ret (.tr (tb (eqLL grEq l l')))) [] := by
  have h1 : (l.map Gr.cells).length = l.length := List.length_map ..
  have h2 : (l'.map Gr.cells).length = l'.length := List.length_map ..
  refine Ctr.of hT hmix Tryz.func79 rfl (fun _ _ => by kernel_rfl) rfl fun hok => ?_
  obtain ⟨_, hl1, _⟩ := (hok.slot 0 rfl).tr.lst
  rw [List.length_map] at hl1
  clear hok
  conv => whnf
  cases hc : (((l.map Gr.cells).length : Int) != ((l'.map Gr.cells).length : Int)) with
  | true =>
    conv => whnf
    exact ⟨.inl (congrArg tb (by rw [h1, h2] at hc; unfold eqLL; rw [hc]; rfl)), trivial⟩
  | false =>
  have hE : eqLL grEq l l' = eqL grEq l l' := by rw [h1, h2] at hc; unfold eqLL; rw [hc]; rfl
  have hll : l.length = l'.length := by
    rw [h1, h2] at hc
    refine Classical.byContradiction fun w => ?_
    rw [bne_iff_ne.2 (fun e => w (by omega))] at hc
    cases hc
  rw [hE]
  generalize hR : eqL grEq l l' = R
  clear hE hc
  conv => whnf
  refine LoopL.by (fun i : Nat => ⟨[(0, .tr (graphsT l)), (1, .tr (graphsT l')), (2, .fn 80 []), (15, .tr (graphsT l)), (16, .tr (ti ((l.map Gr.cells).length : Nat))), (17, .tr (ti (i : Nat)))], [], 10⟩) (fun i => i ≤ l.length ∧ R = eqL grEq (l.drop i) (l'.drop i)) (fun i => l.length - i) 0 [] []
    (Sub.mk' rfl aut trivial rfl rfl) ⟨Nat.zero_le _, hR.symm⟩ ?_
  clear hR
  rintro i ⟨hi, hR⟩ -
  conv => whnf
  refine csplit (fun hit => ?_) (fun hit => ?_)
  · replace hit : i < l.length := by have : decide ((i : Int) < ((l.map Gr.cells).length : Int)) = true := hit; have := of_decide_eq_true this; omega
    obtain ⟨a, ha⟩ : ∃ a, l[i]? = some a := ⟨_, List.getElem?_eq_getElem hit⟩
    obtain ⟨b, hb⟩ : ∃ b, l'[i]? = some b := ⟨_, List.getElem?_eq_getElem (by omega)⟩
    rw [drop_cons ha, drop_cons hb] at hR
    have hs := k_same1 a b
    obtain ⟨q, hq⟩ : ∃ q, grEq a b = q := ⟨_, rfl⟩
    have hR2 : R = bif !q then false else eqL grEq (l.drop (i + 1)) (l'.drop (i + 1)) := by rw [hR]; show (bif !(grEq a b) then false else _) = _; rw [hq]
    rw [hq] at hs
    clear hR
    conv => whnf
    refine ⟨rfl, (show (0 : Int) ≤ i by omega), (show (i : Int) < ((l.map Gr.cells).length : Int) by omega), fun row hrow => ?_⟩
    obtain ⟨d, hd, rfl⟩ := gr_get hrow
    obtain rfl := Option.some.inj (ha.symm.trans hd)
    clear hrow hd
    conv => whnf
    refine ⟨rfl, (show (0 : Int) ≤ i by omega), (show (i : Int) < ((l'.map Gr.cells).length : Int) by omega), fun row hrow => ?_⟩
    obtain ⟨d, hd, rfl⟩ := gr_get hrow
    obtain rfl := Option.some.inj (hb.symm.trans hd)
    clear hrow hd
    conv => whnf
    refine acall.pure _ (hs) rfl rfl fun _ => ?_
    conv => whnf
    cases q with
    | false =>
      conv => whnf
      exact ⟨.inl (congrArg tb hR2.symm), trivial⟩
    | true =>
      conv => whnf
      exact ⟨i + 1, [], [], Sub.mk' rfl ⟨.inl rfl, .inl rfl, ⟨rfl, trivial⟩, .inl rfl, .inl rfl, .inl (ti_succ hit (by omega)), trivial⟩ trivial rfl rfl, ⟨hit, hR2⟩, by show l.length - (i + 1) < l.length - i; omega⟩
  replace hit : l.length ≤ i := by have : decide ((i : Int) < ((l.map Gr.cells).length : Int)) = false := hit; have := of_decide_eq_false this; omega
  rw [List.drop_of_length_le hit, List.drop_of_length_le (by omega)] at hR
  conv => whnf
  refine ⟨fun _ => ?_, fun h => absurd rfl h⟩
  conv => whnf
  exact ⟨.inl (by rw [hR]; rfl), trivial⟩
set_option maxRecDepth 100000 in
theorem k_sameU (a b : Un) : K 37 [a.av, b.av] [] (.ret (.tr (tb (unEq a b)))) [] := by
  have hR : unEq a b = bif ((a.graphs.length : Int) != (b.graphs.length : Int)) || !(eqLL dcEq a.shared b.shared) || !(eqLL dcEq a.locks b.locks) then false else eqL grEq a.graphs b.graphs := rfl
  have q1 := k_eqD a.shared b.shared
  have q2 := k_eqD a.locks b.locks
  have q3 := k_eqG a.graphs b.graphs
  have hQ : eqLL grEq a.graphs b.graphs = bif ((a.graphs.length : Int) != (b.graphs.length : Int)) then false else eqL grEq a.graphs b.graphs := rfl
  generalize eqLL dcEq a.shared b.shared = e1 at q1 hR
  generalize eqLL dcEq a.locks b.locks = e2 at q2 hR
  generalize eqLL grEq a.graphs b.graphs = e3 at q3 hQ
  replace hR : unEq a b = (e1 && e2 && e3) := by
    rw [hR, hQ]
    cases e1 <;> cases e2 <;> cases ((a.graphs.length : Int) != (b.graphs.length : Int)) <;> rfl
  generalize unEq a b = R at hR ⊢
  obtain ⟨s1, k1, l⟩ := a
  obtain ⟨s2, k2, l'⟩ := b
  simp only at q1 q2 q3
  refine Ctr.of hT hmix Tryz.func37 rfl (fun _ _ => by kernel_rfl) rfl fun hok => ?_
  clear hok
  conv => whnf
  refine acall.pure _ (q1) rfl rfl fun _ => ?_
  conv => whnf
  cases e1 with
  | false =>
    conv => whnf
    exact ⟨.inl (congrArg tb (by rw [hR]; rfl)), trivial⟩
  | true =>
  conv => whnf
  refine acall.pure _ (q2) rfl rfl fun _ => ?_
  conv => whnf
  cases e2 with
  | false =>
    conv => whnf
    exact ⟨.inl (congrArg tb (by rw [hR]; rfl)), trivial⟩
  | true =>
  conv => whnf
  refine acall.au [] [] (q3) ?_
  intro _
  conv => whnf
  exact ⟨.inl (congrArg tb (by rw [hR]; rfl)), trivial⟩
set_option maxRecDepth 100000 in
theorem k_texts (u v : Un) (thread node : Int) : K 8 [u.av, v.av, .tr (ti thread), .tr (ti node)] [] (.ret (.tr (tb true))) [] := by
  have p1 := k_printU u
  have p2 := z_printU u
  have s1 := k_showU u thread node
  have s2 := z_showU u thread node
  have m1 := k_sameU u v
  have m2 := k_rsameU u v
  have hcp := k_copyU u
  have m3 := k_sameU u u
  rw [unEq_refl] at m3
  have hbe := k_begins
  generalize printU u = c at p1 p2
  obtain ⟨S, W⟩ := c
  simp only at p1 p2
  generalize showU u thread node = X at s1 s2
  generalize unEq u v = B at m1 m2
  have e1 : (S.toList == S.toList) = true := beq_self_eq_true S.toList
  have e2 : (W == W) = true := beq_self_eq_true W
  have e3 : (X.toList == X.toList) = true := beq_self_eq_true X.toList
  have e4 : (B == B) = true := beq_self_eq_true B
  refine Ctr.of hT hmix Tryz.func8 rfl (fun _ _ => by kernel_rfl) rfl fun hok => ?_
  clear hok
  conv => whnf
  refine acall.pure _ (p1) rfl rfl fun _ => ?_
  conv => whnf
  refine acall.pure _ (p2) rfl rfl fun _ => ?_
  conv => whnf
  rw [e1]
  conv => whnf
  rw [e2]
  conv => whnf
  refine acall.pure _ (s1) rfl rfl ?_
  conv => whnf
  refine acall.pure _ (s2) rfl rfl ?_
  conv => whnf
  rw [e3]
  conv => whnf
  refine acall.pure _ (m1) rfl rfl ?_
  conv => whnf
  refine acall.pure _ (m2) rfl rfl ?_
  conv => whnf
  rw [e4]
  conv => whnf
  refine acall.pure _ (hcp) rfl rfl ?_
  conv => whnf
  refine acall.pure _ (m3) rfl rfl ?_
  conv => whnf
  refine acall.pure _ (hbe) rfl rfl ?_
  conv => whnf
  refine ⟨by kernel_rfl, fun _ => ?_⟩
  conv => whnf
  exact ⟨.inl rfl, trivial⟩
end Go.Proofs.YthboippafkcoiaaGreatDoor.am

/- Contract of the reference's Same, of an object and itself. -/
import Derived.Test.YtffhoknkfohfgaaGreatDoorP11
set_option linter.all false

namespace Go.Proofs.YtffhoknkfohfgaaGreatDoor.am
open Go Go.Proofs
set_option maxRecDepth 100000 in
set_option maxHeartbeats 2000000 in
theorem k_same2 (o : Ob) : K 12 [o.av, o.av] [] (.ret (.tr (tb true))) [] := by
  refine Ctr.of hT hmix Tryz.func12 rfl (fun _ _ => by kernel_rfl) rfl fun hok => ?_
  obtain ⟨_, hcl0, hcs⟩ := ((hok.slot 0 rfl).agg _ (.tail _ (.tail _ (.tail _ (.tail _ (.head _)))))).tr.lst
  obtain ⟨_, hml0, _⟩ := ((hok.slot 0 rfl).agg _ (.head _)).tr.lst
  rw [List.length_map] at hcl0 hml0
  clear hok
  obtain ⟨memory, shared, locks, buffer, cores⟩ := o
  have hcl : cores.length ≤ 9223372036854775807 := hcl0
  have hml : memory.length ≤ 9223372036854775807 := hml0
  clear hcl0 hml0
  conv => whnf
  (repeat' (refine csplit (fun h => absurd h (by simp)) (fun _ => ?_); conv => whnf))
  refine LoopL.by (fun i : Nat => ⟨[(2, .ptr 0 0), (3, .ptr 1 0), (5, .tr (ti i))], [(0, obB (.tr (intsT memory)) shared locks buffer (.tr (coresT cores))), (1, obB (.tr (intsT memory)) shared locks buffer (.tr (coresT cores)))], 10⟩) (fun i => i ≤ memory.length) (fun i => memory.length - i) 0 [0, 1] []
    (Sub.mk' rfl ⟨⟨rfl, rfl⟩, ⟨rfl, rfl⟩, .inl rfl, trivial⟩ (by repeat' (first | exact trivial | exact Or.inl (ti_succ (by assumption) (by assumption)) | exact Or.inl rfl | exact rfl | exact Nat.le_refl _ | apply And.intro)) rfl rfl) (Nat.zero_le _) ?_
  rintro i hi -
  conv => whnf
  refine csplit (fun hlt => ?_) (fun hge => ?_)
  · have hlt : i < memory.length := by have := of_decide_eq_true hlt; rw [List.length_map] at this; omega
    obtain ⟨d, hd⟩ : ∃ d, memory[i]? = some d := ⟨memory[i], by simp [hlt]⟩
    have hrow : (memory.map irow)[i]? = some (irow d) := by rw [List.getElem?_map, hd]; rfl
    conv => whnf
    refine ⟨rfl, (show (0 : Int) ≤ i by omega), (show (i : Int) < (List.map irow memory).length by rw [List.length_map]; omega), fun row hr => ?_⟩
    cases hrow.symm.trans hr
    conv => whnf
    refine ⟨rfl, (show (0 : Int) ≤ i by omega), (show (i : Int) < (List.map irow memory).length by rw [List.length_map]; omega), fun row hr => ?_⟩
    cases hrow.symm.trans hr
    conv => whnf
    refine ⟨by kernel_rfl, fun _ => ?_⟩
    conv => whnf
    refine csplit (fun h => absurd h (by simp)) (fun _ => ?_)
    conv => whnf
    exact ⟨i + 1, [0, 1], [], Sub.mk' rfl ⟨⟨rfl, rfl⟩, ⟨rfl, rfl⟩, .inl (ti_succ hlt hml), trivial⟩ (by repeat' (first | exact trivial | exact Or.inl (ti_succ (by assumption) (by assumption)) | exact Or.inl rfl | exact rfl | exact Nat.le_refl _ | apply And.intro)) rfl rfl, hlt, by omega⟩
  conv => whnf
  refine ⟨fun _ => ?_, fun h => absurd rfl h⟩
  conv => whnf
  refine LoopL.by (fun i : Nat => ⟨[(2, .ptr 0 0), (3, .ptr 1 0), (6, .tr (ti i))], [(0, obB (.tr (intsT memory)) shared locks buffer (.tr (coresT cores))), (1, obB (.tr (intsT memory)) shared locks buffer (.tr (coresT cores)))], 10⟩) (fun i => i ≤ cores.length) (fun i => cores.length - i) 0 [0, 1] []
    (Sub.mk' rfl ⟨⟨rfl, rfl⟩, ⟨rfl, rfl⟩, .inl rfl, trivial⟩ (by repeat' (first | exact trivial | exact Or.inl (ti_succ (by assumption) (by assumption)) | exact Or.inl rfl | exact rfl | exact Nat.le_refl _ | apply And.intro)) rfl rfl) (Nat.zero_le _) ?_
  rintro i hi -
  conv => whnf
  refine csplit (fun hlt => ?_) (fun hge => ?_)
  · have hlt : i < cores.length := by have := of_decide_eq_true hlt; rw [List.length_map] at this; omega
    obtain ⟨c, hd⟩ : ∃ c, cores[i]? = some c := ⟨cores[i], by simp [hlt]⟩
    have hrow : (cores.map Cor.cells)[i]? = some c.cells := by rw [List.getElem?_map, hd]; rfl
    have hc4 := ((hcs _ (List.mem_of_getElem? hrow)).2 (codeT c.code) (.tail _ (.head _))).lst.2.1
    rw [List.length_map] at hc4
    obtain ⟨cn, cc⟩ := c
    have hcc : cc.length ≤ 9223372036854775807 := hc4
    conv => whnf
    refine ⟨rfl, (show (0 : Int) ≤ i by omega), (show (i : Int) < (List.map Cor.cells cores).length by rw [List.length_map]; omega), fun row hr => ?_⟩
    cases hrow.symm.trans hr
    conv => whnf
    refine ⟨rfl, (show (0 : Int) ≤ i by omega), (show (i : Int) < (List.map Cor.cells cores).length by rw [List.length_map]; omega), fun row hr => ?_⟩
    cases hrow.symm.trans hr
    conv => whnf
    iterate 4 (refine csplit (fun h => absurd h (by simp)) (fun _ => ?_); conv => whnf)
    refine ⟨rfl, (show (0 : Int) ≤ i by omega), (show (i : Int) < (List.map Cor.cells cores).length by rw [List.length_map]; omega), fun row hr => ?_⟩
    cases hrow.symm.trans hr
    conv => whnf
    iterate 7 (refine csplit (fun h => absurd h (by simp)) (fun _ => ?_); conv => whnf)
    refine ⟨rfl, (show (0 : Int) ≤ i by omega), (show (i : Int) < (List.map Cor.cells cores).length by rw [List.length_map]; omega), fun row hr => ?_⟩
    cases hrow.symm.trans hr
    conv => whnf
    iterate 5 (refine csplit (fun h => absurd h (by simp)) (fun _ => ?_); conv => whnf)
    refine ⟨by kernel_rfl, fun _ => ?_⟩
    conv => whnf
    (repeat' (refine csplit (fun h => absurd h (by simp)) (fun _ => ?_); conv => whnf))
    refine LoopL.by (fun k : Nat => ⟨[(2, .ptr 0 0), (3, .ptr 1 0), (6, .tr (ti i)), (7, .tr (ti k))], [(0, obB (.tr (intsT memory)) shared locks buffer (.tr (coresT cores))), (1, obB (.tr (intsT memory)) shared locks buffer (.tr (coresT cores)))], 10⟩) (fun k => k ≤ cc.length) (fun k => cc.length - k) 0 [0, 1] []
      (Sub.mk' rfl ⟨⟨rfl, rfl⟩, ⟨rfl, rfl⟩, .inl rfl, .inl rfl, trivial⟩ (by repeat' (first | exact trivial | exact Or.inl (ti_succ (by assumption) (by assumption)) | exact Or.inl rfl | exact rfl | exact Nat.le_refl _ | apply And.intro)) rfl rfl) (Nat.zero_le _) ?_
    rintro k hk -
    conv => whnf
    refine ⟨rfl, (show (0 : Int) ≤ i by omega), (show (i : Int) < (List.map Cor.cells cores).length by rw [List.length_map]; omega), fun row hr => ?_⟩; cases hrow.symm.trans hr; conv => whnf
    refine csplit (fun hlt2 => ?_) (fun hge2 => ?_)
    · have hlt2 : k < cc.length := by have := of_decide_eq_true hlt2; rw [List.length_map] at this; replace this : (k : Int) < cc.length := this; omega
      obtain ⟨x, hx⟩ : ∃ x, cc[k]? = some x := ⟨cc[k], by simp [hlt2]⟩
      have hrowx : (cc.map Ins.cells)[k]? = some x.cells := by rw [List.getElem?_map, hx]; rfl
      conv => whnf
      refine ⟨rfl, (show (0 : Int) ≤ i by omega), (show (i : Int) < (List.map Cor.cells cores).length by rw [List.length_map]; omega), fun row hr => ?_⟩; cases hrow.symm.trans hr; conv => whnf
      refine ⟨rfl, (show (0 : Int) ≤ k by omega), (show (k : Int) < (List.map Ins.cells cc).length by rw [List.length_map]; omega), fun row hr => ?_⟩; cases hrowx.symm.trans hr; conv => whnf
      refine ⟨rfl, (show (0 : Int) ≤ i by omega), (show (i : Int) < (List.map Cor.cells cores).length by rw [List.length_map]; omega), fun row hr => ?_⟩; cases hrow.symm.trans hr; conv => whnf
      refine ⟨rfl, (show (0 : Int) ≤ k by omega), (show (k : Int) < (List.map Ins.cells cc).length by rw [List.length_map]; omega), fun row hr => ?_⟩; cases hrowx.symm.trans hr; conv => whnf
      refine ⟨by kernel_rfl, fun _ => ?_⟩
      conv => whnf
      refine csplit (fun h => absurd h (by simp)) (fun _ => ?_)
      conv => whnf
      exact ⟨k + 1, [0, 1], [], Sub.mk' rfl ⟨⟨rfl, rfl⟩, ⟨rfl, rfl⟩, .inl rfl, .inl (ti_succ hlt2 hcc), trivial⟩ (by repeat' (first | exact trivial | exact Or.inl (ti_succ (by assumption) (by assumption)) | exact Or.inl rfl | exact rfl | exact Nat.le_refl _ | apply And.intro)) rfl rfl, hlt2, by omega⟩
    · conv => whnf
      refine ⟨fun _ => ?_, fun h => absurd rfl h⟩
      conv => whnf
      exact ⟨i + 1, [0, 1], [], Sub.mk' rfl ⟨⟨rfl, rfl⟩, ⟨rfl, rfl⟩, .inl (ti_succ hlt hcl), trivial⟩ (by repeat' (first | exact trivial | exact Or.inl (ti_succ (by assumption) (by assumption)) | exact Or.inl rfl | exact rfl | exact Nat.le_refl _ | apply And.intro)) rfl rfl, hlt, by omega⟩
  · conv => whnf
    refine ⟨fun _ => ?_, fun h => absurd rfl h⟩
    conv => whnf
    exact ⟨.inl rfl, trivial⟩
end Go.Proofs.YtffhoknkfohfgaaGreatDoor.am

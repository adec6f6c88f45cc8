/- Contracts: the reference's copies. Contracts: the reference's Exactly, of a tree and itself. Contracts: the reference's exprs, of a list and itself. Contracts: the reference's Places, of a list and itself. Contracts: the reference's stmts, of a list and itself. Contracts: the reference's places, of a list and itself. Contracts: the reference's Same, of a program and itself. Contracts: the reference's Exactly, of a program and itself. -/
import Derived.Test.YtbpcbhmdjphodaaGreatY2
set_option linter.all false

namespace Go.Proofs.YtbpcbhmdjphodaaGreat.am
open Go Go.Proofs
theorem rows_snoc {l : List Expr} {i : Nat} {d : Expr} (h : l[i]? = some d) : ((Expr.rows l).take i).take i ++ [d.cells] = (Expr.rows l).take (i + 1) := by
  rw [List.take_take, Nat.min_self, take_snoc (x := d.cells)]
  rw [Expr.rows_eq, List.getElem?_map, h]; rfl
theorem k53 : ∀ (n : Nat) (l : List Expr), SizeOf.sizeOf l < n → K 49 [.tr (exprsT l)] [] (.ret (.tr (exprsT l))) [] := by
  intro n
  induction n with
  | zero => intro l h; omega
  | succ n ih =>
  intro l hsz
  refine Ctr.of hT hmix Tryz.func49 rfl (fun _ _ => by kernel_rfl) rfl fun hok => ?_
  obtain ⟨hB, hl, _⟩ := (hok.slot 0 rfl).tr.lst
  rw [erows_len] at hl hB
  clear hok
  conv => whnf
  refine LoopL.by (fun i : Nat => ⟨[(3, .sl 0 i), (6, .tr (exprsT l)), (7, .tr (ti (Expr.rows l).length)), (8, .tr (ti i))], [(0, .vec 62 6 64 ((Expr.rows l).take i))], 1⟩)
    (fun i => i ≤ l.length) (fun i => l.length - i) 0 [] [0] (Sub.mk' rfl ⟨⟨rfl, rfl, rfl, rfl⟩, .inl rfl, .inl rfl, .inl rfl, trivial⟩ ⟨⟨rfl, 62, 6, 64, rfl, by omega⟩, trivial⟩ rfl rfl) (Nat.zero_le _) ?_
  intro i hi _
  conv => whnf
  refine csplit (fun hlt => ?_) (fun hge => ?_)
  · have hlt : i < l.length := by rw [erows_len] at hlt; simpa using hlt
    conv => whnf
    refine ⟨rfl, by omega, by rw [erows_len]; omega, fun row hrow => ?_⟩
    obtain ⟨d, hd, rfl⟩ := erows_get hrow
    replace hd : l[i]? = some d := hd
    clear hrow
    have hsn := rows_snoc hd
    have hs1 := size_kid hd
    obtain ⟨k1, k2, k3, k4, k5, k6⟩ := d
    simp only [Expr.mk.sizeOf_spec] at hs1
    conv => whnf
    refine acall.pure _ (ih k5 (by omega)) rfl rfl fun _ => ?_
    conv => whnf
    refine ⟨rfl, rfl, rfl, by rw [List.length_take, erows_len]; omega, by show (i + 1) * 64 ≤ 140737488351232; omega, fun q hq => ?_, ?_⟩
    · cases hq with
      | head => exact Nat.ne_of_beq_eq_false rfl
      | tail _ h => cases h
    conv => whnf
    exact ⟨i + 1, [14], [], Sub.mk' rfl ⟨⟨rfl, rfl⟩, .inl rfl, .inl rfl, .inl (ti_succ hlt hl), trivial⟩ ⟨⟨rfl, rfl, rfl, hsn⟩, trivial⟩ rfl rfl, hlt, by omega⟩
  · have hge : l.length ≤ i := by rw [erows_len] at hge; simpa using hge
    conv => whnf
    refine ⟨fun _ => ?_, fun h => absurd rfl h⟩
    conv => whnf
    exact ⟨⟨rfl, by rw [List.length_take, erows_len]; omega, by rw [List.take_take, Nat.min_self, List.take_of_length_le (by rw [erows_len]; omega)]⟩, trivial⟩
theorem srows_snoc {l : List Stmt} {i : Nat} {d : Stmt} (h : l[i]? = some d) : ((Stmt.rows l).take i).take i ++ [d.cells] = (Stmt.rows l).take (i + 1) := by
  rw [List.take_take, Nat.min_self, take_snoc (x := d.cells)]
  rw [Stmt.rows_eq, List.getElem?_map, h]; rfl
theorem k28 : ∀ (n : Nat) (l : List Stmt), SizeOf.sizeOf l < n → K 27 [.tr (stmtsT l)] [] (.ret (.tr (stmtsT l))) [] := by
  intro n
  induction n with
  | zero => intro l h; omega
  | succ n ih =>
  intro l hsz
  refine Ctr.of hT hmix Tryz.func27 rfl (fun _ _ => by kernel_rfl) rfl fun hok => ?_
  obtain ⟨hB, hl, _⟩ := (hok.slot 0 rfl).tr.lst
  rw [srows_len] at hl hB
  clear hok
  conv => whnf
  refine LoopL.by (fun i : Nat => ⟨[(3, .sl 0 i), (6, .tr (stmtsT l)), (7, .tr (ti (Stmt.rows l).length)), (8, .tr (ti i))], [(0, .vec 50 7 120 ((Stmt.rows l).take i))], 1⟩)
    (fun i => i ≤ l.length) (fun i => l.length - i) 0 [] [0] (Sub.mk' rfl ⟨⟨rfl, rfl, rfl, rfl⟩, .inl rfl, .inl rfl, .inl rfl, trivial⟩ ⟨⟨rfl, 50, 7, 120, rfl, by omega⟩, trivial⟩ rfl rfl) (Nat.zero_le _) ?_
  intro i hi _
  conv => whnf
  refine csplit (fun hlt => ?_) (fun hge => ?_)
  · have hlt : i < l.length := by rw [srows_len] at hlt; simpa using hlt
    conv => whnf
    refine ⟨rfl, by omega, by rw [srows_len]; omega, fun row hrow => ?_⟩
    obtain ⟨d, hd, rfl⟩ := srows_get hrow
    replace hd : l[i]? = some d := hd
    clear hrow
    have hsn := srows_snoc hd
    have hs1 := size_kid2 hd
    obtain ⟨k1, k2, k3, k4, k5, k6, k7⟩ := d
    simp only [Stmt.mk.sizeOf_spec] at hs1
    conv => whnf
    refine acall.pure _ (k53 (SizeOf.sizeOf k4 + 1) k4 (by omega)) rfl rfl fun _ => ?_
    conv => whnf
    refine acall.pure _ (ih k5 (by omega)) rfl rfl fun _ => ?_
    conv => whnf
    refine acall.pure _ (ih k6 (by omega)) rfl rfl fun _ => ?_
    conv => whnf
    refine ⟨rfl, rfl, rfl, by rw [List.length_take, srows_len]; omega, by show (i + 1) * 120 ≤ 140737488351232; omega, fun q hq => ?_, ?_⟩
    · cases hq with
      | head => exact Nat.ne_of_beq_eq_false rfl
      | tail _ h => cases h
    conv => whnf
    exact ⟨i + 1, [24], [], Sub.mk' rfl ⟨⟨rfl, rfl⟩, .inl rfl, .inl rfl, .inl (ti_succ hlt hl), trivial⟩ ⟨⟨rfl, rfl, rfl, hsn⟩, trivial⟩ rfl rfl, hlt, by omega⟩
  · have hge : l.length ≤ i := by rw [srows_len] at hge; simpa using hge
    conv => whnf
    refine ⟨fun _ => ?_, fun h => absurd rfl h⟩
    conv => whnf
    exact ⟨⟨rfl, by rw [List.length_take, srows_len]; omega, by rw [List.take_take, Nat.min_self, List.take_of_length_le (by rw [srows_len]; omega)]⟩, trivial⟩
theorem k27 (l : List Decl) : K 26 [.tr (declsT l)] [] (.ret (.tr (declsT l))) [] := by
  refine Ctr.of hT hmix Tryz.func26 rfl (fun _ _ => by kernel_rfl) rfl fun hok => ?_
  obtain ⟨hB, _, _⟩ := (hok.slot 0 rfl).tr.lst
  clear hok
  conv => whnf
  refine ⟨hB, ?_⟩
  conv => whnf
  exact ⟨⟨rfl, Nat.le_refl _, by rw [List.take_of_length_le (Nat.le_refl _)]⟩, trivial⟩
theorem throws_snoc {l : List Thread} {i : Nat} {d : Thread} (h : l[i]? = some d) : ((l.map Thread.cells).take i).take i ++ [d.cells] = (l.map Thread.cells).take (i + 1) := by
  rw [List.take_take, Nat.min_self, take_snoc (x := d.cells)]
  rw [List.getElem?_map, h]; rfl
theorem k9 (p : Prg) : K 14 [p.av] [] (.ret p.av) [] := by
  refine Ctr.of hT hmix Tryz.func14 rfl (fun _ _ => by kernel_rfl) rfl fun hok => ?_
  obtain ⟨hB, hl, _⟩ := ((hok.slot 0 rfl).agg _ (.tail _ (.tail _ (.head _)))).tr.lst
  rw [List.length_map] at hl hB
  clear hok
  conv => whnf
  refine acall.pure _ (k27 p.shared) rfl rfl ?_
  conv => whnf
  refine acall.pure _ (k27 p.locks) rfl rfl ?_
  conv => whnf
  refine ⟨by kernel_rfl, fun _ => ?_⟩
  conv => whnf
  refine LoopL.by (fun i : Nat => ⟨[(1, .ptr 0 0), (2, .ptr 1 0), (3, .ptr 2 0), (14, .tr (threadsT p.threads)), (15, .tr (ti (p.threads.map Thread.cells).length)), (16, .tr (ti i))],
      [(0, .cells 25 [.tr (declsT p.shared), .tr (declsT p.locks), .tr (threadsT p.threads)]), (1, .cells 25 [.tr tnil, .tr tnil, .tr tnil]), (2, .cells 25 [.tr (declsT p.shared), .tr (declsT p.locks), .sl 3 i]), (3, .vec 52 4 72 ((p.threads.map Thread.cells).take i))], 4⟩)
    (fun i => i ≤ p.threads.length) (fun i => p.threads.length - i) 0 [0, 1, 9] [3]
    (Sub.mk' rfl ⟨⟨rfl, rfl⟩, ⟨rfl, rfl⟩, ⟨rfl, rfl⟩, .inl rfl, .inl rfl, .inl rfl, trivial⟩ ⟨⟨rfl, .inl rfl, .inl rfl, .inl rfl, trivial⟩, ⟨rfl, .inl rfl, .inl rfl, .inl rfl, trivial⟩, ⟨rfl, .inl rfl, .inl rfl, ⟨rfl, rfl, rfl, rfl⟩, trivial⟩, ⟨rfl, 52, 4, 72, rfl, by omega⟩, trivial⟩ rfl rfl) (Nat.zero_le _) ?_
  intro i hi _
  conv => whnf
  refine csplit (fun hlt => ?_) (fun hge => ?_)
  · have hlt : i < p.threads.length := by rw [List.length_map] at hlt; simpa using hlt
    conv => whnf
    refine ⟨rfl, by omega, by rw [List.length_map]; omega, fun row hrow => ?_⟩
    obtain ⟨d, hd, rfl⟩ := map_get hrow
    replace hd : p.threads[i]? = some d := hd
    clear hrow
    have hsn := throws_snoc hd
    obtain ⟨name, ls, body, at_⟩ := d
    conv => whnf
    refine acall.pure _ (k27 ls) rfl rfl fun _ => ?_
    conv => whnf
    refine acall.pure _ (k28 (SizeOf.sizeOf body + 1) body (by omega)) rfl rfl fun _ => ?_
    conv => whnf
    refine ⟨rfl, rfl, rfl, by rw [List.length_take, List.length_map]; omega, by show (i + 1) * 72 ≤ 140737488351232; omega, fun q hq => ?_, ?_⟩
    · cases hq with
      | head => exact Nat.ne_of_beq_eq_false rfl
      | tail _ h => cases h
    conv => whnf
    exact ⟨i + 1, [0, 1, 2, 23], [], Sub.mk' rfl ⟨⟨rfl, rfl⟩, ⟨rfl, rfl⟩, ⟨rfl, rfl⟩, .inl rfl, .inl rfl, .inl (ti_succ hlt hl), trivial⟩ ⟨⟨rfl, .inl rfl, .inl rfl, .inl rfl, trivial⟩, ⟨rfl, .inl rfl, .inl rfl, .inl rfl, trivial⟩, ⟨rfl, .inl rfl, .inl rfl, ⟨rfl, rfl⟩, trivial⟩, ⟨rfl, rfl, rfl, hsn⟩, trivial⟩ rfl rfl, hlt, by omega⟩
  · have hge : p.threads.length ≤ i := by rw [List.length_map] at hge; simpa using hge
    conv => whnf
    refine ⟨fun _ => ?_, fun h => absurd rfl h⟩
    conv => whnf
    exact ⟨⟨Or.inl rfl, Or.inl rfl, ⟨rfl, by rw [List.length_take, List.length_map]; omega, by rw [List.take_take, Nat.min_self, List.take_of_length_le (by rw [List.length_map]; omega)]⟩, trivial⟩, trivial⟩
end Go.Proofs.YtbpcbhmdjphodaaGreat.am

namespace Go.Proofs.YtbpcbhmdjphodaaGreat.am
open Go Go.Proofs
theorem k60 (l : List Decl) : K 51 [.tr (declsT l), .tr (declsT l)] [] (.ret (.tr (tb true))) [] := by
  refine Ctr.of hT hmix Tryz.func51 rfl (fun _ _ => by kernel_rfl) rfl fun hok => ?_
  obtain ⟨_, hl, _⟩ := (hok.slot 0 rfl).tr.lst
  rw [List.length_map] at hl
  clear hok
  conv => whnf
  refine csplit (fun h => absurd h (by simp)) (fun _ => ?_)
  conv => whnf
  refine LoopL.by (fun i : Nat => ⟨[(0, .tr (declsT l)), (1, .tr (declsT l)), (12, .tr (ti (l.map Decl.cells).length)), (13, .tr (ti i))], [], 41⟩)
    (fun i => i ≤ l.length) (fun i => l.length - i) 0 [] [] (Sub.mk' rfl ⟨.inl rfl, .inl rfl, .inl rfl, .inl rfl, trivial⟩ trivial rfl rfl) (Nat.zero_le _) ?_
  intro i hi _
  conv => whnf
  refine csplit (fun hlt => ?_) (fun hge => ?_)
  · have hlt : i < l.length := by rw [List.length_map] at hlt; simpa using hlt
    obtain ⟨d, hd⟩ : ∃ d, l[i]? = some d := ⟨l[i], by simp [hlt]⟩
    have hrow : (l.map Decl.cells)[i]? = some d.cells := by rw [List.getElem?_map, hd]; rfl
    obtain ⟨name, word, at_⟩ := d
    conv => whnf
    (repeat' (first
      | (refine csplit (fun h => absurd h (by simp)) (fun _ => ?_); conv => whnf)
      | (refine ⟨rfl, Int.natCast_nonneg i, by rw [List.length_map]; omega, fun row hr => ?_⟩; cases Option.some.inj ((show (l.map Decl.cells)[i]? = some row from hr).symm.trans hrow); conv => whnf)))
    refine ⟨by kernel_rfl, fun _ => ?_⟩
    conv => whnf
    refine csplit (fun h => absurd h (by simp)) (fun _ => ?_)
    conv => whnf
    exact ⟨i + 1, [], [], Sub.mk' rfl ⟨.inl rfl, .inl rfl, .inl rfl, .inl (ti_succ hlt hl), trivial⟩ trivial rfl rfl, hlt, by omega⟩
  · conv => whnf
    refine ⟨fun _ => ?_, fun h => absurd rfl h⟩
    conv => whnf
    exact ⟨Or.inl rfl, trivial⟩
theorem k33 (l : List Decl) : K 30 [.tr (declsT l), .tr (declsT l)] [] (.ret (.tr (tb true))) [] := by
  refine Ctr.of hT hmix Tryz.func30 rfl (fun _ _ => by kernel_rfl) rfl fun hok => ?_
  obtain ⟨_, hl, _⟩ := (hok.slot 0 rfl).tr.lst
  rw [List.length_map] at hl
  clear hok
  conv => whnf
  refine csplit (fun h => absurd h (by simp)) (fun _ => ?_)
  conv => whnf
  refine LoopL.by (fun i : Nat => ⟨[(0, .tr (declsT l)), (1, .tr (declsT l)), (12, .tr (ti (l.map Decl.cells).length)), (13, .tr (ti i))], [], 26⟩)
    (fun i => i ≤ l.length) (fun i => l.length - i) 0 [] [] (Sub.mk' rfl ⟨.inl rfl, .inl rfl, .inl rfl, .inl rfl, trivial⟩ trivial rfl rfl) (Nat.zero_le _) ?_
  intro i hi _
  conv => whnf
  refine csplit (fun hlt => ?_) (fun hge => ?_)
  · have hlt : i < l.length := by rw [List.length_map] at hlt; simpa using hlt
    obtain ⟨d, hd⟩ : ∃ d, l[i]? = some d := ⟨l[i], by simp [hlt]⟩
    have hrow : (l.map Decl.cells)[i]? = some d.cells := by rw [List.getElem?_map, hd]; rfl
    obtain ⟨name, word, at_⟩ := d
    conv => whnf
    (repeat' (first
      | (refine csplit (fun h => absurd h (by simp)) (fun _ => ?_); conv => whnf)
      | (refine ⟨rfl, Int.natCast_nonneg i, by rw [List.length_map]; omega, fun row hr => ?_⟩; cases Option.some.inj ((show (l.map Decl.cells)[i]? = some row from hr).symm.trans hrow); conv => whnf)))
    refine ⟨by kernel_rfl, fun _ => ?_⟩
    conv => whnf
    refine csplit (fun h => absurd h (by simp)) (fun _ => ?_)
    conv => whnf
    exact ⟨i + 1, [], [], Sub.mk' rfl ⟨.inl rfl, .inl rfl, .inl rfl, .inl (ti_succ hlt hl), trivial⟩ trivial rfl rfl, hlt, by omega⟩
  · conv => whnf
    refine ⟨fun _ => ?_, fun h => absurd rfl h⟩
    conv => whnf
    exact ⟨Or.inl rfl, trivial⟩
end Go.Proofs.YtbpcbhmdjphodaaGreat.am

namespace Go.Proofs.YtbpcbhmdjphodaaGreat.am
open Go Go.Proofs
theorem k93_86 : ∀ (n : Nat), (∀ (e : Expr), SizeOf.sizeOf e < n → K 85 [e.av, e.av] [] (.ret (.tr (tb true))) []) ∧
    (∀ (l : List Expr), SizeOf.sizeOf l < n → K 70 [.tr (exprsT l), .tr (exprsT l)] [] (.ret (.tr (tb true))) []) := by
  intro n
  induction n with
  | zero => exact ⟨fun e h => by omega, fun l h => by omega⟩
  | succ n ih =>
  constructor
  · intro e hsz
    refine Ctr.of hT hmix Tryz.func85 rfl (fun _ _ => by kernel_rfl) rfl fun hok => ?_
    clear hok
    obtain ⟨kind, op, word, name, kids, at_⟩ := e
    simp only [Expr.mk.sizeOf_spec] at hsz
    conv => whnf
    (repeat' (refine csplit (fun h => absurd h (by simp)) (fun _ => ?_); conv => whnf))
    refine acall.pure _ (ih.2 kids (by omega)) rfl rfl fun _ => ?_
    conv => whnf
    exact ⟨Or.inl rfl, trivial⟩
  · intro l hsz
    refine Ctr.of hT hmix Tryz.func70 rfl (fun _ _ => by kernel_rfl) rfl fun hok => ?_
    obtain ⟨_, hl, _⟩ := (hok.slot 0 rfl).tr.lst
    rw [erows_len] at hl
    clear hok
    conv => whnf
    refine csplit (fun h => absurd h (by simp)) (fun _ => ?_)
    conv => whnf
    refine LoopL.by (fun i : Nat => ⟨[(0, .tr (exprsT l)), (1, .tr (exprsT l)), (12, .tr (ti (Expr.rows l).length)), (13, .tr (ti i))], [], 26⟩)
      (fun i => i ≤ l.length) (fun i => l.length - i) 0 [] [] (Sub.mk' rfl ⟨.inl rfl, .inl rfl, .inl rfl, .inl rfl, trivial⟩ trivial rfl rfl) (Nat.zero_le _) ?_
    intro i hi _
    conv => whnf
    refine csplit (fun hlt => ?_) (fun hge => ?_)
    · have hlt : i < l.length := by rw [erows_len] at hlt; simpa using hlt
      obtain ⟨d, hd⟩ : ∃ d, l[i]? = some d := ⟨l[i], by simp [hlt]⟩
      have hrow : (Expr.rows l)[i]? = some d.cells := by rw [Expr.rows_eq, List.getElem?_map, hd]; rfl
      have hsd := size_kid hd
      have hk := ih.1 d (by omega)
      obtain ⟨k1, k2, k3, k4, k5, k6⟩ := d
      conv => whnf
      refine ⟨rfl, Int.natCast_nonneg i, by rw [erows_len]; omega, fun row hr => ?_⟩
      cases Option.some.inj ((show (Expr.rows l)[i]? = some row from hr).symm.trans hrow)
      conv => whnf
      refine ⟨rfl, Int.natCast_nonneg i, by rw [erows_len]; omega, fun row hr2 => ?_⟩
      cases Option.some.inj ((show (Expr.rows l)[i]? = some row from hr2).symm.trans hrow)
      conv => whnf
      refine acall.pure _ hk rfl rfl ?_
      conv => whnf
      refine ⟨by kernel_rfl, fun _ => ?_⟩
      conv => whnf
      exact ⟨i + 1, [], [], Sub.mk' rfl ⟨.inl rfl, .inl rfl, .inl rfl, .inl (ti_succ hlt hl), trivial⟩ trivial rfl rfl, hlt, by omega⟩
    · conv => whnf
      refine ⟨fun _ => ?_, fun h => absurd rfl h⟩
      conv => whnf
      exact ⟨Or.inl rfl, trivial⟩
end Go.Proofs.YtbpcbhmdjphodaaGreat.am

namespace Go.Proofs.YtbpcbhmdjphodaaGreat.am
open Go Go.Proofs
theorem k62 : ∀ (n : Nat) (l : List Expr), SizeOf.sizeOf l < n → K 53 [.tr (exprsT l), .tr (exprsT l)] [] (.ret (.tr (tb true))) [] := by
  intro n
  induction n with
  | zero => intro l h; omega
  | succ n ih =>
  intro l hsz
  refine Ctr.of hT hmix Tryz.func53 rfl (fun _ _ => by kernel_rfl) rfl fun hok => ?_
  obtain ⟨_, hl, _⟩ := (hok.slot 0 rfl).tr.lst
  rw [erows_len] at hl
  clear hok
  conv => whnf
  refine csplit (fun h => absurd h (by simp)) (fun _ => ?_)
  conv => whnf
  refine LoopL.by (fun i : Nat => ⟨[(0, .tr (exprsT l)), (1, .tr (exprsT l)), (12, .tr (ti (Expr.rows l).length)), (13, .tr (ti i))], [], 60⟩)
    (fun i => i ≤ l.length) (fun i => l.length - i) 0 [] [] (Sub.mk' rfl ⟨.inl rfl, .inl rfl, .inl rfl, .inl rfl, trivial⟩ trivial rfl rfl) (Nat.zero_le _) ?_
  intro i hi _
  conv => whnf
  refine csplit (fun hlt => ?_) (fun hge => ?_)
  · have hlt : i < l.length := by rw [erows_len] at hlt; simpa using hlt
    obtain ⟨d, hd⟩ : ∃ d, l[i]? = some d := ⟨l[i], by simp [hlt]⟩
    have hrow : (Expr.rows l)[i]? = some d.cells := by rw [Expr.rows_eq, List.getElem?_map, hd]; rfl
    have hsd := size_kid hd
    obtain ⟨k1, k2, k3, k4, k5, k6⟩ := d
    simp only [Expr.mk.sizeOf_spec] at hsd
    have hk := ih k5 (by omega)
    conv => whnf
    (repeat' (first
      | (refine csplit (fun h => absurd h (by simp)) (fun _ => ?_); conv => whnf)
      | (refine ⟨rfl, Int.natCast_nonneg i, by rw [erows_len]; omega, fun row hr => ?_⟩; cases Option.some.inj ((show (Expr.rows l)[i]? = some row from hr).symm.trans hrow); conv => whnf)
      | (refine acall.pure _ hk rfl rfl ?_; conv => whnf)))
    refine ⟨by kernel_rfl, fun _ => ?_⟩
    conv => whnf
    (repeat' (refine csplit (fun h => absurd h (by simp)) (fun _ => ?_); conv => whnf))
    exact ⟨i + 1, [], [], Sub.mk' rfl ⟨.inl rfl, .inl rfl, .inl rfl, .inl (ti_succ hlt hl), trivial⟩ trivial rfl rfl, hlt, by omega⟩
  · conv => whnf
    refine ⟨fun _ => ?_, fun h => absurd rfl h⟩
    conv => whnf
    exact ⟨Or.inl rfl, trivial⟩
end Go.Proofs.YtbpcbhmdjphodaaGreat.am

namespace Go.Proofs.YtbpcbhmdjphodaaGreat.am
open Go Go.Proofs
theorem k61 : ∀ (n : Nat) (l : List Stmt), SizeOf.sizeOf l < n → K 52 [.tr (stmtsT l), .tr (stmtsT l)] [] (.ret (.tr (tb true))) [] := by
  intro n
  induction n with
  | zero => intro l h; omega
  | succ n ih =>
  intro l hsz
  refine Ctr.of hT hmix Tryz.func52 rfl (fun _ _ => by kernel_rfl) rfl fun hok => ?_
  obtain ⟨_, hl, _⟩ := (hok.slot 0 rfl).tr.lst
  rw [srows_len] at hl
  clear hok
  conv => whnf
  refine csplit (fun h => absurd h (by simp)) (fun _ => ?_)
  conv => whnf
  refine LoopL.by (fun i : Nat => ⟨[(0, .tr (stmtsT l)), (1, .tr (stmtsT l)), (14, .tr (ti (Stmt.rows l).length)), (15, .tr (ti i))], [], 60⟩)
    (fun i => i ≤ l.length) (fun i => l.length - i) 0 [] [] (Sub.mk' rfl ⟨.inl rfl, .inl rfl, .inl rfl, .inl rfl, trivial⟩ trivial rfl rfl) (Nat.zero_le _) ?_
  intro i hi _
  conv => whnf
  refine csplit (fun hlt => ?_) (fun hge => ?_)
  · have hlt : i < l.length := by rw [srows_len] at hlt; simpa using hlt
    obtain ⟨d, hd⟩ : ∃ d, l[i]? = some d := ⟨l[i], by simp [hlt]⟩
    have hrow : (Stmt.rows l)[i]? = some d.cells := by rw [Stmt.rows_eq, List.getElem?_map, hd]; rfl
    have hsd := size_kid2 hd
    obtain ⟨k1, k2, k3, k4, k5, k6, k7⟩ := d
    simp only [Stmt.mk.sizeOf_spec] at hsd
    have hk4 := (k93_86 (SizeOf.sizeOf k4 + 1)).2 k4 (by omega)
    have hk5 := ih k5 (by omega)
    have hk6 := ih k6 (by omega)
    conv => whnf
    refine ⟨rfl, Int.natCast_nonneg i, by rw [srows_len]; omega, fun row hr => ?_⟩
    cases Option.some.inj ((show (Stmt.rows l)[i]? = some row from hr).symm.trans hrow)
    conv => whnf
    refine ⟨rfl, Int.natCast_nonneg i, by rw [srows_len]; omega, fun row hr2 => ?_⟩
    cases Option.some.inj ((show (Stmt.rows l)[i]? = some row from hr2).symm.trans hrow)
    conv => whnf
    refine ⟨by kernel_rfl, fun _ => ?_⟩
    conv => whnf
    (repeat' (first
      | (refine csplit (fun h => absurd h (by simp)) (fun _ => ?_); conv => whnf)
      | (refine acall.pure _ hk4 rfl rfl fun _ => ?_; conv => whnf)
      | (refine acall.pure _ hk5 rfl rfl fun _ => ?_; conv => whnf)
      | (refine acall.pure _ hk6 rfl rfl fun _ => ?_; conv => whnf)))
    exact ⟨i + 1, [], [], Sub.mk' rfl ⟨.inl rfl, .inl rfl, .inl rfl, .inl (ti_succ hlt hl), trivial⟩ trivial rfl rfl, hlt, by omega⟩
  · conv => whnf
    refine ⟨fun _ => ?_, fun h => absurd rfl h⟩
    conv => whnf
    exact ⟨Or.inl rfl, trivial⟩
end Go.Proofs.YtbpcbhmdjphodaaGreat.am

namespace Go.Proofs.YtbpcbhmdjphodaaGreat.am
open Go Go.Proofs
set_option maxRecDepth 100000 in
set_option maxHeartbeats 4000000 in
theorem k34 : ∀ (n : Nat) (l : List Stmt), SizeOf.sizeOf l < n → K 31 [.tr (stmtsT l), .tr (stmtsT l)] [] (.ret (.tr (tb true))) [] := by
  intro n
  induction n with
  | zero => intro l h; omega
  | succ n ih =>
  intro l hsz
  refine Ctr.of hT hmix Tryz.func31 rfl (fun _ _ => by kernel_rfl) rfl fun hok => ?_
  obtain ⟨_, hl, _⟩ := (hok.slot 0 rfl).tr.lst
  rw [srows_len] at hl
  clear hok
  conv => whnf
  refine csplit (fun h => absurd h (by simp)) (fun _ => ?_)
  conv => whnf
  refine LoopL.by (fun i : Nat => ⟨[(0, .tr (stmtsT l)), (1, .tr (stmtsT l)), (12, .tr (ti (Stmt.rows l).length)), (13, .tr (ti i))], [], 100⟩)
    (fun i => i ≤ l.length) (fun i => l.length - i) 0 [] [] (Sub.mk' rfl ⟨.inl rfl, .inl rfl, .inl rfl, .inl rfl, trivial⟩ trivial rfl rfl) (Nat.zero_le _) ?_
  intro i hi _
  conv => whnf
  refine csplit (fun hlt => ?_) (fun hge => ?_)
  · have hlt : i < l.length := by rw [srows_len] at hlt; simpa using hlt
    obtain ⟨d, hd⟩ : ∃ d, l[i]? = some d := ⟨l[i], by simp [hlt]⟩
    have hrow : (Stmt.rows l)[i]? = some d.cells := by rw [Stmt.rows_eq, List.getElem?_map, hd]; rfl
    have hsd := size_kid2 hd
    obtain ⟨k1, k2, k3, k4, k5, k6, k7⟩ := d
    simp only [Stmt.mk.sizeOf_spec] at hsd
    have hk4 := k62 (SizeOf.sizeOf k4 + 1) k4 (by omega)
    have hk5 := ih k5 (by omega)
    have hk6 := ih k6 (by omega)
    conv => whnf
    (repeat' (first
      | (refine csplit (fun h => absurd h (by simp)) (fun _ => ?_); conv => whnf)
      | (refine ⟨rfl, Int.natCast_nonneg i, by rw [srows_len]; omega, fun row hr => ?_⟩; cases Option.some.inj ((show (Stmt.rows l)[i]? = some row from hr).symm.trans hrow); conv => whnf)
      | (refine acall.pure _ hk4 rfl rfl ?_; conv => whnf)
      | (refine acall.pure _ hk5 rfl rfl ?_; conv => whnf)
      | (refine acall.pure _ hk6 rfl rfl ?_; conv => whnf)))
    refine ⟨by kernel_rfl, fun _ => ?_⟩
    conv => whnf
    (repeat' (refine csplit (fun h => absurd h (by simp)) (fun _ => ?_); conv => whnf))
    exact ⟨i + 1, [], [], Sub.mk' rfl ⟨.inl rfl, .inl rfl, .inl rfl, .inl (ti_succ hlt hl), trivial⟩ trivial rfl rfl, hlt, by omega⟩
  · conv => whnf
    refine ⟨fun _ => ?_, fun h => absurd rfl h⟩
    conv => whnf
    exact ⟨Or.inl rfl, trivial⟩
end Go.Proofs.YtbpcbhmdjphodaaGreat.am

namespace Go.Proofs.YtbpcbhmdjphodaaGreat.am
open Go Go.Proofs
theorem k32 (p : Prg) : K 29 [p.av, p.av] [] (.ret (.tr (tb true))) [] := by
  refine Ctr.of hT hmix Tryz.func29 rfl (fun _ _ => by kernel_rfl) rfl fun hok => ?_
  obtain ⟨_, hl, _⟩ := ((hok.slot 0 rfl).agg _ (.tail _ (.tail _ (.head _)))).tr.lst
  rw [List.length_map] at hl
  clear hok
  conv => whnf
  refine acall.pure _ (k60 p.shared) rfl rfl fun _ => ?_
  conv => whnf
  refine acall.pure _ (k60 p.locks) rfl rfl fun _ => ?_
  conv => whnf
  refine csplit (fun h => absurd h (by simp)) (fun _ => ?_)
  conv => whnf
  refine LoopL.by (fun i : Nat => ⟨[(2, .ptr 0 0), (3, .ptr 1 0), (33, .tr (ti (p.threads.map Thread.cells).length)), (34, .tr (ti i))], [(0, .cells 25 [.tr (declsT p.shared), .tr (declsT p.locks), .tr (threadsT p.threads)]), (1, .cells 25 [.tr (declsT p.shared), .tr (declsT p.locks), .tr (threadsT p.threads)])], 2⟩)
    (fun i => i ≤ p.threads.length) (fun i => p.threads.length - i) 0 [0, 1] [] (Sub.mk' rfl ⟨⟨rfl, rfl⟩, ⟨rfl, rfl⟩, .inl rfl, .inl rfl, trivial⟩ ⟨⟨rfl, .inl rfl, .inl rfl, .inl rfl, trivial⟩, ⟨rfl, .inl rfl, .inl rfl, .inl rfl, trivial⟩, trivial⟩ rfl rfl) (Nat.zero_le _) ?_
  intro i hi _
  conv => whnf
  refine csplit (fun hlt => ?_) (fun hge => ?_)
  · have hlt : i < p.threads.length := by rw [List.length_map] at hlt; simpa using hlt
    obtain ⟨d, hd⟩ : ∃ d, p.threads[i]? = some d := ⟨p.threads[i], by simp [hlt]⟩
    have hrow : (p.threads.map Thread.cells)[i]? = some d.cells := by rw [List.getElem?_map, hd]; rfl
    obtain ⟨name, ls, body, at_⟩ := d
    have hk := k61 (SizeOf.sizeOf body + 1) body (by omega)
    conv => whnf
    refine ⟨rfl, Int.natCast_nonneg i, by rw [List.length_map]; omega, fun row hr => ?_⟩
    cases Option.some.inj ((show (p.threads.map Thread.cells)[i]? = some row from hr).symm.trans hrow)
    conv => whnf
    refine ⟨rfl, Int.natCast_nonneg i, by rw [List.length_map]; omega, fun row hr2 => ?_⟩
    cases Option.some.inj ((show (p.threads.map Thread.cells)[i]? = some row from hr2).symm.trans hrow)
    conv => whnf
    refine ⟨by kernel_rfl, fun _ => ?_⟩
    conv => whnf
    (repeat' (first
      | (refine csplit (fun h => absurd h (by simp)) (fun _ => ?_); conv => whnf)
      | (refine acall.pure _ (k60 ls) rfl rfl fun _ => ?_; conv => whnf)
      | (refine acall.pure _ hk rfl rfl fun _ => ?_; conv => whnf)))
    exact ⟨i + 1, [0, 1], [], Sub.mk' rfl ⟨⟨rfl, rfl⟩, ⟨rfl, rfl⟩, .inl rfl, .inl (ti_succ hlt hl), trivial⟩ ⟨⟨rfl, .inl rfl, .inl rfl, .inl rfl, trivial⟩, ⟨rfl, .inl rfl, .inl rfl, .inl rfl, trivial⟩, trivial⟩ rfl rfl, hlt, by omega⟩
  · conv => whnf
    refine ⟨fun _ => ?_, fun h => absurd rfl h⟩
    conv => whnf
    exact ⟨Or.inl rfl, trivial⟩
end Go.Proofs.YtbpcbhmdjphodaaGreat.am

namespace Go.Proofs.YtbpcbhmdjphodaaGreat.am
open Go Go.Proofs
theorem k13 (p : Prg) : K 16 [p.av, p.av] [] (.ret (.tr (tb true))) [] := by
  refine Ctr.of hT hmix Tryz.func16 rfl (fun _ _ => by kernel_rfl) rfl fun hok => ?_
  obtain ⟨_, hl, _⟩ := ((hok.slot 0 rfl).agg _ (.tail _ (.tail _ (.head _)))).tr.lst
  rw [List.length_map] at hl
  clear hok
  conv => whnf
  refine acall.pure _ (k32 p) rfl rfl fun _ => ?_
  conv => whnf
  refine acall.pure _ (k33 p.shared) rfl rfl fun _ => ?_
  conv => whnf
  refine acall.pure _ (k33 p.locks) rfl rfl fun _ => ?_
  conv => whnf
  refine LoopL.by (fun i : Nat => ⟨[(2, .ptr 0 0), (3, .ptr 1 0), (30, .tr (ti (p.threads.map Thread.cells).length)), (31, .tr (ti i))], [(0, .cells 25 [.tr (declsT p.shared), .tr (declsT p.locks), .tr (threadsT p.threads)]), (1, .cells 25 [.tr (declsT p.shared), .tr (declsT p.locks), .tr (threadsT p.threads)])], 2⟩)
    (fun i => i ≤ p.threads.length) (fun i => p.threads.length - i) 0 [0, 1] [] (Sub.mk' rfl ⟨⟨rfl, rfl⟩, ⟨rfl, rfl⟩, .inl rfl, .inl rfl, trivial⟩ ⟨⟨rfl, .inl rfl, .inl rfl, .inl rfl, trivial⟩, ⟨rfl, .inl rfl, .inl rfl, .inl rfl, trivial⟩, trivial⟩ rfl rfl) (Nat.zero_le _) ?_
  intro i hi _
  conv => whnf
  refine csplit (fun hlt => ?_) (fun hge => ?_)
  · have hlt : i < p.threads.length := by rw [List.length_map] at hlt; simpa using hlt
    obtain ⟨d, hd⟩ : ∃ d, p.threads[i]? = some d := ⟨p.threads[i], by simp [hlt]⟩
    have hrow : (p.threads.map Thread.cells)[i]? = some d.cells := by rw [List.getElem?_map, hd]; rfl
    obtain ⟨name, ls, body, at_⟩ := d
    have hk := k34 (SizeOf.sizeOf body + 1) body (by omega)
    conv => whnf
    refine ⟨rfl, Int.natCast_nonneg i, by rw [List.length_map]; omega, fun row hr => ?_⟩
    cases Option.some.inj ((show (p.threads.map Thread.cells)[i]? = some row from hr).symm.trans hrow)
    conv => whnf
    refine ⟨rfl, Int.natCast_nonneg i, by rw [List.length_map]; omega, fun row hr2 => ?_⟩
    cases Option.some.inj ((show (p.threads.map Thread.cells)[i]? = some row from hr2).symm.trans hrow)
    conv => whnf
    refine ⟨by kernel_rfl, fun _ => ?_⟩
    conv => whnf
    (repeat' (first
      | (refine csplit (fun h => absurd h (by simp)) (fun _ => ?_); conv => whnf)
      | (refine acall.pure _ (k33 ls) rfl rfl fun _ => ?_; conv => whnf)
      | (refine acall.pure _ hk rfl rfl fun _ => ?_; conv => whnf)))
    exact ⟨i + 1, [0, 1], [], Sub.mk' rfl ⟨⟨rfl, rfl⟩, ⟨rfl, rfl⟩, .inl rfl, .inl (ti_succ hlt hl), trivial⟩ ⟨⟨rfl, .inl rfl, .inl rfl, .inl rfl, trivial⟩, ⟨rfl, .inl rfl, .inl rfl, .inl rfl, trivial⟩, trivial⟩ rfl rfl, hlt, by omega⟩
  · conv => whnf
    refine ⟨fun _ => ?_, fun h => absurd rfl h⟩
    conv => whnf
    exact ⟨Or.inl rfl, trivial⟩
end Go.Proofs.YtbpcbhmdjphodaaGreat.am

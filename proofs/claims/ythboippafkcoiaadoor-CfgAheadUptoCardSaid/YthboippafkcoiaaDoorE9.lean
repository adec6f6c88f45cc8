/- Contracts of cfg: held. Contracts of cfg: Check. Parse, of the package and of the reference. Parse of the package: a text that begins with no minus. Parse of the package: a text that begins with a minus. Print, of the package and of the reference. Parse, at every text. -/
import Derived.Test.YthboippafkcoiaaDoorE8
import Derived.Test.YthboippafkcoiaaDoorProg
import Derived.WalkLawsBesides
import Derived.Deep.WholeRow
import Derived.Lib.Hide
import Derived.Below
import Derived.Test.YthboippafkcoiaaDoorE5
import Derived.Lib.Mul64
import Derived.Laws.Bits64b
import Derived.ShutString
set_option linter.all false

namespace Go.Proofs.YthboippafkcoiaaDoor.am
open Go Go.Proofs
set_option linter.all false

abbrev HSt := List (Option (List Int)) × List Nat
def hrow : Option (List Int) → List Tr
  | none => [nilT]
  | some l => [intsT l]
abbrev hB (lk : List (Option (List Int))) : Blk := .vec 33 1 24 (lk.map hrow)
abbrev heT (lk : List (Option (List Int))) : Tr := .lst 1 24 (lk.map hrow)
theorem hrow_get {l : List (Option (List Int))} {i : Nat} {row : List Tr} (h : (l.map hrow)[i]? = some row) : ∃ d, l[i]? = some d ∧ row = hrow d := by
  rw [List.getElem?_map, Option.map_eq_some_iff] at h
  obtain ⟨d, h1, rfl⟩ := h
  exact ⟨d, h1, rfl⟩
/-- what a node does to the locks that are held; none: it may not -/
def nowN (n : Nd) (l : List Int) : Option (List Int) :=
  bif n.kind == 5 then some (l ++ [n.thing])
  else bif n.kind == 6 then (bif (l.length : Int) == 0 then none else bif l.getD (l.length - 1) 0 != n.thing then none else some (l.take (l.length - 1)))
  else bif n.kind == 9 then (bif decide ((l.length : Int) > 0) then none else some l)
  else some l
def lkAt (lk : List (Option (List Int))) (a : Nat) : List Int := (lk.getD a none).getD []
def inH (now : List Int) : List Nat → HSt → HSt × Option Nat
  | [], s => (s, none)
  | y :: r, s => bif s.2.contains y then (bif eqI2 (lkAt s.1 y) now then inH now r s else (s, some y)) else inH now r (s.1.set y (some now), s.2 ++ [y])
def contH (F : HSt → Nat → List (Option (List Int)) × Int) (k : Nat) : HSt × Option Nat → List (Option (List Int)) × Int
  | (_, some y) => ([], (y : Int))
  | (s, none) => F s k
def outH (g : Gr) : Nat → HSt → Nat → List (Option (List Int)) × Int
  | 0, _, _ => ([], 0)
  | f + 1, s, k => match s.2[k]? with
    | none => (s.1, -1)
    | some a => match g.nodes[a]? with
      | none => ([], 0)
      | some n => match nowN n (lkAt s.1 a) with
        | none => ([], (a : Int))
        | some now => contH (outH g f) (k + 1) (inH now (fol g a) s)
def heldR (g : Gr) : List (Option (List Int)) × Int := outH g (g.nodes.length + 1) (List.replicate g.nodes.length none, [0]) 0
theorem nowN_len {n : Nd} {l now : List Int} (h : nowN n l = some now) : now.length ≤ l.length + 1 := by
  unfold nowN at h
  cases h5 : (n.kind == 5) with
  | true => rw [h5, cond_true] at h; cases h; rw [List.length_append]; exact Nat.le_refl _
  | false =>
  rw [h5, cond_false] at h
  cases h6 : (n.kind == 6) with
  | true =>
    rw [h6, cond_true] at h
    cases h1 : ((l.length : Int) == 0) with
    | true => rw [h1] at h; cases h
    | false =>
      rw [h1, cond_false] at h
      cases h2 : (l.getD (l.length - 1) 0 != n.thing) with
      | true => rw [h2] at h; cases h
      | false => rw [h2] at h; cases h; rw [List.length_take]; omega
  | false =>
  rw [h6, cond_false] at h
  cases h9 : (n.kind == 9) with
  | true =>
    rw [h9, cond_true] at h
    cases h1 : decide ((l.length : Int) > 0) with
    | true => rw [h1] at h; cases h
    | false => rw [h1] at h; cases h; omega
  | false => rw [h9] at h; cases h; omega
structure HInv (N k : Nat) (lk : List (Option (List Int))) (todo : List Nat) : Prop where
  len : lk.length = N
  nd : todo.Nodup
  lt : ∀ x ∈ todo, x < N
  most : ∀ (a : Nat) l, lk[a]? = some (some l) → l.length ≤ k
theorem HInv.todo_len {N k : Nat} {lk : List (Option (List Int))} {todo : List Nat} (h : HInv N k lk todo) : todo.length ≤ N := nodup_len N todo h.nd h.lt
theorem HInv.at {N k : Nat} {lk : List (Option (List Int))} {todo : List Nat} (h : HInv N k lk todo) (a : Nat) : (lkAt lk a).length ≤ k := by
  unfold lkAt
  rw [List.getD_eq_getElem?_getD]
  cases e : lk[a]? with
  | none => exact Nat.zero_le _
  | some o =>
    cases o with
    | none => exact Nat.zero_le _
    | some l => exact h.most a l e
theorem HInv.mono {N k k' : Nat} {lk : List (Option (List Int))} {todo : List Nat} (h : HInv N k lk todo) (hk : k ≤ k') : HInv N k' lk todo := ⟨h.len, h.nd, h.lt, fun a l e => Nat.le_trans (h.most a l e) hk⟩
theorem HInv.put {N k : Nat} {lk : List (Option (List Int))} {todo : List Nat} (h : HInv N k lk todo) {y : Nat} {now : List Int} (hy : y < N) (hn : y ∉ todo) (hl : now.length ≤ k) : HInv N k (lk.set y (some now)) (todo ++ [y]) where
  len := by rw [List.length_set]; exact h.len
  nd := List.nodup_append.2 ⟨h.nd, by simp, fun a ha b hb => by rw [List.mem_singleton.1 hb]; exact fun e => hn (e ▸ ha)⟩
  lt := fun x hx => (List.mem_append.1 hx).elim (h.lt x) fun w => by rw [List.mem_singleton.1 w]; exact hy
  most := fun a l e => by
    by_cases ha : a = y
    · subst ha
      rw [List.getElem?_set_self (by rw [h.len]; exact hy)] at e
      cases e; exact hl
    · rw [List.getElem?_set_ne (fun w => ha w.symm)] at e
      exact h.most a l e
set_option maxRecDepth 100000 in
set_option maxHeartbeats 4000000 in
theorem k_heldR (g : Gr) (hW : Whole g) : K 31 [g.av] [] (.ret (.tup [.tr (heT (heldR g).1), .tr (ti (heldR g).2)])) [] := by
  have hR : heldR g = outH g (g.nodes.length + 1) (List.replicate g.nodes.length none, [0]) 0 := rfl
  generalize heldR g = R at hR ⊢
  have hpos := hW.pos
  have hmo := hW.most
  have hlt := hW.lt
  have hfI := hW.fol
  have hfl := hW.len
  have hkind := hW.kind
  clear hW
  have hO : ∀ f s k, outH g (f + 1) s k = match s.2[k]? with
    | none => (s.1, -1)
    | some a => match g.nodes[a]? with
      | none => ([], 0)
      | some n => match nowN n (lkAt s.1 a) with
        | none => ([], (a : Int))
        | some now => contH (outH g f) (k + 1) (inH now (fol g a) s) := fun f s k => rfl
  generalize outH g = OH at hR hO
  have hln : (g.nodes.map Nd.cells).length = g.nodes.length := List.length_map ..
  obtain ⟨N, hNe⟩ : ∃ N, g.nodes.length = N := ⟨_, rfl⟩
  rw [hNe] at hR hpos hmo hlt hln
  refine Ctr.cut [10, 20] hT hmix Tryd.func31 rfl (fun _ _ => by kernel_rfl) rfl fun hok => ?_
  clear hok
  conv => whnf
  refine ⟨(by rw [hln]; omega), Int.le_refl _, (by rw [hln]; show (N : Int) * 24 ≤ _; omega), ?_⟩
  conv => whnf
  rw [hln, Int.toNat_natCast]
  refine LoopL.by (fun x : HSt × Nat => ⟨[(1, .ptr 0 0), (4, .sl 1 N), (5, .mp 2), (6, .sl 3 x.1.2.length), (7, .tr (ti (x.2 : Nat)))], [(0, grBl g), (1, hB x.1.1), (2, inB x.1.2), (3, natsB x.1.2)], 10⟩) (fun x => HInv N x.2 x.1.1 x.1.2 ∧ x.2 ≤ x.1.2.length ∧ R = OH (N + 1 - x.2) x.1 x.2) (fun x => N + 1 - x.2) ((List.replicate N none, [0]), 0) [0, _, _, _] []
    (Sub.mk' rfl ⟨⟨rfl, rfl⟩, ⟨rfl, rfl⟩, rfl, ⟨rfl, rfl⟩, .inl rfl, trivial⟩ ⟨⟨rfl, .inl rfl, .inl rfl, .inl rfl, .inl rfl, trivial⟩, ⟨rfl, rfl, rfl, by rw [List.map_replicate]; rfl⟩, ⟨rfl, rfl⟩, ⟨rfl, rfl, rfl, rfl⟩, trivial⟩ rfl rfl) ⟨⟨List.length_replicate .., by simp, fun x hx => by rw [List.mem_singleton.1 hx]; exact hpos, fun a l e => by
      have e : (List.replicate N none)[a]? = some (some l) := e
      rw [List.getElem?_replicate] at e
      split at e <;> cases e⟩, Nat.zero_le _, hR⟩ ?_
  clear hR
  rintro ⟨⟨lk, todo⟩, k⟩ ⟨hI, hk, hR⟩ -
  simp only at hI hk hR
  have htl := hI.todo_len
  have hlkl := hI.len
  have hO1 := hO (N - k) (lk, todo) k
  rw [show N - k + 1 = N + 1 - k by omega, ← hR] at hO1
  clear hR
  conv => whnf
  refine csplit (fun hkt => ?_) (fun hkt => ?_)
  · have hkt : k < todo.length := by have : decide ((k : Int) < (todo.length : Int)) = true := hkt; have := of_decide_eq_true this; omega
    obtain ⟨a, ha⟩ : ∃ a, todo[k]? = some a := ⟨_, List.getElem?_eq_getElem hkt⟩
    have haN := hI.lt a (List.mem_of_getElem? ha)
    obtain ⟨n, hn⟩ : ∃ n, g.nodes[a]? = some n := ⟨_, List.getElem?_eq_getElem (by omega)⟩
    obtain ⟨o, ho⟩ : ∃ o, lk[a]? = some o := ⟨_, List.getElem?_eq_getElem (by omega)⟩
    have hlk : lkAt lk a = o.getD [] := by unfold lkAt; rw [List.getD_eq_getElem?_getD, ho]; rfl
    have hO2 : R = match nowN n (lkAt lk a) with
        | none => ([], (a : Int))
        | some now => contH (OH (N - k)) (k + 1) (inH now (fol g a) (lk, todo)) := by
      rw [hO1]
      show (match todo[k]? with | none => _ | some a => _) = _
      rw [ha]
      show (match g.nodes[a]? with | none => _ | some n => _) = _
      rw [hn]
    clear hO1
    have hl0 := hI.at a
    have hf := k_follows n
    rw [hfI a n hn] at hf
    have hflt := hlt a
    have hfl := hfl a
    conv => whnf
    refine ⟨rfl, (show (0 : Int) ≤ k by omega), (show (k : Int) < (todo.length : Int) by omega), ?_⟩
    conv => whnf
    refine ⟨rfl, (by show k < (todo.map nrow).length; rw [List.length_map]; omega), fun row hrow => ?_⟩
    obtain ⟨d, hd, rfl⟩ := nrow_get hrow
    obtain rfl := Option.some.inj (ha.symm.trans hd)
    clear hrow hd
    refine ⟨(show 0 < 1 by decide), fun t ht => ?_⟩
    cases ht
    conv => whnf
    refine ⟨rfl, (show (0 : Int) ≤ a by omega), (show (a : Int) < ((g.nodes.map Nd.cells).length : Int) by omega), fun row hrow => ?_⟩
    obtain ⟨d, hd, rfl⟩ := nd_get hrow
    obtain rfl := Option.some.inj (hn.symm.trans hd)
    clear hrow hd
    conv => whnf
    refine CutL.by (fun _ : Unit => ⟨[(1, .ptr 0 0), (4, .sl 1 N), (5, .mp 2), (6, .sl 3 todo.length), (7, .tr (ti (k : Nat))), (8, .tr (ti (a : Nat))), (9, .ptr 4 0), (10, .tr (intsT (lkAt lk a)))], [(0, grBl g), (1, hB lk), (2, inB todo), (3, natsB todo), (4, .cells 54 (n.cells.map .tr))], 10⟩) (fun _ => True) ?_ ?_
    · conv => whnf
      refine ⟨rfl, (show (0 : Int) ≤ a by omega), (show (a : Int) < (N : Int) by omega), ?_⟩
      conv => whnf
      refine ⟨rfl, (by show a < (lk.map hrow).length; rw [List.length_map]; omega), fun row hrow => ?_⟩
      obtain ⟨d, hd, rfl⟩ := hrow_get hrow
      obtain rfl := Option.some.inj (ho.symm.trans hd)
      clear hrow hd
      cases o with
      | none =>
        refine ⟨(show 0 < 1 by decide), fun t ht => ?_⟩
        cases ht
        conv => whnf
        exact ⟨(), [0, 1, 2, 3, _], [], Sub.mk' rfl ⟨⟨rfl, rfl⟩, ⟨rfl, rfl⟩, rfl, ⟨rfl, rfl⟩, .inl rfl, .inl rfl, ⟨rfl, rfl⟩, .inr ⟨rfl, 1, 8, by rw [hlk]; rfl⟩, trivial⟩ ⟨⟨rfl, .inl rfl, .inl rfl, .inl rfl, .inl rfl, trivial⟩, ⟨rfl, rfl, rfl, rfl⟩, ⟨rfl, rfl⟩, ⟨rfl, rfl, rfl, rfl⟩, ⟨rfl, .inl rfl, .inl rfl, .inl rfl, .inl rfl, .inl rfl, .inl rfl, .inl rfl, .inl rfl, .inl rfl, .inl rfl, .inl rfl, .inl rfl, .inl rfl, trivial⟩, trivial⟩ rfl rfl, trivial⟩
      | some l =>
        refine ⟨(show 0 < 1 by decide), fun t ht => ?_⟩
        cases ht
        conv => whnf
        exact ⟨(), [0, 1, 2, 3, _], [], Sub.mk' rfl ⟨⟨rfl, rfl⟩, ⟨rfl, rfl⟩, rfl, ⟨rfl, rfl⟩, .inl rfl, .inl rfl, ⟨rfl, rfl⟩, .inl (by rw [hlk]; rfl), trivial⟩ ⟨⟨rfl, .inl rfl, .inl rfl, .inl rfl, .inl rfl, trivial⟩, ⟨rfl, rfl, rfl, rfl⟩, ⟨rfl, rfl⟩, ⟨rfl, rfl, rfl, rfl⟩, ⟨rfl, .inl rfl, .inl rfl, .inl rfl, .inl rfl, .inl rfl, .inl rfl, .inl rfl, .inl rfl, .inl rfl, .inl rfl, .inl rfl, .inl rfl, .inl rfl, trivial⟩, trivial⟩ rfl rfl, trivial⟩
    rintro - - -
    clear hlk ho
    generalize lkAt lk a = l0 at hO2 hl0
    have hll0 : (l0.map irow).length = l0.length := List.length_map ..
    have hcl := k_cloneO l0 (by omega)
    have hlw : ∀ m : Nat, m = l0.length → 0 < m → IntKind.i64.wrap ((m : Int) - 1) = ((m - 1 : Nat) : Int) := fun m e h => by rw [w64 (by omega) (by omega)]; omega
    conv => whnf
    refine CutL.by (fun now : List Int => ⟨[(1, .ptr 0 0), (4, .sl 1 N), (5, .mp 2), (6, .sl 3 todo.length), (7, .tr (ti (k : Nat))), (8, .tr (ti (a : Nat))), (9, .ptr 4 0), (10, .tr (intsT now))], [(0, grBl g), (1, hB lk), (2, inB todo), (3, natsB todo), (4, .cells 54 (n.cells.map .tr))], 10⟩) (fun now => nowN n l0 = some now) ?_ ?_
    · conv => whnf
      cases h5 : (n.kind == 5) with
      | true =>
        conv => whnf
        refine acall.new [] [] _ _ _ _ (hcl) rfl rfl rfl rfl aut aut rfl rfl ?_
        conv => whnf
        refine ⟨rfl, rfl, rfl, Nat.le_of_eq hll0.symm, (show (l0.length + 1) * 8 ≤ 150000000000000 by omega), fun q hq => ?_, ?_⟩
        · cases hq with
          | head => exact Nat.ne_of_beq_eq_false rfl
          | tail _ h => cases h
        conv => whnf
        refine ⟨by kernel_rfl, fun _ => ?_⟩
        conv => whnf
        have htk : (l0.map irow).take l0.length ++ [[ti n.thing]] = (l0 ++ [n.thing]).map irow := by rw [List.take_of_length_le (Nat.le_of_eq hll0), List.map_append]; rfl
        have hle : l0.length + 1 ≤ ((l0.map irow).take l0.length ++ [[ti n.thing]]).length := by rw [htk, List.length_map, List.length_append]; exact Nat.le_refl _
        have heq : intsT (l0 ++ [n.thing]) = Tr.lst 1 8 (((l0.map irow).take l0.length ++ [[ti n.thing]]).take (l0.length + 1)) := by rw [htk, List.take_of_length_le (by rw [List.length_map, List.length_append]; exact Nat.le_refl _)]
        exact ⟨l0 ++ [n.thing], [0, 1, 2, 3, 4], [], Sub.mk' rfl ⟨⟨rfl, rfl⟩, ⟨rfl, rfl⟩, rfl, ⟨rfl, rfl⟩, .inl rfl, .inl rfl, ⟨rfl, rfl⟩, ⟨rfl, hle, heq⟩, trivial⟩ ⟨⟨rfl, .inl rfl, .inl rfl, .inl rfl, .inl rfl, trivial⟩, ⟨rfl, rfl, rfl, rfl⟩, ⟨rfl, rfl⟩, ⟨rfl, rfl, rfl, rfl⟩, ⟨rfl, .inl rfl, .inl rfl, .inl rfl, .inl rfl, .inl rfl, .inl rfl, .inl rfl, .inl rfl, .inl rfl, .inl rfl, .inl rfl, .inl rfl, .inl rfl, trivial⟩, trivial⟩ rfl rfl, by unfold nowN; rw [h5]; rfl⟩
      | false =>
      conv => whnf
      cases h6 : (n.kind == 6) with
      | true =>
        conv => whnf
        cases h7 : (((l0.map irow).length : Int) == 0) with
        | true =>
          conv => whnf
          refine ⟨by kernel_rfl, fun _ => ?_⟩
          conv => whnf
          rw [hll0] at h7
          have hRf : R = ([], (a : Int)) := by rw [hO2]; unfold nowN; rw [h5, h6, h7]; rfl
          exact ⟨⟨.inr ⟨rfl, 1, 24, by rw [hRf]; rfl⟩, .inl (by rw [hRf]), trivial⟩, trivial⟩
        | false =>
        have h0 : 0 < l0.length := by
          have := beq_eq_false_iff_ne.1 h7
          omega
        rw [hll0] at h7
        have hw1 := hlw _ hll0 (by omega)
        conv => whnf
        rw [hw1]
        refine ⟨rfl, (show (0 : Int) ≤ (((l0.map irow).length - 1 : Nat) : Int) by omega), (show (((l0.map irow).length - 1 : Nat) : Int) < ((l0.map irow).length : Int) by omega), fun row hrow => ?_⟩
        obtain ⟨d, hd, rfl⟩ := int_get hrow
        replace hd : l0[l0.length - 1]? = some d := by rw [← hll0]; exact hd
        have hgd : l0.getD (l0.length - 1) 0 = d := by rw [List.getD_eq_getElem?_getD, hd]; rfl
        clear hrow hd
        conv => whnf
        refine ⟨by kernel_rfl, fun _ => ?_⟩
        conv => whnf
        cases hne : (d != n.thing) with
        | true =>
          conv => whnf
          have hRf : R = ([], (a : Int)) := by rw [hO2]; unfold nowN; rw [h5, h6, h7, hgd, hne]; rfl
          exact ⟨⟨.inr ⟨rfl, 1, 24, by rw [hRf]; rfl⟩, .inl (by rw [hRf]), trivial⟩, trivial⟩
        | false =>
          conv => whnf
          rw [hw1]
          refine ⟨rfl, Int.le_refl _, (show (0 : Int) ≤ (((l0.map irow).length - 1 : Nat) : Int) by omega), (show (((l0.map irow).length - 1 : Nat) : Int) ≤ ((l0.map irow).length : Int) by omega), ?_⟩
          conv => whnf
          exact ⟨l0.take (l0.length - 1), [0, 1, 2, 3, 4], [], Sub.mk' rfl ⟨⟨rfl, rfl⟩, ⟨rfl, rfl⟩, rfl, ⟨rfl, rfl⟩, .inl rfl, .inl rfl, ⟨rfl, rfl⟩, .inl (by show (Tr.lst 1 8 (((l0.map irow).take ((l0.map irow).length - 1)).drop 0)) = (Tr.lst 1 8 ((l0.take (l0.length - 1)).map irow)); rw [List.drop_zero, hll0, List.map_take]), trivial⟩ ⟨⟨rfl, .inl rfl, .inl rfl, .inl rfl, .inl rfl, trivial⟩, ⟨rfl, rfl, rfl, rfl⟩, ⟨rfl, rfl⟩, ⟨rfl, rfl, rfl, rfl⟩, ⟨rfl, .inl rfl, .inl rfl, .inl rfl, .inl rfl, .inl rfl, .inl rfl, .inl rfl, .inl rfl, .inl rfl, .inl rfl, .inl rfl, .inl rfl, .inl rfl, trivial⟩, trivial⟩ rfl rfl, by unfold nowN; rw [h5, h6, h7, hgd, hne]; rfl⟩
      | false =>
      conv => whnf
      cases h9 : (n.kind == 9) with
      | true =>
        conv => whnf
        cases h7 : decide (((l0.map irow).length : Int) > 0) with
        | true =>
          conv => whnf
          rw [hll0] at h7
          have hRf : R = ([], (a : Int)) := by rw [hO2]; unfold nowN; rw [h5, h6, h9, h7]; rfl
          exact ⟨⟨.inr ⟨rfl, 1, 24, by rw [hRf]; rfl⟩, .inl (by rw [hRf]), trivial⟩, trivial⟩
        | false =>
          conv => whnf
          exact ⟨l0, [0, 1, 2, 3, 4], [], Sub.mk' rfl ⟨⟨rfl, rfl⟩, ⟨rfl, rfl⟩, rfl, ⟨rfl, rfl⟩, .inl rfl, .inl rfl, ⟨rfl, rfl⟩, .inl rfl, trivial⟩ ⟨⟨rfl, .inl rfl, .inl rfl, .inl rfl, .inl rfl, trivial⟩, ⟨rfl, rfl, rfl, rfl⟩, ⟨rfl, rfl⟩, ⟨rfl, rfl, rfl, rfl⟩, ⟨rfl, .inl rfl, .inl rfl, .inl rfl, .inl rfl, .inl rfl, .inl rfl, .inl rfl, .inl rfl, .inl rfl, .inl rfl, .inl rfl, .inl rfl, .inl rfl, trivial⟩, trivial⟩ rfl rfl, by rw [hll0] at h7; unfold nowN; rw [h5, h6, h9, h7]; rfl⟩
      | false =>
        conv => whnf
        exact ⟨l0, [0, 1, 2, 3, 4], [], Sub.mk' rfl ⟨⟨rfl, rfl⟩, ⟨rfl, rfl⟩, rfl, ⟨rfl, rfl⟩, .inl rfl, .inl rfl, ⟨rfl, rfl⟩, .inl rfl, trivial⟩ ⟨⟨rfl, .inl rfl, .inl rfl, .inl rfl, .inl rfl, trivial⟩, ⟨rfl, rfl, rfl, rfl⟩, ⟨rfl, rfl⟩, ⟨rfl, rfl, rfl, rfl⟩, ⟨rfl, .inl rfl, .inl rfl, .inl rfl, .inl rfl, .inl rfl, .inl rfl, .inl rfl, .inl rfl, .inl rfl, .inl rfl, .inl rfl, .inl rfl, .inl rfl, trivial⟩, trivial⟩ rfl rfl, by unfold nowN; rw [h5, h6, h9]; rfl⟩
    rintro now hnow -
    have hO3 : R = contH (OH (N - k)) (k + 1) (inH now (fol g a) (lk, todo)) := by rw [hO2, hnow]
    have hnl : now.length ≤ k + 1 := Nat.le_trans (nowN_len hnow) (by omega)
    have hI2 := hI.mono (Nat.le_succ k)
    have hcT := k_cloneT now (by omega)
    have hnr : (now.map irow).length = now.length := List.length_map ..
    obtain ⟨F, hF⟩ : ∃ F, fol g a = F := ⟨_, rfl⟩
    rw [hF] at hf hflt hfl hO3
    have hFl := natsT_len F
    clear hO2 hnow hl0 hcl hlw hI
    conv => whnf
    refine acall.pure _ (hf) rfl rfl fun _ => ?_
    conv => whnf
    refine LoopL.by (fun x : HSt × Nat => ⟨[(1, .ptr 0 0), (4, .sl 1 N), (5, .mp 2), (6, .sl 3 x.1.2.length), (7, .tr (ti (k : Nat))), (10, .tr (intsT now)), (78, .tr (natsT F)), (79, .tr (ti F.length)), (80, .tr (ti (x.2 : Nat)))], [(0, grBl g), (1, hB x.1.1), (2, inB x.1.2), (3, natsB x.1.2)], 10⟩) (fun x => HInv N (k + 1) x.1.1 x.1.2 ∧ k < x.1.2.length ∧ x.2 ≤ F.length ∧ R = contH (OH (N - k)) (k + 1) (inH now (F.drop x.2) x.1)) (fun x => F.length - x.2) ((lk, todo), 0) [0, 1, 2, 3] []
      (Sub.mk' rfl ⟨⟨rfl, rfl⟩, ⟨rfl, rfl⟩, rfl, ⟨rfl, rfl⟩, .inl rfl, .inl rfl, .inl rfl, .inl (by rw [← hFl]), .inl rfl, trivial⟩ ⟨⟨rfl, .inl rfl, .inl rfl, .inl rfl, .inl rfl, trivial⟩, ⟨rfl, rfl, rfl, rfl⟩, ⟨rfl, rfl⟩, ⟨rfl, rfl, rfl, rfl⟩, trivial⟩ rfl rfl) ⟨hI2, hkt, Nat.zero_le _, hO3⟩ ?_
    clear hO3 hI2
    rintro ⟨⟨lk, todo⟩, j⟩ ⟨hI, hk, hj, hR⟩ -
    simp only at hI hk hj hR
    have hlkl := hI.len
    have htl := hI.todo_len
    conv => whnf
    refine csplit (fun hjt => ?_) (fun hjt => ?_)
    · have hjL : j < F.length := by have : decide ((j : Int) < (F.length : Int)) = true := hjt; have := of_decide_eq_true this; omega
      clear hjt
      obtain ⟨y, hy⟩ : ∃ y, F[j]? = some y := ⟨_, List.getElem?_eq_getElem hjL⟩
      have hyN := hflt y (List.mem_of_getElem? hy)
      rw [drop_cons hy] at hR
      obtain ⟨o, ho⟩ : ∃ o, lk[y]? = some o := ⟨_, List.getElem?_eq_getElem (by omega)⟩
      have hlk : lkAt lk y = o.getD [] := by unfold lkAt; rw [List.getD_eq_getElem?_getD, ho]; rfl
      have hR2 : R = contH (OH (N - k)) (k + 1) (bif todo.contains y then (bif eqI2 (lkAt lk y) now then inH now (F.drop (j + 1)) (lk, todo) else ((lk, todo), some y)) else inH now (F.drop (j + 1)) (lk.set y (some now), todo ++ [y])) := hR
      clear hR
      conv => whnf
      refine ⟨rfl, (show (0 : Int) ≤ j by omega), (show (j : Int) < ((((F.map fun (x : Nat) => (x : Int))).map irow).length : Int) by omega), fun row hrow => ?_⟩
      obtain ⟨d, hd, rfl⟩ := natsT_get hrow
      obtain rfl := Option.some.inj (hy.symm.trans hd)
      clear hrow hd
      have hlk2 : (mget (mapE ((lk, todo), j).1.2) (.ki .i64 (y : Int))).getD (Tr.v Z.b.val) = tb (todo.contains y) := by
        show (mget (mapE todo) (.ki .i64 (y : Int))).getD (Tr.v Z.b.val) = tb (todo.contains y)
        rw [mget_mapE]
        cases todo.contains y <;> rfl
      conv => whnf
      rw [hlk2]
      clear hlk2
      cases hcon : todo.contains y with
      | false =>
        have hyT : y ∉ todo := fun w => by rw [List.contains_iff_mem.2 w] at hcon; cases hcon
        rw [hcon, cond_false] at hR2
        have hI3 := hI.put hyN hyT hnl
        have hmS : mput (mapE todo) (.ki .i64 (y : Int)) (tb true) = mapE (todo ++ [y]) := by rw [mput_mapE, hcon]; rfl
        conv => whnf
        refine acall.pure _ (hcT) rfl rfl fun _ => ?_
        conv => whnf
        refine ⟨rfl, (show (0 : Int) ≤ y by omega), (show (y : Int) < (N : Int) by omega), ?_⟩
        conv => whnf
        refine ⟨rfl, rfl, (by show y < (lk.map hrow).length; rw [List.length_map]; omega), fun row hrw => ?_⟩
        obtain ⟨d, hd, rfl⟩ := hrow_get hrw
        clear hrw hd
        have hrl : (hrow d).length = 1 := by cases d <;> rfl
        refine ⟨(by show 0 + 1 ≤ (hrow d).length; omega), ?_⟩
        conv => whnf
        refine ⟨rfl, rfl, rfl, (by rw [List.length_map]; exact Nat.le_refl _), (show (todo.length + 1) * 8 ≤ 150000000000000 by omega), fun q hq => ?_, ?_⟩
        · cases hq with
          | head => exact Nat.ne_of_beq_eq_false rfl
          | tail _ h => cases h
        conv => whnf
        have hda : (todo.map nrow).take todo.length ++ [[ti (y : Nat)]] = (todo ++ [y]).map nrow := by rw [List.take_of_length_le (by rw [List.length_map]; exact Nat.le_refl _), List.map_append]; rfl
        have hset : (lk.map hrow).set y ((hrow d).take 0 ++ [intsT now] ++ (hrow d).drop (0 + 1)) = (lk.set y (some now)).map hrow := by rw [List.map_set]; cases d <;> rfl
        exact ⟨((lk.set y (some now), todo ++ [y]), j + 1), [0, 1, 2, _], [], Sub.mk' rfl ⟨⟨rfl, rfl⟩, ⟨rfl, rfl⟩, rfl, ⟨rfl, by rw [List.length_append]; rfl⟩, .inl rfl, .inl rfl, .inl rfl, .inl rfl, .inl (ti_succ hjL (by omega)), trivial⟩ ⟨⟨rfl, .inl rfl, .inl rfl, .inl rfl, .inl rfl, trivial⟩, ⟨rfl, rfl, rfl, hset⟩, ⟨rfl, hmS⟩, ⟨rfl, rfl, rfl, hda⟩, trivial⟩ rfl rfl, ⟨hI3, by show k < (todo ++ [y]).length; rw [List.length_append]; omega, hjL, hR2⟩, by show F.length - (j + 1) < F.length - j; omega⟩
      | true =>
        rw [hcon, cond_true, hlk] at hR2
        conv => whnf
        refine ⟨rfl, (show (0 : Int) ≤ y by omega), (show (y : Int) < (N : Int) by omega), ?_⟩
        conv => whnf
        refine ⟨rfl, (by show y < (lk.map hrow).length; rw [List.length_map]; omega), fun row hrw => ?_⟩
        obtain ⟨d, hd, rfl⟩ := hrow_get hrw
        obtain rfl := Option.some.inj (ho.symm.trans hd)
        clear hrw hd
        cases o with
        | none =>
          refine ⟨(show 0 < 1 by decide), fun t ht => ?_⟩
          cases ht
          conv => whnf
          refine acall.gen [] [] [.tr (intsT []), .tr (intsT now)] [] _ [] (k_equal [] now) rfl rfl rfl rfl ⟨.inr ⟨rfl, 1, 8, rfl⟩, .inl rfl, trivial⟩ trivial rfl rfl fun _ => ?_
          conv => whnf
          cases he : eqI2 [] now with
          | false =>
            have hRf : R = ([], (y : Int)) := by rw [hR2]; show contH _ _ (bif eqI2 [] now then _ else _) = _; rw [he]; rfl
            conv => whnf
            exact ⟨⟨.inr ⟨rfl, 1, 24, by rw [hRf]; rfl⟩, .inl (by rw [hRf]), trivial⟩, trivial⟩
          | true =>
            have hR3 : R = contH (OH (N - k)) (k + 1) (inH now (F.drop (j + 1)) (lk, todo)) := by rw [hR2]; show contH _ _ (bif eqI2 [] now then _ else _) = _; rw [he]; rfl
            conv => whnf
            exact ⟨((lk, todo), j + 1), [0, 1, 2, 3], [], Sub.mk' rfl ⟨⟨rfl, rfl⟩, ⟨rfl, rfl⟩, rfl, ⟨rfl, rfl⟩, .inl rfl, .inl rfl, .inl rfl, .inl rfl, .inl (ti_succ hjL (by omega)), trivial⟩ ⟨⟨rfl, .inl rfl, .inl rfl, .inl rfl, .inl rfl, trivial⟩, ⟨rfl, rfl, rfl, rfl⟩, ⟨rfl, rfl⟩, ⟨rfl, rfl, rfl, rfl⟩, trivial⟩ rfl rfl, ⟨hI, hk, hjL, hR3⟩, by show F.length - (j + 1) < F.length - j; omega⟩
        | some l =>
          refine ⟨(show 0 < 1 by decide), fun t ht => ?_⟩
          cases ht
          conv => whnf
          refine acall.pure _ (k_equal l now) rfl rfl fun _ => ?_
          conv => whnf
          cases he : eqI2 l now with
          | false =>
            have hRf : R = ([], (y : Int)) := by rw [hR2]; show contH _ _ (bif eqI2 l now then _ else _) = _; rw [he]; rfl
            conv => whnf
            exact ⟨⟨.inr ⟨rfl, 1, 24, by rw [hRf]; rfl⟩, .inl (by rw [hRf]), trivial⟩, trivial⟩
          | true =>
            have hR3 : R = contH (OH (N - k)) (k + 1) (inH now (F.drop (j + 1)) (lk, todo)) := by rw [hR2]; show contH _ _ (bif eqI2 l now then _ else _) = _; rw [he]; rfl
            conv => whnf
            exact ⟨((lk, todo), j + 1), [0, 1, 2, 3], [], Sub.mk' rfl ⟨⟨rfl, rfl⟩, ⟨rfl, rfl⟩, rfl, ⟨rfl, rfl⟩, .inl rfl, .inl rfl, .inl rfl, .inl rfl, .inl (ti_succ hjL (by omega)), trivial⟩ ⟨⟨rfl, .inl rfl, .inl rfl, .inl rfl, .inl rfl, trivial⟩, ⟨rfl, rfl, rfl, rfl⟩, ⟨rfl, rfl⟩, ⟨rfl, rfl, rfl, rfl⟩, trivial⟩ rfl rfl, ⟨hI, hk, hjL, hR3⟩, by show F.length - (j + 1) < F.length - j; omega⟩
    · have hjt : F.length ≤ j := by have : decide ((j : Int) < (F.length : Int)) = false := hjt; have := of_decide_eq_false this; omega
      rw [List.drop_of_length_le hjt] at hR
      have hR2 : R = OH (N - k) (lk, todo) (k + 1) := hR
      conv => whnf
      refine ⟨fun _ => ?_, fun h => absurd rfl h⟩
      conv => whnf
      exact ⟨((lk, todo), k + 1), [0, 1, 2, 3], [], Sub.mk' rfl ⟨⟨rfl, rfl⟩, ⟨rfl, rfl⟩, rfl, ⟨rfl, rfl⟩, .inl (ti_succ hk (by omega)), trivial⟩ ⟨⟨rfl, .inl rfl, .inl rfl, .inl rfl, .inl rfl, trivial⟩, ⟨rfl, rfl, rfl, rfl⟩, ⟨rfl, rfl⟩, ⟨rfl, rfl, rfl, rfl⟩, trivial⟩ rfl rfl, ⟨hI, hk, by rw [hR2, show N + 1 - (k + 1) = N - k by omega]⟩, by show N + 1 - (k + 1) < N + 1 - k; omega⟩
  · have hkt : todo.length ≤ k := by have : decide ((k : Int) < (todo.length : Int)) = false := hkt; have := of_decide_eq_false this; omega
    have hRe : R = (lk, -1) := by
      rw [hO1]
      show (match todo[k]? with | none => _ | some a => _) = _
      rw [List.getElem?_eq_none hkt]
    subst hRe
    conv => whnf
    refine ⟨fun _ => ?_, fun h => absurd rfl h⟩
    conv => whnf
    exact ⟨⟨⟨rfl, (by show N ≤ (lk.map hrow).length; rw [List.length_map]; omega), (by show heT lk = Tr.lst 1 24 ((lk.map hrow).take N); rw [List.take_of_length_le (by rw [List.length_map]; omega)])⟩, .inl rfl, trivial⟩, trivial⟩
end Go.Proofs.YthboippafkcoiaaDoor.am

namespace Go.Proofs.YthboippafkcoiaaDoor.am
open Go Go.Proofs
set_option linter.all false

def grBad (g : Gr) : Bool := decide (g.locals < 0) || decide (g.locals > 64) || decide (g.slots < g.locals) || decide (g.slots > 4160) || decide ((g.nodes.length : Int) < 1) || decide ((g.nodes.length : Int) > 4096)
/-- the first node that is not right -/
def ndBad (u : Un) (g : Gr) : List Nd → Int → Option Int
  | [], _ => none
  | n :: r, i => bif rightB u g n then ndBad u g r (i + 1) else some i
def contC (g : Gr) (t : Int) (R : Int × Int × Int) : Option Int → Int × Int × Int
  | some i => (60, t, i)
  | none => bif decide ((heldR g).2 ≥ 0) then (60, t, (heldR g).2) else R
def ckG (u : Un) : List Gr → Int → Int × Int × Int
  | [], _ => (0, 0, 0)
  | g :: r, t => bif grBad g then (60, t, 0) else contC g t (ckG u r (t + 1)) (ndBad u g g.nodes 0)
def checkU (u : Un) : Int × Int × Int := bif namedB u then ckG u u.graphs 0 else (60, 0, 0)
theorem within_hi {p has k most : Int} (h : withinB p has k most = true) (hp : (andP p has == 0) = false) : 0 ≤ k ∧ k < most := by
  unfold withinB at h
  rw [hp] at h
  simp only [Bool.false_and, Bool.false_or, Bool.and_eq_true, decide_eq_true_eq] at h
  exact ⟨h.1.2, h.2⟩
theorem right_ok {u : Un} {g : Gr} {n : Nd} (h : rightB u g n = true) (h0 : 0 ≤ n.kind) : nodeOk g.nodes.length n = true := by
  unfold rightB at h
  cases hh : headR n with
  | true => rw [hh] at h; cases h
  | false =>
    rw [hh, cond_false] at h
    unfold headR at hh
    simp only [Bool.or_eq_false_iff] at hh
    have hk := kinds hh.1.1.1 hh.1.1.2 h0
    unfold fieldsR at h
    simp only [Bool.and_eq_true] at h
    have hnx := h.1.1.1.2
    have hel := h.1.1.2
    obtain ⟨kind, op, slot, thing, a, b, next, els, origin⟩ := n
    simp only at hk hnx hel
    unfold nodeOk folI
    simp only
    rcases hk with rfl | rfl | rfl | rfl | rfl | rfl | rfl | rfl | rfl
    case inr.inr.inr.inr.inr.inr.inr.inr => rfl
    case inr.inr.inr.inr.inr.inr.inr.inl =>
      have h1 := within_hi hnx (by kernel_rfl)
      have h2 := within_hi hel (by kernel_rfl)
      cases hb : (els != next) <;> simp [hb] <;> omega
    case inl =>
      have h1 : 0 ≤ next ∧ next < (g.nodes.length : Int) := within_hi hnx (by unfold partsI; cases two op <;> kernel_rfl)
      simp; omega
    all_goals
      have h1 := within_hi hnx (by kernel_rfl)
      simp; omega
theorem whole_right {u : Un} {g : Gr} (hb : grBad g = false) (hr : ∀ n ∈ g.nodes, rightB u g n = true ∧ 0 ≤ n.kind) : wholeB g = true := by
  unfold grBad at hb
  simp only [Bool.or_eq_false_iff] at hb
  unfold wholeB
  rw [hb.1.2, hb.2]
  exact List.all_eq_true.2 fun n hn => right_ok (hr n hn).1 (hr n hn).2
set_option maxRecDepth 100000 in
set_option maxHeartbeats 2000000 in
theorem k_check (u : Un) : K 12 [u.av] [] (.ret (.tup [.tr (ti (checkU u).1), .tr (ti (checkU u).2.1), .tr (ti (checkU u).2.2)])) [] := by
  have hn := k_named u
  have hC : checkU u = bif namedB u then ckG u u.graphs 0 else (60, 0, 0) := rfl
  generalize checkU u = R at hC ⊢
  have hlg : (u.graphs.map Gr.cells).length = u.graphs.length := List.length_map ..
  refine Ctr.of hT hmix Tryd.func12 rfl (fun _ _ => by kernel_rfl) rfl fun hok => ?_
  obtain ⟨_, hl3, hrw⟩ := ((hok.slot 0 rfl).agg _ (.tail _ (.tail _ (.head _)))).tr.lst
  have hbd : ∀ g ∈ u.graphs, ∀ n ∈ g.nodes, 0 ≤ n.kind ∧ 0 ≤ n.op ∧ n.op ≤ 255 := fun g hg n hnn => by
    have h1 := (hrw g.cells (List.mem_map_of_mem hg)).2 (nodesT g.nodes) (.tail _ (.tail _ (.tail _ (.head _))))
    have h2 := (h1.lst.2.2 n.cells (List.mem_map_of_mem hnn)).2
    have h3 := (h2 (tu n.kind) (.head _)).u8
    have h4 := (h2 (tu n.op) (.tail _ (.head _))).u8
    exact ⟨h3.1, h4.1, h4.2⟩
  rw [List.length_map] at hl3
  clear hok hrw
  conv => whnf
  refine acall.pure _ (hn) rfl rfl fun _ => ?_
  conv => whnf
  cases hnm : namedB u with
  | false =>
    conv => whnf
    have hRf : R = (60, 0, 0) := by rw [hC, hnm]; rfl
    exact ⟨⟨.inl (by rw [hRf]), .inl (by rw [hRf]), .inl (by rw [hRf]), trivial⟩, trivial⟩
  | true =>
  have hR : R = ckG u u.graphs 0 := by rw [hC, hnm]; rfl
  clear hC
  conv => whnf
  refine LoopL.by (fun t : Nat => ⟨[(1, .ptr 0 0), (15, .tr (graphsT u.graphs)), (16, .tr (ti u.graphs.length)), (17, .tr (ti t))], [(0, .cells 29 [.tr (declsT u.shared), .tr (declsT u.locks), .tr (graphsT u.graphs)])], 10⟩) (fun t => t ≤ u.graphs.length ∧ R = ckG u (u.graphs.drop t) t) (fun t => u.graphs.length - t) 0 [_] []
    (Sub.mk' rfl ⟨⟨rfl, rfl⟩, .inl rfl, .inl (by rw [← hlg]), .inl rfl, trivial⟩ ⟨⟨rfl, .inl rfl, .inl rfl, .inl rfl, trivial⟩, trivial⟩ rfl rfl) ⟨Nat.zero_le _, hR⟩ ?_
  clear hR
  rintro t ⟨ht, hR⟩ -
  conv => whnf
  refine csplit (fun htt => ?_) (fun htt => ?_)
  · have htt : t < u.graphs.length := by have : decide ((t : Int) < (u.graphs.length : Int)) = true := htt; have := of_decide_eq_true this; omega
    obtain ⟨g, hg⟩ : ∃ g, u.graphs[t]? = some g := ⟨_, List.getElem?_eq_getElem htt⟩
    rw [drop_cons hg] at hR
    have hbd := hbd g (List.mem_of_getElem? hg)
    have hR2 : R = bif grBad g then (60, (t : Int), 0) else contC g t (ckG u (u.graphs.drop (t + 1)) ((t : Int) + 1)) (ndBad u g g.nodes 0) := hR
    clear hR
    have hgl : (g.nodes.map Nd.cells).length = g.nodes.length := List.length_map ..
    conv => whnf
    refine ⟨rfl, (show (0 : Int) ≤ t by omega), (show (t : Int) < ((u.graphs.map Gr.cells).length : Int) by omega), fun row hrow => ?_⟩
    obtain ⟨d, hd, rfl⟩ := gr_get hrow
    obtain rfl := Option.some.inj (hg.symm.trans hd)
    clear hrow hd hg
    conv => whnf
    cases b1 : decide (g.locals < 0) with
    | true =>
      conv => whnf
      have hRf : R = (60, (t : Int), 0) := by rw [hR2]; unfold grBad; rw [b1]; rfl
      exact ⟨⟨.inl (by rw [hRf]), .inl (by rw [hRf]), .inl (by rw [hRf]), trivial⟩, trivial⟩
    | false =>
    conv => whnf
    cases b2 : decide (g.locals > 64) with
    | true =>
      conv => whnf
      have hRf : R = (60, (t : Int), 0) := by rw [hR2]; unfold grBad; rw [b1, b2]; rfl
      exact ⟨⟨.inl (by rw [hRf]), .inl (by rw [hRf]), .inl (by rw [hRf]), trivial⟩, trivial⟩
    | false =>
    conv => whnf
    cases b3 : decide (g.slots < g.locals) with
    | true =>
      conv => whnf
      have hRf : R = (60, (t : Int), 0) := by rw [hR2]; unfold grBad; rw [b1, b2, b3]; rfl
      exact ⟨⟨.inl (by rw [hRf]), .inl (by rw [hRf]), .inl (by rw [hRf]), trivial⟩, trivial⟩
    | false =>
    conv => whnf
    cases b4 : decide (g.slots > 4160) with
    | true =>
      conv => whnf
      have hRf : R = (60, (t : Int), 0) := by rw [hR2]; unfold grBad; rw [b1, b2, b3, b4]; rfl
      exact ⟨⟨.inl (by rw [hRf]), .inl (by rw [hRf]), .inl (by rw [hRf]), trivial⟩, trivial⟩
    | false =>
    conv => whnf
    cases b5 : decide (((g.nodes.map Nd.cells).length : Int) < 1) with
    | true =>
      conv => whnf
      rw [hgl] at b5
      have hRf : R = (60, (t : Int), 0) := by rw [hR2]; unfold grBad; rw [b1, b2, b3, b4, b5]; rfl
      exact ⟨⟨.inl (by rw [hRf]), .inl (by rw [hRf]), .inl (by rw [hRf]), trivial⟩, trivial⟩
    | false =>
    conv => whnf
    cases b6 : decide (((g.nodes.map Nd.cells).length : Int) > 4096) with
    | true =>
      conv => whnf
      rw [hgl] at b5 b6
      have hRf : R = (60, (t : Int), 0) := by rw [hR2]; unfold grBad; rw [b1, b2, b3, b4, b5, b6]; rfl
      exact ⟨⟨.inl (by rw [hRf]), .inl (by rw [hRf]), .inl (by rw [hRf]), trivial⟩, trivial⟩
    | false =>
    conv => whnf
    have hgb : grBad g = false := by rw [hgl] at b5 b6; unfold grBad; rw [b1, b2, b3, b4, b5, b6]; rfl
    rw [hgb, cond_false] at hR2
    have hmo : g.nodes.length ≤ 4096 := by have := of_decide_eq_false b6; omega
    clear b1 b2 b3 b4 b5 b6
    generalize hRR : ckG u (u.graphs.drop (t + 1)) ((t : Int) + 1) = RR at hR2
    refine LoopL.by (fun i : Nat => ⟨[(1, .ptr 0 0), (5, .tr (ti t)), (6, .ptr 1 0), (15, .tr (graphsT u.graphs)), (16, .tr (ti u.graphs.length)), (17, .tr (ti t)), (56, .tr (nodesT g.nodes)), (57, .tr (ti g.nodes.length)), (58, .tr (ti i))], [(0, .cells 29 [.tr (declsT u.shared), .tr (declsT u.locks), .tr (graphsT u.graphs)]), (1, grBl g)], 10⟩) (fun i => i ≤ g.nodes.length ∧ R = contC g t RR (ndBad u g (g.nodes.drop i) i) ∧ ∀ n ∈ g.nodes.take i, rightB u g n = true) (fun i => g.nodes.length - i) 0 [0, _] []
      (Sub.mk' rfl ⟨⟨rfl, rfl⟩, .inl rfl, ⟨rfl, rfl⟩, .inl rfl, .inl rfl, .inl rfl, .inl rfl, .inl (by rw [← hgl]), .inl rfl, trivial⟩ ⟨⟨rfl, .inl rfl, .inl rfl, .inl rfl, trivial⟩, ⟨rfl, .inl rfl, .inl rfl, .inl rfl, .inl rfl, trivial⟩, trivial⟩ rfl rfl) ⟨Nat.zero_le _, hR2, fun n hn => by cases hn⟩ ?_
    clear hR2
    rintro i ⟨hi, hR, hal⟩ -
    conv => whnf
    refine csplit (fun hit => ?_) (fun hit => ?_)
    · have hit : i < g.nodes.length := by have : decide ((i : Int) < (g.nodes.length : Int)) = true := hit; have := of_decide_eq_true this; omega
      obtain ⟨n, hn⟩ : ∃ n, g.nodes[i]? = some n := ⟨_, List.getElem?_eq_getElem hit⟩
      rw [drop_cons hn] at hR
      obtain ⟨q0, q1, q2⟩ := hbd n (List.mem_of_getElem? hn)
      have hri := k_right u g n q0 ⟨q1, q2⟩
      have hR2 : R = contC g t RR (bif rightB u g n then ndBad u g (g.nodes.drop (i + 1)) ((i : Int) + 1) else some (i : Int)) := hR
      clear hR
      conv => whnf
      refine ⟨rfl, (show (0 : Int) ≤ i by omega), (show (i : Int) < ((g.nodes.map Nd.cells).length : Int) by omega), fun row hrow => ?_⟩
      obtain ⟨d, hd, rfl⟩ := nd_get hrow
      obtain rfl := Option.some.inj (hn.symm.trans hd)
      clear hrow hd
      conv => whnf
      refine acall.pure _ (hri) rfl rfl fun _ => ?_
      conv => whnf
      cases hrb : rightB u g n with
      | false =>
        have hRf : R = (60, (t : Int), (i : Int)) := by rw [hR2, hrb]; rfl
        conv => whnf
        exact ⟨⟨.inl (by rw [hRf]), .inl (by rw [hRf]), .inl (by rw [hRf]), trivial⟩, trivial⟩
      | true =>
        rw [hrb, cond_true] at hR2
        conv => whnf
        exact ⟨i + 1, [0, 1], [], Sub.mk' rfl ⟨⟨rfl, rfl⟩, .inl rfl, ⟨rfl, rfl⟩, .inl rfl, .inl rfl, .inl rfl, .inl rfl, .inl rfl, .inl (ti_succ hit (by omega)), trivial⟩ ⟨⟨rfl, .inl rfl, .inl rfl, .inl rfl, trivial⟩, ⟨rfl, .inl rfl, .inl rfl, .inl rfl, .inl rfl, trivial⟩, trivial⟩ rfl rfl, ⟨hit, hR2, fun m hm => by
          rw [take_snoc hn] at hm
          rcases List.mem_append.1 hm with w | w
          · exact hal m w
          · rw [List.mem_singleton.1 w]; exact hrb⟩, by show g.nodes.length - (i + 1) < g.nodes.length - i; omega⟩
    have hit : g.nodes.length ≤ i := by have : decide ((i : Int) < (g.nodes.length : Int)) = false := hit; have := of_decide_eq_false this; omega
    rw [List.drop_of_length_le hit] at hR
    rw [List.take_of_length_le hit] at hal
    have hW := whole_of (whole_right hgb fun n hn => ⟨hal n hn, (hbd n hn).1⟩)
    have hhe := k_heldR g hW
    have hR2 : R = bif decide ((heldR g).2 ≥ 0) then (60, (t : Int), (heldR g).2) else RR := hR
    clear hR
    conv => whnf
    refine ⟨fun _ => ?_, fun h => absurd rfl h⟩
    conv => whnf
    refine acall.pure _ (hhe) rfl rfl fun _ => ?_
    conv => whnf
    cases hf : decide ((heldR g).2 ≥ 0) with
    | true =>
      have hRf : R = (60, (t : Int), (heldR g).2) := by rw [hR2, hf]; rfl
      conv => whnf
      exact ⟨⟨.inl (by rw [hRf]), .inl (by rw [hRf]), .inl (by rw [hRf]), trivial⟩, trivial⟩
    | false =>
      have hR3 : R = ckG u (u.graphs.drop (t + 1)) ((t + 1 : Nat) : Int) := by rw [hR2, hf, cond_false, ← hRR]; rfl
      conv => whnf
      exact ⟨t + 1, [0], [], Sub.mk' rfl ⟨⟨rfl, rfl⟩, .inl rfl, .inl rfl, .inl (ti_succ htt (by omega)), trivial⟩ ⟨⟨rfl, .inl rfl, .inl rfl, .inl rfl, trivial⟩, trivial⟩ rfl rfl, ⟨htt, hR3⟩, by show u.graphs.length - (t + 1) < u.graphs.length - t; omega⟩
  · have htt : u.graphs.length ≤ t := by have : decide ((t : Int) < (u.graphs.length : Int)) = false := htt; have := of_decide_eq_false this; omega
    rw [List.drop_of_length_le htt] at hR
    have hRf : R = (0, 0, 0) := hR
    conv => whnf
    refine ⟨fun _ => ?_, fun h => absurd rfl h⟩
    conv => whnf
    exact ⟨⟨.inl (by rw [hRf]), .inl (by rw [hRf]), .inl (by rw [hRf]), trivial⟩, trivial⟩
end Go.Proofs.YthboippafkcoiaaDoor.am

namespace Go.Proofs.YthboippafkcoiaaDoor.ws
open Go Go.RowKit Go.Lib

theorem maskN (a : Nat) (ha : a < 18446744073709551616) : bits .and .u64 (a : Int) 4294967295 = ((a % 4294967296 : Nat) : Int) := by
  have h := bits_and_u64_nat a 4294967295 ha (by omega)
  have e : a &&& 4294967295 = a % 4294967296 := Nat.and_two_pow_sub_one_eq_mod a 32
  rw [e] at h
  exact h
theorem divN (a : Nat) : (a : Int) / 4294967296 = ((a / 4294967296 : Nat) : Int) := by omega
theorem mulN (a b : Nat) : (a : Int) * (b : Int) = ((a * b : Nat) : Int) := (Int.natCast_mul a b).symm
theorem addN (a b : Nat) : (a : Int) + (b : Int) = ((a + b : Nat) : Int) := (Int.natCast_add a b).symm
theorem wrapN (a : Nat) (ha : a < 18446744073709551616) : IntKind.u64.wrap (a : Int) = (a : Int) := by rw [IntKind.wrap_u64]; omega
theorem wrapM (a : Nat) : IntKind.u64.wrap (a : Int) = ((a % 18446744073709551616 : Nat) : Int) := by rw [IntKind.wrap_u64]; omega

theorem num_u64 {a b : Int} (h : a = b) : Value.int .u64 a = Value.int .u64 b := by rw [h]
theorem ret_int3 {k l m : IntKind} {a b c a' b' c' : Int} (h : a = a') (h2 : b = b') (h3 : c = c') : Ending.returned (.tuple #[.int k a, .int l b, .int m c]) = .returned (.tuple #[.int k a', .int l b', .int m c']) := by rw [h, h2, h3]

end Go.Proofs.YthboippafkcoiaaDoor.ws

namespace Go.Proofs.YthboippafkcoiaaDoor.ws
open Go Go.RowKit Go.Lib

end Go.Proofs.YthboippafkcoiaaDoor.ws

namespace Go.Proofs.YthboippafkcoiaaDoor.ws
open Go Go.RowKit Go.Lib

end Go.Proofs.YthboippafkcoiaaDoor.ws

namespace Go.Proofs.YthboippafkcoiaaDoor.ws
open Go Go.RowKit Go.Lib

/-- what stands in the block after j digits -/
def prRow (l : List UInt8) : Array Value := (List.replicate (20 - l.length) (Value.int .u8 0) ++ l.map fun c => Value.int .u8 c.toNat).toArray

theorem prRow_eq (l : List UInt8) : (prRow l).toList = List.replicate (20 - l.length) (Value.int .u8 0) ++ l.map fun c => Value.int .u8 c.toNat := rfl
theorem prRow_get (l : List UInt8) (p : Nat) (hp : 1 ≤ p) (hl : p + l.length = 20) : (prRow l)[p - 1]? = some (.int .u8 0) := by
  unfold prRow
  have h : 20 - l.length = (p - 1) + 1 := by omega
  rw [List.getElem?_toArray, List.getElem?_append_left (by simp; omega), h, List.getElem?_replicate, if_pos (by omega)]
theorem prRow_set (l : List UInt8) (c : UInt8) (p : Nat) (hp : 1 ≤ p) (hl : p + l.length = 20) : (prRow l).setIfInBounds (p - 1) (.int .u8 c.toNat) = prRow (c :: l) := by
  unfold prRow
  have h : 20 - l.length = (p - 1) + 1 := by omega
  have h' : 20 - (c :: l).length = p - 1 := by simp; omega
  rw [h, h', List.setIfInBounds_toArray, List.replicate_succ', List.append_assoc]
  congr 1
  rw [List.set_append_right _ _ (by simp)]
  simp
theorem prRow_at (l : List UInt8) (p i : Nat) (hl : p + l.length = 20) (hi : i < l.length) : (prRow l)[p + i]? = some (.int .u8 (l[i]'hi).toNat) := by
  unfold prRow
  rw [List.getElem?_toArray, List.getElem?_append_right (by simp; omega)]
  simp [show p + i - (20 - l.length) = i by omega, hi]
theorem slice_end (B p : Nat) (hp : 1 ≤ p) (hp2 : p ≤ 20) (W : World) :
    (Instr.sliceAt 165 (.pointer (some ⟨B, 0, none⟩)) (some (.int .i64 ((p : Int) - 1))) none none).run Tryd.prog W = .ok (.slice (some ⟨B, p - 1, none⟩) (21 - p) (21 - p)) W := by
  have hal : Tryd.prog.arrayLen 165 = 20 := by kernel_rfl
  have hu : Tryd.prog.underlying 165 = some (.array (Tryd.prog.arrayLen 165) (Tryd.prog.elem 165)) := by kernel_rfl
  have hz : ∀ W, (sizeOf (Tryd.prog.elem 165)).run Tryd.prog W = .ok 1 W := fun W => by kernel_rfl
  rw [run_sliceAt_array_l W _ _ hu .i64 _ (by omega) (by rw [hal]; omega), hz]
  simp only [Result.andThen, slicedAt, hal]
  have e : ((p : Int) - 1).toNat = p - 1 := by omega
  rw [e, if_neg (by omega)]
  have e2 : (⟨B, 0, none⟩ : Addr).add ((p - 1) * 1) = ⟨B, p - 1, none⟩ := by
    unfold Addr.add
    by_cases h : (p - 1) * 1 = 0
    · rw [if_pos h, show p - 1 = 0 by omega]
    · rw [if_neg h]; simp
  rw [e2, show 20 - (p - 1) = 21 - p by omega]
theorem conv_end (l : List UInt8) (p n : Nat) (w : World) (hl : p + l.length = 20) (hn : l.length = n) :
    (convert 95 9 (.slice (some ⟨w.heap.size, p, none⟩) n n)).run Tryd.prog (w.alloc (.cells (prRow l) 165)) = .ok (.string ⟨l.toArray⟩) (w.alloc (.cells (prRow l) 165)) := by
  subst hn
  refine run_convert_bytes_back _ _ _ 5 _ _ l Tryd.underlying95 Tryd.underlying5 Tryd.underlying9 fun j hj => ?_
  have e : (⟨w.heap.size, p, none⟩ : Addr).add j = ⟨w.heap.size, p + j, none⟩ := by
    unfold Addr.add; split <;> simp_all
  rw [e, World.cell?_alloc_at _ _ _ _ rfl, prRow_at l p j hl hj]
theorem dig_toNat (n : Nat) : (dch (n % 10)).toNat = 48 + n % 10 := dch_toNat (by omega)

theorem pow_bound {n j : Nat} (h : n * 10 ^ j ≤ 9223372036854775808) (hn : 0 < n) : j ≤ 18 := by
  apply Decidable.byContradiction
  intro hj
  have h1 : 10 ^ 19 ≤ 10 ^ j := Nat.pow_le_pow_right (by decide) (by omega)
  have h2 : 1 * 10 ^ j ≤ n * 10 ^ j := Nat.mul_le_mul_right _ hn
  have h3 : (10 : Nat) ^ 19 = 10000000000000000000 := by decide
  omega
theorem pow_step {n j N : Nat} (h : n * 10 ^ j ≤ N) : n / 10 * 10 ^ (j + 1) ≤ N := by
  have h1 : n / 10 * 10 ≤ n := Nat.div_mul_le_self n 10
  have h2 := Nat.mul_le_mul_right (10 ^ j) h1
  have h3 : n / 10 * 10 ^ (j + 1) = n / 10 * 10 * 10 ^ j := by rw [Nat.pow_succ, Nat.mul_assoc, Nat.mul_comm 10]
  omega

def rowOf (p : Nat) (d : Int) (l : List UInt8) : Array Value := (prRow l).setIfInBounds (p - 1) (.int .u8 d)
theorem rowOf_eq (p m : Nat) (l : List UInt8) (hp : 1 ≤ p) (hl : p + l.length = 20) : (prRow l).setIfInBounds (p - 1) (.int .u8 (48 + (m : Int) % 10)) = prRow (dch (m % 10) :: l) := by
  rw [← prRow_set l _ p hp hl, dig_toNat]
  rfl
theorem minus_eq (p : Nat) (l : List UInt8) (hp : 1 ≤ p) (hl : p + l.length = 20) : (prRow l).setIfInBounds (p - 1) (.int .u8 45) = prRow (45 :: l) := prRow_set l 45 p hp hl

set_option maxRecDepth 100000 in
set_option maxHeartbeats 1000000 in
theorem print_pos (N : Nat) (w : World) (hN : N ≤ 9223372036854775807) :
    Calls Tryd.prog 91 #[.int .i64 N] w fun e w' => e = .returned (.string ⟨(prn N).toArray⟩) ∧ Below w.heap.size w w' := by
  have R : Hid (prn N = dig N) := by
    show prn N = dig N
    unfold prn; rw [if_neg (by omega)]; rfl
  go_enter Tryd.func91, Tryd.ntmps91
  go_wp2
  go_loopw [4, 5] (fun a n wr => ∃ (l : List UInt8) (p m : Nat), p + l.length = 20 ∧ 1 ≤ p ∧ a = .int .i64 p ∧ n = .int .u64 m ∧ m ≤ N ∧ Hid ((0 < l.length → 0 < m) ∧ m * 10 ^ l.length ≤ N ∧ dig N = dig m ++ l) ∧ wr = w.alloc (.cells (prRow l) 165)) (fun a _ _ => (intOf a).toNat)
  case atStart => exact ⟨[], 20, N, rfl, by omega, rfl, rfl, by omega, ⟨fun h => absurd h (by decide), by simp, by simp⟩, rfl⟩
  case round =>
    obtain ⟨l, p, m, hp, hp1, rfl, rfl, hmN, H, rfl⟩ := hrel
    have hg := prRow_get l p hp1 hp
    have hsl := slice_end w.heap.size p hp1 (by omega)
    have hrow := rowOf_eq p m l hp1 hp
    by_cases h9 : m < 10
    · have hz : (((m : Int) / 10) == 0) = true := by simp; omega
      have hcv := conv_end (dch (m % 10) :: l) (p - 1) (21 - p) w (by simp; omega) (by simp; omega)
      go_wp2
      go_ret
      refine ⟨ret_str ?_, (Below.refl _ _).alloc (Nat.le_refl _) _⟩
      rw [R.out, H.out.2.2, dig_small h9, show m % 10 = m by omega]
      rfl
    · have hz : (((m : Int) / 10) == 0) = false := by simp; omega
      go_wp2
      have hl18 : l.length + 1 ≤ 18 := pow_bound (n := m / 10) (by have := pow_step H.out.2.1; omega) (by omega)
      go_roundw
      case rel =>
        exact ⟨dch (m % 10) :: l, p - 1, m / 10, by simp; omega, by omega, by go_num, by go_num, by omega, ⟨fun _ => by omega, pow_step H.out.2.1, by rw [H.out.2.2, dig_big h9, List.append_assoc]; rfl⟩, rfl⟩
      case measure => simp [intOf]; omega

set_option maxRecDepth 100000 in
set_option maxHeartbeats 1000000 in
theorem print_neg (N : Nat) (w : World) (hN : N ≤ 9223372036854775808) (h0 : 0 < N) :
    Calls Tryd.prog 91 #[.int .i64 (-(N : Int))] w fun e w' => e = .returned (.string ⟨(prn (-(N : Int))).toArray⟩) ∧ Below w.heap.size w w' := by
  have R : Hid (prn (-(N : Int)) = 45 :: dig N) := by
    show prn _ = _
    unfold prn; rw [if_pos (by omega), Int.neg_neg]; rfl
  have hlt : -(N : Int) < 0 := by omega
  have hw : IntKind.u64.wrap (-(IntKind.u64.wrap (-(N : Int)))) = N := by rw [IntKind.wrap_u64, IntKind.wrap_u64]; omega
  go_enter Tryd.func91, Tryd.ntmps91
  go_wp2
  go_loopw [4, 5] (fun a n wr => ∃ (l : List UInt8) (p m : Nat), p + l.length = 20 ∧ 2 ≤ p ∧ a = .int .i64 p ∧ n = .int .u64 m ∧ m ≤ N ∧ Hid ((0 < l.length → 0 < m) ∧ m * 10 ^ l.length ≤ N ∧ dig N = dig m ++ l) ∧ wr = w.alloc (.cells (prRow l) 165)) (fun a _ _ => (intOf a).toNat)
  case atStart => exact ⟨[], 20, N, rfl, by omega, rfl, rfl, by omega, ⟨fun h => absurd h (by decide), by simp, by simp⟩, rfl⟩
  case round =>
    obtain ⟨l, p, m, hp, hp1, rfl, rfl, hmN, H, rfl⟩ := hrel
    have hg := prRow_get l p (by omega) hp
    have hrow := rowOf_eq p m l (by omega) hp
    by_cases h9 : m < 10
    · have hz : (((m : Int) / 10) == 0) = true := by simp; omega
      have hp' : p - 1 + (dch (m % 10) :: l).length = 20 := by simp; omega
      have hg' := prRow_get (dch (m % 10) :: l) (p - 1) (by omega) hp'
      have hmin := minus_eq (p - 1) (dch (m % 10) :: l) (by omega) hp'
      have hsl := slice_end w.heap.size (p - 1) (by omega) (by omega)
      have hcv := conv_end (45 :: dch (m % 10) :: l) (p - 1 - 1) (21 - (p - 1)) w (by simp; omega) (by simp; omega)
      have e : ((p - 1 : Nat) : Int) = (p : Int) - 1 := by omega
      rw [e] at hsl
      clear e hp'
      go_wp2
      go_ret
      refine ⟨ret_str ?_, (Below.refl _ _).alloc (Nat.le_refl _) _⟩
      rw [R.out, H.out.2.2, dig_small h9, show m % 10 = m by omega]
      rfl
    · have hz : (((m : Int) / 10) == 0) = false := by simp; omega
      go_wp2
      have hl18 : l.length + 1 ≤ 18 := pow_bound (n := m / 10) (by have := pow_step H.out.2.1; omega) (by omega)
      go_roundw
      case rel =>
        exact ⟨dch (m % 10) :: l, p - 1, m / 10, by simp; omega, by omega, by go_num, by go_num, by omega, ⟨fun _ => by omega, pow_step H.out.2.1, by rw [H.out.2.2, dig_big h9, List.append_assoc]; rfl⟩, rfl⟩
      case measure => simp [intOf]; omega

theorem print_any (v : Int) (w : World) (h1 : -9223372036854775808 ≤ v) (h2 : v ≤ 9223372036854775807) :
    Calls Tryd.prog 91 #[.int .i64 v] w fun e w' => e = .returned (.string ⟨(prn v).toArray⟩) ∧ Below w.heap.size w w' := by
  by_cases h : 0 ≤ v
  · obtain ⟨N, rfl⟩ := Int.eq_ofNat_of_zero_le h
    exact print_pos N w (by omega)
  · obtain ⟨N, hN⟩ := Int.eq_ofNat_of_zero_le (a := -v) (by omega)
    obtain rfl : v = -(N : Int) := by omega
    exact print_neg N w (by omega) (by omega)
end Go.Proofs.YthboippafkcoiaaDoor.ws

namespace Go.Proofs.YthboippafkcoiaaDoor.ws
open Go Go.RowKit Go.Lib

end Go.Proofs.YthboippafkcoiaaDoor.ws

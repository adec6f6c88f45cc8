/- Contracts of the reference: ahead, Timed. Contracts of the reference: Timed. The law SchedTimes. -/
import Derived.Test.YtioafhkkkmfkdaaGreatDoorK10
set_option linter.all false

namespace Go.Proofs.YtioafhkkkmfkdaaGreatDoor.am
open Go Go.Proofs
set_option linter.all false

def thgR (x : Thg × Int) : List Tr := [ti x.1.time, tb x.1.run, ti x.1.core, ti x.2]
abbrev tdT (Q : List (Thg × Int)) : Tr := .lst 4 32 (Q.map thgR)
abbrev tdV (Q : List (Thg × Int)) : Blk := .vec 99 4 32 (Q.map thgR)
set_option maxRecDepth 100000 in
theorem z_ahead (x y : Thg) (n m : Int) (h : x ≠ y) : K 47 [.agg [.tr (ti x.time), .tr (tb x.run), .tr (ti x.core), .tr (ti n)], .agg [.tr (ti y.time), .tr (tb y.run), .tr (ti y.core), .tr (ti m)]] [] (.ret (.tr (tb (ltT x y)))) [] := by
  have hB : ltT x y = decide (x.time < y.time ∨ x.time = y.time ∧ (rk x.run < rk y.run ∨ rk x.run = rk y.run ∧ x.core < y.core)) := rfl
  generalize ltT x y = R at hB ⊢
  obtain ⟨t1, b1, c1⟩ := x
  obtain ⟨t2, b2, c2⟩ := y
  simp only at hB ⊢
  have h : ¬(t1 = t2 ∧ b1 = b2 ∧ c1 = c2) := fun ⟨e1, e2, e3⟩ => h (by rw [e1, e2, e3])
  refine Ctr.of hT hmix Tryz.func47 rfl (fun _ _ => by kernel_rfl) rfl fun hok => ?_
  clear hok
  conv => whnf
  refine csplit (fun g1 => ?_) (fun g1 => ?_)
  · have g1 : t1 ≠ t2 := by simpa using g1
    conv => whnf
    refine ⟨.inl (congrArg tb ?_), trivial⟩
    rw [hB]
    exact decide_eq_decide.2 ⟨fun q => .inl q, fun q => by omega⟩
  have g1 : t1 = t2 := by simpa using g1
  conv => whnf
  cases b1 <;> cases b2
  · conv => whnf
    refine csplit (fun g2 => ?_) (fun g2 => ?_)
    · have g2 : c1 ≠ c2 := by simpa using g2
      conv => whnf
      refine ⟨.inl (congrArg tb ?_), trivial⟩
      rw [hB]
      exact decide_eq_decide.2 ⟨fun q => .inr ⟨g1, .inr ⟨rfl, q⟩⟩, fun q => by unfold rk at q; omega⟩
    · exact absurd ⟨g1, rfl, by simpa using g2⟩ h
  · conv => whnf
    refine ⟨.inl (congrArg tb ?_), trivial⟩
    rw [hB]
    exact (decide_eq_true (.inr ⟨g1, .inl (by decide)⟩)).symm
  · conv => whnf
    refine ⟨.inl (congrArg tb ?_), trivial⟩
    rw [hB]
    exact (decide_eq_false (by unfold rk; simp; omega)).symm
  · conv => whnf
    refine csplit (fun g2 => ?_) (fun g2 => ?_)
    · have g2 : c1 ≠ c2 := by simpa using g2
      conv => whnf
      refine ⟨.inl (congrArg tb ?_), trivial⟩
      rw [hB]
      exact decide_eq_decide.2 ⟨fun q => .inr ⟨g1, .inr ⟨rfl, q⟩⟩, fun q => by unfold rk at q; omega⟩
    · exact absurd ⟨g1, rfl, by simpa using g2⟩ h
set_option maxRecDepth 100000 in
theorem z_timedC (o : Ob) (l : List Pac) (most : Int) (h : (checkO o).1 ≠ 0) : K 17 [o.av, .tr (pacT l), .tr (ti most)] [] (.ret (.tup [.tr (stepsT []), .tr (tb false), .tr (ti (checkO o).1)])) [] := by
  have hc := z_check o
  generalize checkO o = C at hc h
  obtain ⟨memory, shared, locks, buffer, cores⟩ := o
  refine Ctr.of hT hmix Tryz.func17 rfl (fun _ _ => by kernel_rfl) rfl fun hok => ?_
  clear hok
  conv => whnf
  refine acall.pure _ (hc) rfl rfl fun _ => ?_
  conv => whnf
  refine csplit (fun h1 => ?_) (fun h1 => ?_)
  · conv => whnf
    exact ⟨⟨.inr ⟨rfl, _, _, rfl⟩, .inl rfl, .inl rfl, trivial⟩, trivial⟩
  · exact absurd h1 (by simpa using h)
end Go.Proofs.YtioafhkkkmfkdaaGreatDoor.am

namespace Go.Proofs.YtioafhkkkmfkdaaGreatDoor.am
open Go Go.Proofs
set_option linter.all false

def okT (o : Ob) (l : List Pac) (most : Int) : Bool := ((l.length : Int) == (o.cores.length : Int)) && (decide (most ≥ 0) && decide (most ≤ 1048576))
theorem timedE_T {o : Ob} {l : List Pac} {most : Int} (h0 : (checkO o).1 = 0) : timedE o l most = bif (okT o l most && l.all pacOk) then 0 else 2 := by
  unfold timedE okT
  rw [h0]
  have e1 : (l.length != o.cores.length) = !((l.length : Int) == (o.cores.length : Int)) := by
    by_cases h : l.length = o.cores.length
    · rw [h]; simp
    · rw [show (l.length != o.cores.length) = true by simpa using h, show ((l.length : Int) == (o.cores.length : Int)) = false by simp; omega]; rfl
  have e2 : decide (most < 0) = !decide (most ≥ 0) := by rw [← decide_not]; exact decide_eq_decide.2 ⟨by omega, by omega⟩
  have e3 : decide (most > 1048576) = !decide (most ≤ 1048576) := by rw [← decide_not]; exact decide_eq_decide.2 ⟨by omega, by omega⟩
  have e4 : (l.any fun p => !pacOk p) = !(l.all pacOk) := by rw [List.not_all_eq_any_not]
  rw [e1, e2, e3, e4]
  cases ((l.length : Int) == (o.cores.length : Int)) <;> cases (decide (most ≥ 0)) <;> cases (decide (most ≤ 1048576)) <;> cases (l.all pacOk) <;> rfl
theorem pac_drop {l : List Pac} {j : Nat} {p : Pac} (h : l[j]? = some p) : (l.drop j).all pacOk = (pacOk p && (l.drop (j + 1)).all pacOk) := by
  have hlt := (List.getElem?_eq_some_iff.1 h).1
  rw [List.drop_eq_getElem_cons hlt, (List.getElem?_eq_some_iff.1 h).2]
  rfl
def startQ (n : Nat) : List (Thg × Int) := (List.range n).map fun i : Nat => (⟨0, true, (i : Int)⟩, (i : Int))
theorem startQ_fst (n : Nat) : (startQ n).map (·.1) = startT n := by
  unfold startQ startT
  rw [List.map_map]; rfl
theorem startQ_succ (n : Nat) : startQ (n + 1) = startQ n ++ [(⟨0, true, (n : Int)⟩, (n : Int))] := by
  unfold startQ
  rw [List.range_succ, List.map_append]; rfl
theorem startQ_len (n : Nat) : (startQ n).length = n := by unfold startQ; rw [List.length_map, List.length_range]
theorem alias1 {x : Nat × Blk} {n : Nat} (h : Nat.beq x.1 n = false) : ∀ p ∈ [x], p.1 ≠ n := fun q hq => by
  cases hq with
  | head => exact Nat.ne_of_beq_eq_false h
  | tail _ h => cases h
theorem le_map {α β : Type} {f : α → β} {l : List α} : l.length ≤ (l.map f).length := Nat.le_of_eq (List.length_map ..).symm
theorem cut_take {α : Type} (A B : List α) : (([] : List α).take 0 ++ A).take (0 + A.length) ++ B = A ++ B := by
  rw [List.take_nil, List.nil_append, Nat.zero_add, List.take_length]
theorem cut_take2 {α : Type} (A B : List α) : ((([] : List α).take 0 ++ A).take (0 + A.length) ++ B).take (0 + A.length + B.length) = A ++ B := by
  rw [cut_take, List.take_of_length_le (by rw [List.length_append]; omega)]
def lagQ (b : Bool) (t c n : Int) : List (Thg × Int) := bif b then [(⟨t, false, c⟩, n)] else []
def agnQ (b : Bool) (t c n : Int) : List (Thg × Int) := bif b then [(⟨t, true, c⟩, n)] else []
/-- how the steps are told -/
structure TzI (l : List Pac) (m : Nat) (X : Mst × List Thg × List Stp) (s : Mst) (Q : List (Thg × Int)) (n : Int) (out : List Stp) : Prop where
  inv : VInv s
  prints : s.prints.length ≤ out.length
  tin : TInv l s (Q.map (·.1)) (65536 * out.length)
  cores : l.length = s.cores.length
  len : out.length ≤ m
  n0 : 0 ≤ n
  n1 : n ≤ 8 + 2 * out.length
  ql : (Q.length : Int) ≤ 8 + 2 * out.length
  fin : timedG l (m - out.length) s (Q.map (·.1)) out = X
theorem TzI.next {l : List Pac} {m : Nat} {X : Mst × List Thg × List Stp} {s : Mst} {Q : List (Thg × Int)} {n : Int} {out : List Stp} (h : TzI l m X s Q n out) (hlt : out.length < m) {s' : Mst} (hV : VInv s') (hp : s'.prints.length ≤ s.prints.length + 1) (hc : s'.cores.length = s.cores.length) (x : Stp) {Q' : List (Thg × Int)} {n' : Int}
    (ht : TInv l s' (Q'.map (·.1)) (65536 * out.length + 65536)) (hn0 : n ≤ n') (hn1 : n' ≤ n + 2) (hq : (Q'.length : Int) ≤ Q.length + 1) (hf : timedG l (m - (out.length + 1)) s' (Q'.map (·.1)) (out ++ [x]) = X) : TzI l m X s' Q' n' (out ++ [x]) := by
  have hlen : (out ++ [x]).length = out.length + 1 := by rw [List.length_append, List.length_singleton]
  have h1 := h.prints
  have h2 := h.n0
  have h3 := h.n1
  have h4 := h.ql
  refine ⟨hV, by omega, ?_, by rw [hc]; exact h.cores, by omega, by omega, by rw [hlen]; omega, by rw [hlen]; omega, by rw [hlen]; exact hf⟩
  rw [hlen, show (65536 : Int) * ((out.length + 1 : Nat) : Int) = 65536 * out.length + 65536 by omega]
  exact ht
set_option maxRecDepth 100000 in
set_option maxHeartbeats 8000000 in
theorem z_timed (o : Ob) (l : List Pac) (most : Int) (h0 : (checkO o).1 = 0) (b : Bool) (hR : (okT o l most && l.all pacOk) = b) : K 17 [o.av, .tr (pacT l), .tr (ti most)] [] (.ret (.tup [.tr (stepsT (bif b then (timedR o l most.toNat).2.2 else [])), .tr (tb (bif b then ((timedR o l most.toNat).2.1.length == 0) else false)), .tr (ti (bif b then 0 else 2))])) [] := by
  have hg := check_good h0
  have hc := z_check o
  have hn := z_new o hg.mem hg.cores
  have hV := VInv.new h0
  have hpr0 : (newM o).prints.length = 0 := rfl
  have hcl0 : (newM o).cores.length = o.cores.length := by simp [newM]
  have hk8 : o.cores.length ≤ 8 := hg.cores
  have hlm : (l.map Pac.cells).length = l.length := List.length_map ..
  have hcm : ((o.cores.map Cor.cells).length : Int) = (o.cores.length : Int) := by rw [List.length_map]
  generalize hX : timedR o l most.toNat = X
  unfold timedR at hX
  have hT4 : okT o l most = ((((l.map Pac.cells).length : Int) == ((o.cores.map Cor.cells).length : Int)) && (decide (most ≥ 0) && decide (most ≤ 1048576))) := by rw [hlm, hcm]; rfl
  have hT5 : okT o l most = true → l.length = o.cores.length ∧ ∃ m : Nat, most = m ∧ m ≤ 1048576 := fun q => by
    unfold okT at q
    simp only [Bool.and_eq_true, decide_eq_true_eq, beq_iff_eq] at q
    exact ⟨by omega, most.toNat, by omega, by omega⟩
  generalize okT o l most = T4 at hR hT4 hT5
  clear hg
  generalize newM o = s0 at hn hV hpr0 hcl0 hX
  generalize checkO o = C at hc h0
  obtain ⟨memory, shared, locks, buffer, cores⟩ := o
  simp only at hcl0 hk8 hcm hT5 hT4 hX
  refine Ctr.cut [5, 28, 39] hT hmix Tryz.func17 rfl (fun _ _ => by kernel_rfl) rfl fun hok => ?_
  have hl63 := (hok.slot 1 rfl).tr.lst.2.1
  rw [hlm] at hl63
  clear hok
  conv => whnf
  refine acall.pure _ (hc) rfl rfl fun _ => ?_
  conv => whnf
  refine csplit (fun g0 => ?_) (fun g0 => ?_)
  · exact absurd g0 (by rw [h0]; decide)
  conv => whnf
  refine CutL.by (fun _ : Unit => ⟨[(1, .tr (pacT l)), (2, .tr (ti most)), (3, .ptr 0 0), (12, .tr (tb T4))], [(0, .cells 25 [.tr (intsT memory), .tr (ti shared), .tr (ti locks), .tr (ti buffer), .tr (coresT cores)])], 10⟩) (fun _ => True) ?_ ?_
  · conv => whnf
    (repeat' (refine csplit (fun g => ?_) (fun g => ?_) <;> conv => whnf))
    all_goals (refine ⟨(), [_], [], Sub.mk' rfl ⟨.inl rfl, .inl rfl, ⟨rfl, rfl⟩, .inl (congrArg tb ?_), trivial⟩ ⟨aut, trivial⟩ rfl rfl, trivial⟩; rw [hT4]; clear hlm hcm hT4 hT5; simp only [*, Bool.true_and, Bool.and_true, Bool.false_and, Bool.and_false])
  rintro - - -
  conv => whnf
  refine LoopL.by (fun x : Nat × Bool => ⟨[(1, .tr (pacT l)), (2, .tr (ti most)), (3, .ptr 0 0), (12, .tr (tb x.2)), (13, .tr (ti x.1))], [(0, .cells 25 [.tr (intsT memory), .tr (ti shared), .tr (ti locks), .tr (ti buffer), .tr (coresT cores)])], 10⟩) (fun x => x.1 ≤ l.length ∧ (x.2 && (l.drop x.1).all pacOk) = b) (fun x => l.length - x.1) (0, T4) [0] []
    (Sub.mk' rfl ⟨.inl rfl, .inl rfl, ⟨rfl, rfl⟩, .inl rfl, .inl rfl, trivial⟩ ⟨aut, trivial⟩ rfl rfl)
    ⟨Nat.zero_le _, hR⟩ ?_
  rintro ⟨j, c⟩ ⟨hj, hS⟩ -
  simp only at hj hS
  conv => whnf
  refine csplit (fun hlt => ?_) (fun hge => ?_)
  · have hjl : j < l.length := by have : decide ((j : Int) < ((l.map Pac.cells).length : Int)) = true := hlt; have := of_decide_eq_true this; omega
    obtain ⟨p, hp⟩ : ∃ p, l[j]? = some p := ⟨_, List.getElem?_eq_getElem hjl⟩
    rw [pac_drop hp] at hS
    obtain ⟨ps, pl⟩ := p
    have hP : pacOk ⟨ps, pl⟩ = (decide (ps ≥ 1) && (decide (ps ≤ 65536) && (decide (pl ≥ 0) && decide (pl ≤ 65536)))) := rfl
    rw [hP] at hS
    have hdec : l.length - (j + 1) < l.length - j := by omega
    have IDX : ∀ {row : List Tr}, (l.map Pac.cells)[(j : Int).toNat]? = some row → row = Pac.cells ⟨ps, pl⟩ := fun {row} hr => by
      obtain ⟨d', hd', rfl⟩ := pac_get hr
      rw [← Option.some.inj (hp.symm.trans hd')]
    have h63 : (j : Int) < ((l.map Pac.cells).length : Int) := by rw [hlm]; omega
    have j0 : (0 : Int) ≤ (j : Int) := Int.natCast_nonneg j
    clear hX hT4 hT5 hn hV hpr0 hcl0 hcm hk8
    cases c
    · have hS : false = b := hS
      conv => whnf
      exact ⟨(j + 1, false), [0], [], Sub.mk' rfl ⟨.inl rfl, .inl rfl, ⟨rfl, rfl⟩, .inl rfl, .inl (ti_succ hjl hl63), trivial⟩ ⟨aut, trivial⟩ rfl rfl, ⟨hjl, hS⟩, hdec⟩
    cases h1 : decide (ps ≥ 1) <;> rw [h1] at hS
    · have hS : false = b := hS
      conv => whnf
      (repeat ((first | (refine ⟨rfl, j0, h63, fun row hr => ?_⟩; obtain rfl := IDX hr; clear hr) | (refine csplit (fun g => ctf g h1) (fun _ => ?_))); conv => whnf))
      exact ⟨(j + 1, false), [0], [], Sub.mk' rfl ⟨.inl rfl, .inl rfl, ⟨rfl, rfl⟩, .inl (by first | rfl | exact congrArg tb h1), .inl (ti_succ hjl hl63), trivial⟩ ⟨aut, trivial⟩ rfl rfl, ⟨hjl, hS⟩, hdec⟩
    cases h2 : decide (ps ≤ 65536) <;> rw [h2] at hS
    · have hS : false = b := hS
      conv => whnf
      (repeat ((first | (refine ⟨rfl, j0, h63, fun row hr => ?_⟩; obtain rfl := IDX hr; clear hr) | (refine csplit (fun _ => ?_) (fun g => ctf h1 g)) | (refine csplit (fun g => ctf g h2) (fun _ => ?_))); conv => whnf))
      exact ⟨(j + 1, false), [0], [], Sub.mk' rfl ⟨.inl rfl, .inl rfl, ⟨rfl, rfl⟩, .inl (by first | rfl | exact congrArg tb h1 | exact congrArg tb h2), .inl (ti_succ hjl hl63), trivial⟩ ⟨aut, trivial⟩ rfl rfl, ⟨hjl, hS⟩, hdec⟩
    cases h3 : decide (pl ≥ 0) <;> rw [h3] at hS
    · have hS : false = b := hS
      conv => whnf
      (repeat ((first | (refine ⟨rfl, j0, h63, fun row hr => ?_⟩; obtain rfl := IDX hr; clear hr) | (refine csplit (fun _ => ?_) (fun g => ctf h1 g)) | (refine csplit (fun _ => ?_) (fun g => ctf h2 g)) | (refine csplit (fun g => ctf g h3) (fun _ => ?_))); conv => whnf))
      exact ⟨(j + 1, false), [0], [], Sub.mk' rfl ⟨.inl rfl, .inl rfl, ⟨rfl, rfl⟩, .inl (by first | rfl | exact congrArg tb h1 | exact congrArg tb h2 | exact congrArg tb h3), .inl (ti_succ hjl hl63), trivial⟩ ⟨aut, trivial⟩ rfl rfl, ⟨hjl, hS⟩, hdec⟩
    cases h4 : decide (pl ≤ 65536) <;> rw [h4] at hS
    · have hS : false = b := hS
      conv => whnf
      (repeat ((first | (refine ⟨rfl, j0, h63, fun row hr => ?_⟩; obtain rfl := IDX hr; clear hr) | (refine csplit (fun _ => ?_) (fun g => ctf h1 g)) | (refine csplit (fun _ => ?_) (fun g => ctf h2 g)) | (refine csplit (fun _ => ?_) (fun g => ctf h3 g)) | (refine csplit (fun g => ctf g h4) (fun _ => ?_))); conv => whnf))
      exact ⟨(j + 1, false), [0], [], Sub.mk' rfl ⟨.inl rfl, .inl rfl, ⟨rfl, rfl⟩, .inl (by first | rfl | exact congrArg tb h1 | exact congrArg tb h2 | exact congrArg tb h3 | exact congrArg tb h4), .inl (ti_succ hjl hl63), trivial⟩ ⟨aut, trivial⟩ rfl rfl, ⟨hjl, hS⟩, hdec⟩
    · have hS : (l.drop (j + 1)).all pacOk = b := hS
      conv => whnf
      (repeat ((first | (refine ⟨rfl, j0, h63, fun row hr => ?_⟩; obtain rfl := IDX hr; clear hr) | (refine csplit (fun _ => ?_) (fun g => ctf h1 g)) | (refine csplit (fun _ => ?_) (fun g => ctf h2 g)) | (refine csplit (fun _ => ?_) (fun g => ctf h3 g)) | (refine csplit (fun _ => ?_) (fun g => ctf h4 g))); conv => whnf))
      exact ⟨(j + 1, true), [0], [], Sub.mk' rfl ⟨.inl rfl, .inl rfl, ⟨rfl, rfl⟩, .inl (by first | rfl | exact congrArg tb h1 | exact congrArg tb h2 | exact congrArg tb h3 | exact congrArg tb h4), .inl (ti_succ hjl hl63), trivial⟩ ⟨aut, trivial⟩ rfl rfl, ⟨hjl, (by show (true && (l.drop (j + 1)).all pacOk) = b; exact hS)⟩, hdec⟩
  have hge : j = l.length := by have : decide ((j : Int) < ((l.map Pac.cells).length : Int)) = false := hge; have := of_decide_eq_false this; omega
  subst hge
  rw [List.drop_length] at hS
  have hS : (c && true) = b := hS
  rw [Bool.and_true] at hS
  subst hS
  cases c
  · conv => whnf
    refine ⟨fun _ => ?_, fun h => absurd rfl h⟩
    conv => whnf
    exact ⟨⟨.inr ⟨rfl, _, _, rfl⟩, .inl rfl, .inl rfl, trivial⟩, trivial⟩
  rw [Bool.and_eq_true] at hR
  obtain ⟨hlc, m, rfl, hm⟩ := hT5 hR.1
  have hp : ∀ p ∈ l, pacOk p = true := List.all_eq_true.1 hR.2
  clear hT5 hT4 hR hj hl63 h0
  conv => whnf
  refine ⟨fun _ => ?_, fun h => absurd rfl h⟩
  conv => whnf
  rw [Int.toNat_natCast, ← hlc] at hX
  rw [← hlc] at hk8 hcl0 hcm
  refine acall.pure _ (hn) rfl rfl fun _ => ?_
  conv => whnf
  refine LoopL.by (fun j : Nat => ⟨[(1, .tr (pacT l)), (2, .tr (ti m)), (3, .ptr 0 0), (14, .ptr 1 0), (15, .sl 2 j), (16, .tr (ti j))], [(0, .cells 25 [.tr (intsT memory), .tr (ti shared), .tr (ti locks), .tr (ti buffer), .tr (coresT cores)]), (1, stB s0), (2, tdV (startQ j))], 10⟩) (fun j => j ≤ l.length) (fun j => l.length - j) 0 [0, _] [2]
    (Sub.mk' rfl ⟨.inl rfl, .inl rfl, ⟨rfl, rfl⟩, ⟨rfl, rfl⟩, ⟨rfl, rfl, rfl, rfl⟩, .inl rfl, trivial⟩ ⟨aut, aut, ⟨rfl, _, _, _, rfl, by decide⟩, trivial⟩ rfl rfl)
    (Nat.zero_le _) ?_
  rintro j hj -
  have hql := startQ_len j
  conv => whnf
  refine csplit (fun hlt => ?_) (fun hge => ?_)
  · have hjl : j < l.length := by have : decide ((j : Int) < ((cores.map Cor.cells).length : Int)) = true := hlt; have := of_decide_eq_true this; omega
    have hda : ((startQ j).map thgR).take j ++ [[ti 0, tb true, ti j, ti j]] = (startQ (j + 1)).map thgR := by rw [List.take_of_length_le (by simp; omega), startQ_succ, List.map_append]; rfl
    conv => whnf
    refine ⟨rfl, rfl, rfl, (by rw [List.length_map, hql]; exact Nat.le_refl _), (show (j + 1) * 32 ≤ 150000000000000 by omega), alias1 rfl, ?_⟩
    conv => whnf
    exact ⟨j + 1, [0, 1, _], [], Sub.mk' rfl ⟨.inl rfl, .inl rfl, ⟨rfl, rfl⟩, ⟨rfl, rfl⟩, ⟨rfl, rfl⟩, .inl (ti_succ hjl (by omega)), trivial⟩ ⟨aut, aut, ⟨rfl, rfl, rfl, hda⟩, trivial⟩ rfl rfl, hjl, by show l.length - (j + 1) < l.length - j; omega⟩
  have hge : j = l.length := by have : decide ((j : Int) < ((cores.map Cor.cells).length : Int)) = false := hge; have := of_decide_eq_false this; omega
  subst hge
  conv => whnf
  refine ⟨fun _ => ?_, fun h => absurd rfl h⟩
  conv => whnf
  have hcut : tdT (startQ l.length) = .lst 4 32 (((startQ l.length).map thgR).take l.length) := by rw [List.take_of_length_le (by simp; omega)]
  refine LoopL.by (fun x : Mst × List (Thg × Int) × Int × List Stp => ⟨[(1, .tr (pacT l)), (2, .tr (ti m)), (14, .ptr 0 0), (15, .tr (tdT x.2.1)), (17, .tr (ti x.2.2.1)), (18, .sl 1 x.2.2.2.length)], [(0, stB x.1), (1, stV x.2.2.2)], 10⟩) (fun x => TzI l m X x.1 x.2.1 x.2.2.1 x.2.2.2) (fun x => m - x.2.2.2.length) (s0, startQ l.length, (l.length : Int), []) [1] [1]
    (Sub.mk' rfl ⟨.inl rfl, .inl rfl, ⟨rfl, rfl⟩, ⟨rfl, by simp; omega, hcut⟩, .inl rfl, ⟨rfl, rfl, rfl, rfl⟩, trivial⟩ ⟨aut, ⟨rfl, _, _, _, rfl, by decide⟩, trivial⟩ rfl rfl)
    ⟨hV, by show s0.prints.length ≤ 0; omega, (by rw [startQ_fst]; have := TInv.start l s0; rw [hcl0] at this; exact this), hcl0.symm, Nat.zero_le _, Int.natCast_nonneg _, by show (l.length : Int) ≤ 8 + 2 * 0; omega, by rw [hql]; show (l.length : Int) ≤ 8 + 2 * 0; omega, by rw [startQ_fst]; exact hX⟩ ?_
  clear hX hV hpr0 hcl0 hn hql hcut
  rintro ⟨s, Q, n, out⟩ hI -
  simp only at hI
  have hlen := hI.len
  have hqm : (Q.map thgR).length = Q.length := List.length_map ..
  have hql := hI.ql
  have hn0 := hI.n0
  have hn1 := hI.n1
  have hdm : ∀ x, out.length < m → m - (out ++ [x]).length < m - out.length := fun x q => by rw [List.length_append, List.length_singleton]; omega
  conv => whnf
  have hfb : (((Q.map thgR).length : Int) == 0) = ((Q.map (·.1)).length == 0) := by
    rw [List.length_map, List.length_map]
    cases Q <;> simp
    omega
  refine csplit (fun g1 => ?_) (fun g1 => ?_)
  case refine_2 =>
    have hQ0 : Q.length = 0 := by have : decide (((Q.map thgR).length : Int) > 0) = false := g1; have := of_decide_eq_false this; omega
    have hf := hI.fin
    have hQ1 : Q = [] := List.eq_nil_of_length_eq_zero hQ0
    have hT0 : Q.map (·.1) = [] := by rw [hQ1]; rfl
    rw [hT0, timedG_end] at hf
    rw [hT0] at hfb
    subst hf
    conv => whnf
    refine ⟨fun _ => ?_, fun h => absurd rfl h⟩
    conv => whnf
    exact ⟨⟨⟨rfl, le_map, by rw [List.take_of_length_le (by simp)]; rfl⟩, .inl (congrArg tb hfb), .inl rfl, trivial⟩, trivial⟩
  have hQ0 : 0 < Q.length := by have : decide (((Q.map thgR).length : Int) > 0) = true := g1; have := of_decide_eq_true this; omega
  conv => whnf
  refine csplit (fun g2 => ?_) (fun g2 => ?_)
  case refine_2 =>
    have hfu : out.length = m := by have : decide ((out.length : Int) < (m : Int)) = false := g2; have := of_decide_eq_false this; omega
    have hf := hI.fin
    rw [hfu, Nat.sub_self] at hf
    have hf : (s, Q.map (·.1), out) = X := hf
    subst hf
    conv => whnf
    refine ⟨fun _ => ?_, fun h => absurd rfl h⟩
    conv => whnf
    exact ⟨⟨⟨rfl, le_map, by rw [List.take_of_length_le (by simp)]; rfl⟩, .inl (congrArg tb hfb), .inl rfl, trivial⟩, trivial⟩
  have hltm : out.length < m := by have : decide ((out.length : Int) < (m : Int)) = true := g2; have := of_decide_eq_true this; omega
  clear hfb g1 g2
  have hTl : (Q.map (·.1)).length = Q.length := List.length_map ..
  have hsp := (minI_spec (T := Q.map (·.1)) (by omega)).1
  rw [hTl] at hsp
  have hM : minG (Q.map (·.1)) (Q.length - 1) 1 0 = minI (Q.map (·.1)) := by unfold minI; rw [hTl]
  have hnod := hI.tin.nod
  have hgd : ∀ {i : Nat} {q : Thg × Int}, Q[i]? = some q → (Q.map (·.1)).getD i ⟨0, false, 0⟩ = q.1 := fun {i q} h => by
    rw [List.getD_eq_getElem?_getD, List.getElem?_map, h]; rfl
  have hne : ∀ {i j : Nat} {q r : Thg × Int}, Q[i]? = some q → Q[j]? = some r → i ≠ j → q.1 ≠ r.1 := fun {i j q r} h1 h2 hij e => by
    have e1 : (Q.map (·.1))[i]? = some q.1 := by rw [List.getElem?_map, h1]; rfl
    have e2 : (Q.map (·.1))[j]? = some q.1 := by rw [List.getElem?_map, h2, e]; rfl
    exact hij ((List.getElem?_inj (by rw [hTl]; exact (List.getElem?_eq_some_iff.1 h1).1) hnod).1 (e1.trans e2.symm))
  conv => whnf
  refine LoopL.by (fun x : Nat × Nat => ⟨[(1, .tr (pacT l)), (2, .tr (ti m)), (14, .ptr 0 0), (15, .tr (tdT Q)), (17, .tr (ti n)), (18, .sl 1 out.length), (19, .tr (ti x.1)), (20, .tr (ti x.2))], [(0, stB s), (1, stV out)], 10⟩) (fun x => x.1 < x.2 ∧ x.2 ≤ Q.length ∧ minG (Q.map (·.1)) (Q.length - x.2) x.2 x.1 = minI (Q.map (·.1))) (fun x => Q.length - x.2) (0, 1) [0, 1] []
    (Sub.mk' rfl ⟨.inl rfl, .inl rfl, ⟨rfl, rfl⟩, .inl rfl, .inl rfl, ⟨rfl, rfl⟩, .inl rfl, .inl rfl, trivial⟩ ⟨aut, ⟨rfl, rfl, rfl, rfl⟩, trivial⟩ rfl rfl)
    ⟨Nat.one_pos, hQ0, hM⟩ ?_
  rintro ⟨k, i⟩ ⟨hki, hi, hS⟩ -
  simp only at hki hi hS
  conv => whnf
  refine csplit (fun hlt => ?_) (fun hge => ?_)
  · have hil : i < Q.length := by have : decide ((i : Int) < ((Q.map thgR).length : Int)) = true := hlt; have := of_decide_eq_true this; omega
    obtain ⟨qi, hqi⟩ : ∃ q, Q[i]? = some q := ⟨_, List.getElem?_eq_getElem hil⟩
    obtain ⟨qk, hqk⟩ : ∃ q, Q[k]? = some q := ⟨_, List.getElem?_eq_getElem (show k < Q.length by omega)⟩
    rw [show Q.length - i = (Q.length - (i + 1)) + 1 by omega] at hS
    unfold minG at hS
    rw [hgd hqi, hgd hqk] at hS
    have hah := z_ahead qi.1 qk.1 qi.2 qk.2 (hne hqi hqk (by omega))
    generalize ltT qi.1 qk.1 = w at hS hah
    obtain ⟨⟨t1, b1, c1⟩, o1⟩ := qi
    obtain ⟨⟨t2, b2, c2⟩, o2⟩ := qk
    conv => whnf
    refine ⟨rfl, Int.natCast_nonneg _, (show (i : Int) < ((Q.map thgR).length : Int) by omega), fun row hr => ?_⟩
    replace hr : (Q.map thgR)[i]? = some row := hr
    rw [List.getElem?_map, hqi] at hr
    cases hr
    conv => whnf
    refine ⟨rfl, Int.natCast_nonneg _, (show (k : Int) < ((Q.map thgR).length : Int) by omega), fun row hr => ?_⟩
    replace hr : (Q.map thgR)[k]? = some row := hr
    rw [List.getElem?_map, hqk] at hr
    cases hr
    conv => whnf
    refine acall.pure _ (hah) rfl rfl ?_
    conv => whnf
    refine ⟨by kernel_rfl, fun _ => ?_⟩
    conv => whnf
    cases w
    · have hS : minG (Q.map (·.1)) (Q.length - (i + 1)) (i + 1) k = minI (Q.map (·.1)) := hS
      conv => whnf
      exact ⟨(k, i + 1), [0, 1], [], Sub.mk' rfl ⟨.inl rfl, .inl rfl, ⟨rfl, rfl⟩, .inl rfl, .inl rfl, ⟨rfl, rfl⟩, .inl rfl, .inl (ti_succ hil (by omega)), trivial⟩ ⟨aut, ⟨rfl, rfl, rfl, rfl⟩, trivial⟩ rfl rfl, ⟨by show k < i + 1; omega, hil, hS⟩, by show Q.length - (i + 1) < Q.length - i; omega⟩
    · have hS : minG (Q.map (·.1)) (Q.length - (i + 1)) (i + 1) i = minI (Q.map (·.1)) := hS
      conv => whnf
      exact ⟨(i, i + 1), [0, 1], [], Sub.mk' rfl ⟨.inl rfl, .inl rfl, ⟨rfl, rfl⟩, .inl rfl, .inl rfl, ⟨rfl, rfl⟩, .inl rfl, .inl (ti_succ hil (by omega)), trivial⟩ ⟨aut, ⟨rfl, rfl, rfl, rfl⟩, trivial⟩ rfl rfl, ⟨by show i < i + 1; omega, hil, hS⟩, by show Q.length - (i + 1) < Q.length - i; omega⟩
  have hge : i = Q.length := by have : decide ((i : Int) < ((Q.map thgR).length : Int)) = false := hge; have := of_decide_eq_false this; omega
  subst hge
  rw [Nat.sub_self] at hS
  have hS : k = minI (Q.map (·.1)) := hS
  conv => whnf
  refine ⟨fun _ => ?_, fun h => absurd rfl h⟩
  conv => whnf
  have hkl : k < Q.length := by rw [hS]; exact hsp
  obtain ⟨q, hq⟩ : ∃ q, Q[k]? = some q := ⟨_, List.getElem?_eq_getElem hkl⟩
  have hmq : minT (Q.map (·.1)) = q.1 := by unfold minT; rw [← hS]; exact hgd hq
  have hrq : (Q.take k ++ Q.drop (k + 1)).map (·.1) = resT (Q.map (·.1)) := by unfold resT; rw [← hS, List.map_append, List.map_take, List.map_drop]
  have hrl : (Q.take k ++ Q.drop (k + 1)).length = Q.length - 1 := by rw [List.length_append, List.length_take, List.length_drop]; omega
  clear hS hM hgd hne hsp hki hi hnod
  obtain ⟨⟨t1, b1, c1⟩, o1⟩ := q
  refine ⟨rfl, Int.natCast_nonneg _, (show (k : Int) < ((Q.map thgR).length : Int) by omega), fun row hr => ?_⟩
  replace hr : (Q.map thgR)[k]? = some row := hr
  rw [List.getElem?_map, hq] at hr
  cases hr
  conv => whnf
  refine CutL.by (fun _ : Unit => ⟨[(1, .tr (pacT l)), (2, .tr (ti m)), (14, .ptr 0 0), (15, .sl 3 (Q.take k ++ Q.drop (k + 1)).length), (17, .tr (ti n)), (18, .sl 1 out.length), (21, .ptr 2 0)], [(0, stB s), (1, stV out), (2, .cells 99 [.tr (ti t1), .tr (tb b1), .tr (ti c1), .tr (ti o1)]), (3, tdV (Q.take k ++ Q.drop (k + 1)))], 10⟩) (fun _ => True) ?_ ?_
  · have hk1 : IntKind.i64.wrap ((k : Int) + 1) = ((k + 1 : Nat) : Int) := by rw [w64 (by omega) (by omega)]; omega
    conv => whnf
    refine ⟨rfl, by decide, (show (0 : Int) ≤ (k : Int) by omega), (show (k : Int) ≤ ((Q.map thgR).length : Int) by omega), ?_⟩
    conv => whnf
    refine ⟨rfl, rfl, rfl, Nat.zero_le _, (by show (0 + ((Q.map thgR).take k).length) * 32 ≤ 150000000000000; rw [List.length_take]; omega), (fun q hq => by cases hq), ?_⟩
    conv => whnf
    rw [hk1]
    refine ⟨rfl, (show (0 : Int) ≤ ((k + 1 : Nat) : Int) by omega), (show ((k + 1 : Nat) : Int) ≤ ((Q.map thgR).length : Int) by omega), (show ((Q.map thgR).length : Int) ≤ ((Q.map thgR).length : Int) from Int.le_refl _), ?_⟩
    conv => whnf
    have hA : ((Q.map thgR).take k).length = k := by rw [List.length_take]; omega
    have hB : ((Q.map thgR).take (Q.map thgR).length).drop (k + 1) = (Q.drop (k + 1)).map thgR := by rw [List.take_length, List.map_drop]
    have hBl : (((Q.map thgR).take (Q.map thgR).length).drop (k + 1)).length = Q.length - (k + 1) := by rw [hB, List.length_map, List.length_drop]
    have hcut : (([] : List (List Tr)).take 0 ++ (Q.map thgR).take k).take (0 + ((Q.map thgR).take k).length) ++ ((Q.map thgR).take (Q.map thgR).length).drop (k + 1) = (Q.take k ++ Q.drop (k + 1)).map thgR := by
      rw [cut_take, hB, List.map_append, List.map_take]
    refine ⟨rfl, rfl, rfl, (by show 0 + ((Q.map thgR).take k).length ≤ (([] : List (List Tr)).take 0 ++ (Q.map thgR).take k).length; rw [List.take_nil, List.nil_append, Nat.zero_add]; exact Nat.le_refl _), (by show (0 + ((Q.map thgR).take k).length + (((Q.map thgR).take (Q.map thgR).length).drop (k + 1)).length) * 32 ≤ 150000000000000; rw [hA, hBl]; omega), (fun q hq => by cases hq), ?_⟩
    conv => whnf
    refine ⟨by kernel_rfl, fun _ => ?_⟩
    conv => whnf
    exact ⟨(), [0, 1, _, _], [], Sub.mk' rfl ⟨.inl rfl, .inl rfl, ⟨rfl, rfl⟩, ⟨rfl, (by show 0 + ((Q.map thgR).take k).length + (((Q.map thgR).take (Q.map thgR).length).drop (k + 1)).length = (Q.take k ++ Q.drop (k + 1)).length; rw [hA, hBl, hrl]; omega)⟩, .inl rfl, ⟨rfl, rfl⟩, ⟨rfl, rfl⟩, trivial⟩ ⟨aut, ⟨rfl, rfl, rfl, rfl⟩, aut, ⟨rfl, rfl, rfl, hcut⟩, trivial⟩ rfl rfl, trivial⟩
  rintro - - -
  generalize hQ' : Q.take k ++ Q.drop (k + 1) = Q' at hrq hrl
  have hdao : ∀ kd : Int, (out.map Stp.cells).take out.length ++ [[tu kd, ti c1]] = (out ++ [Stp.mk kd c1]).map Stp.cells := fun kd => by rw [List.take_of_length_le (by simp), List.map_append]; rfl
  have hone := oneT_eq (l := l) (s := s) hmq
  have hTl0 : 0 < (Q.map (·.1)).length := by rw [hTl]; exact hQ0
  have hti := hI.tin.one hTl0 hp hI.cores
  have hf := hI.fin
  rw [show m - out.length = (m - (out.length + 1)) + 1 by omega, timedG_succ, decide_eq_true hTl0, cond_true] at hf
  rw [hone] at hf hti
  have hmem : minT (Q.map (·.1)) ∈ Q.map (·.1) := (resT_perm hTl0).mem_iff.1 (.head _)
  have hmc := hI.tin.core _ hmem
  have hmt := hI.tin.time _ hmem
  rw [hmq] at hmc hmt
  have hmc : 0 ≤ c1 ∧ c1 < (s.cores.length : Int) := hmc
  have hmt : 0 ≤ t1 ∧ t1 ≤ 65536 * (out.length : Int) := hmt
  have hIn := stepS_inv hI.inv
  have hpn := stepS_prints s
  have hsl := stepS_len s
  have hprs := hI.prints
  cases b1
  · have hst := z_stp s hI.inv (by omega) 2 c1
    have hf : timedG l (m - (out.length + 1)) (stepS s 2 c1).1 (resT (Q.map (·.1))) (out ++ [⟨2, c1⟩]) = X := hf
    have hti : TInv l (stepS s 2 c1).1 (resT (Q.map (·.1))) (65536 * out.length + 65536) := hti
    have hIn := hIn 2 c1
    have hpn := hpn 2 c1
    have hsl := hsl 2 c1
    rw [← hrq] at hf hti
    generalize stepS s 2 c1 = Z at hst hf hti hIn hpn hsl
    obtain ⟨s', ⟨dk, dc, da, dd, dw, dp, dn⟩, e⟩ := Z
    simp only at hst hf hti hIn hpn hsl
    conv => whnf
    refine acall.pure _ (hst) rfl rfl fun _ => ?_
    conv => whnf
    refine ⟨rfl, rfl, rfl, le_map, (show (out.length + 1) * 16 ≤ 150000000000000 by omega), alias1 rfl, ?_⟩
    conv => whnf
    refine ⟨fun _ => ?_, fun h => absurd rfl h⟩
    conv => whnf
    have hda := hdao 2
    have hI2 := hI.next hltm hIn hpn hsl ⟨2, c1⟩ hti (Int.le_refl n) (by omega) (by omega) hf
    exact ⟨(s', Q', n, out ++ [Stp.mk 2 c1]), [0, _], [], Sub.mk' rfl ⟨.inl rfl, .inl rfl, ⟨rfl, rfl⟩, ⟨rfl, le_map, by rw [List.take_of_length_le (by simp)]⟩, .inl rfl, ⟨rfl, by simp⟩, trivial⟩ ⟨aut, ⟨rfl, rfl, rfl, hda⟩, trivial⟩ rfl rfl, hI2, hdm _ hltm⟩
  have hst := z_stp s hI.inv (by omega) 1 c1
  have hcc : ∃ c, s.cores[c1.toNat]? = some c := ⟨_, List.getElem?_eq_getElem (by omega)⟩
  obtain ⟨cc, hcc⟩ := hcc
  have hrh := run_h hI.inv hcc
  rw [show ((c1.toNat : Nat) : Int) = c1 by omega] at hrh
  have hf : timedG l (m - (out.length + 1)) (stepS s 1 c1).1 (resT (Q.map (·.1)) ++ newT l ⟨t1, true, c1⟩ (stepS s 1 c1).2.1 (stepS s 1 c1).2.2) (out ++ [⟨1, c1⟩]) = X := hf
  have hti : TInv l (stepS s 1 c1).1 (resT (Q.map (·.1)) ++ newT l ⟨t1, true, c1⟩ (stepS s 1 c1).2.1 (stepS s 1 c1).2.2) (65536 * out.length + 65536) := hti
  have hIn := hIn 1 c1
  have hpn := hpn 1 c1
  have hsl := hsl 1 c1
  rw [← hrq] at hf hti
  generalize stepS s 1 c1 = Z at hst hf hti hIn hpn hsl hrh
  obtain ⟨s', ⟨dk, dc, da, dd, dw, dp, dn⟩, e⟩ := Z
  simp only at hst hf hti hIn hpn hsl hrh
  conv => whnf
  refine acall.pure _ (hst) rfl rfl fun _ => ?_
  conv => whnf
  refine ⟨rfl, rfl, rfl, le_map, (show (out.length + 1) * 16 ≤ 150000000000000 by omega), alias1 rfl, ?_⟩
  conv => whnf
  obtain ⟨⟨r1, r2⟩, ⟨r3, r4⟩⟩ := pac_rng hp (c := c1) hmc.1 (by rw [hI.cores]; exact hmc.2)
  have hrowP := @pac_row l c1
  have hlc1 : c1 < ((l.map Pac.cells).length : Int) := by rw [hlm, hI.cores]; exact hmc.2
  have hnt : newT l ⟨t1, true, c1⟩ ⟨dk, dc, da, dd, dw, dp, dn⟩ e = (bif dk == 3 then [⟨t1 + (pacAt l c1).lag, false, c1⟩] else []) ++ (bif againB ⟨dk, dc, da, dd, dw, dp, dn⟩ e then [⟨t1 + (pacAt l c1).step, true, c1⟩] else []) := rfl
  rw [hnt] at hf hti
  clear hnt
  generalize pacAt l c1 = P at r1 r2 r3 r4 hrowP hf hti
  obtain ⟨ps, pl⟩ := P
  simp only at r1 r2 r3 r4 hrowP hf hti
  have hlen1 : (out ++ [Stp.mk 1 c1]).length = out.length + 1 := by rw [List.length_append, List.length_singleton]
  have hda := hdao 1
  refine CutL.by (fun _ : Unit => ⟨[(1, .tr (pacT l)), (2, .tr (ti m)), (14, .ptr 0 0), (15, .sl 4 (Q' ++ lagQ (dk == 3) (t1 + pl) c1 n).length), (17, .tr (ti (bif dk == 3 then n + 1 else n))), (18, .sl 1 (out ++ [Stp.mk 1 c1]).length), (21, .ptr 2 0), (25, .ptr 3 0), (26, .tr (ti e))], [(0, stB s'), (1, stV (out ++ [Stp.mk 1 c1])), (2, .cells 99 [.tr (ti t1), .tr (tb true), .tr (ti c1), .tr (ti o1)]), (3, diB ⟨dk, dc, da, dd, dw, dp, dn⟩), (4, tdV (Q' ++ lagQ (dk == 3) (t1 + pl) c1 n))], 10⟩) (fun _ => True) ?_ ?_
  · have hw1 : IntKind.i64.wrap (t1 + pl) = t1 + pl := w64 (by omega) (by omega)
    have hw2 : IntKind.i64.wrap (n + 1) = n + 1 := w64 (by omega) (by omega)
    cases hd : (dk == 3)
    · conv => whnf
      refine csplit (fun g => ctf g hd) (fun _ => ?_)
      conv => whnf
      exact ⟨(), [0, _, 2, _, 3], [], Sub.mk' rfl ⟨.inl rfl, .inl rfl, ⟨rfl, rfl⟩, ⟨rfl, by show Q'.length = (Q' ++ []).length; rw [List.append_nil]⟩, .inl rfl, ⟨rfl, by simp⟩, ⟨rfl, rfl⟩, ⟨rfl, rfl⟩, .inl rfl, trivial⟩ ⟨aut, ⟨rfl, rfl, rfl, hda⟩, aut, aut, ⟨rfl, rfl, rfl, by show Q'.map thgR = (Q' ++ []).map thgR; rw [List.append_nil]⟩, trivial⟩ rfl rfl, trivial⟩
    · conv => whnf
      refine csplit (fun _ => ?_) (fun g => ctf hd g)
      conv => whnf
      refine ⟨rfl, hmc.1, hlc1, fun row hrow => ?_⟩
      obtain rfl := hrowP hrow
      clear hrow
      conv => whnf
      have hdq : (Q'.map thgR).take Q'.length ++ [[ti (IntKind.i64.wrap (t1 + pl)), tb false, ti c1, ti n]] = (Q' ++ lagQ true (t1 + pl) c1 n).map thgR := by rw [List.take_of_length_le (by simp), hw1, List.map_append]; rfl
      refine ⟨rfl, rfl, rfl, le_map, (show (Q'.length + 1) * 32 ≤ 150000000000000 by omega), alias1 rfl, ?_⟩
      conv => whnf
      refine ⟨by kernel_rfl, fun _ => ?_⟩
      conv => whnf
      exact ⟨(), [0, _, 2, _, _], [], Sub.mk' rfl ⟨.inl rfl, .inl rfl, ⟨rfl, rfl⟩, ⟨rfl, by show Q'.length + 1 = (Q' ++ [_]).length; rw [List.length_append]; rfl⟩, .inl (congrArg ti hw2), ⟨rfl, by simp⟩, ⟨rfl, rfl⟩, ⟨rfl, rfl⟩, .inl rfl, trivial⟩ ⟨aut, ⟨rfl, rfl, rfl, hda⟩, aut, aut, ⟨rfl, rfl, rfl, hdq⟩, trivial⟩ rfl rfl, trivial⟩
  rintro - - -
  have hQ2l : ((Q' ++ lagQ (dk == 3) (t1 + pl) c1 n).length : Int) ≤ Q.length := by
    rw [List.length_append]
    have : (lagQ (dk == 3) (t1 + pl) c1 n).length ≤ 1 := by unfold lagQ; cases (dk == 3) <;> simp
    omega
  have hQ2f : (Q' ++ lagQ (dk == 3) (t1 + pl) c1 n).map (·.1) = Q'.map (·.1) ++ (bif dk == 3 then [⟨t1 + pl, false, c1⟩] else []) := by
    rw [List.map_append]
    unfold lagQ
    cases (dk == 3) <;> rfl
  rw [← List.append_assoc, ← hQ2f] at hf hti
  generalize Q' ++ lagQ (dk == 3) (t1 + pl) c1 n = Q2 at hQ2l hf hti ⊢
  have hn2 : n ≤ (bif dk == 3 then n + 1 else n) ∧ (bif dk == 3 then n + 1 else n) ≤ n + 1 := by cases (dk == 3) <;> simp <;> omega
  generalize (bif dk == 3 then n + 1 else n) = n2 at hn2 ⊢
  clear hQ2f hq hrl hrq
  have hw1 : IntKind.i64.wrap (t1 + ps) = t1 + ps := w64 (by omega) (by omega)
  have hw2 : IntKind.i64.wrap (n2 + 1) = n2 + 1 := w64 (by omega) (by omega)
  have hdq : (Q2.map thgR).take Q2.length ++ [[ti (IntKind.i64.wrap (t1 + ps)), tb true, ti c1, ti n2]] = (Q2 ++ [((⟨t1 + ps, true, c1⟩ : Thg), n2)]).map thgR := by rw [List.take_of_length_le (by simp), hw1, List.map_append]; rfl
  have hQ3f : (Q2 ++ [((⟨t1 + ps, true, c1⟩ : Thg), n2)]).map (·.1) = Q2.map (·.1) ++ [⟨t1 + ps, true, c1⟩] := by rw [List.map_append]; rfl
  have hcut3 : tdT (Q2 ++ [((⟨t1 + ps, true, c1⟩ : Thg), n2)]) = .lst 4 32 (((Q2.map thgR).take Q2.length ++ [[ti (IntKind.i64.wrap (t1 + ps)), tb true, ti c1, ti n2]]).take (Q2.length + 1)) := by
    rw [hdq, List.take_of_length_le (by simp)]
  have hag : againB ⟨dk, dc, da, dd, dw, dp, dn⟩ e = ((e == 181) || (dk != 0 && dk != 7)) := rfl
  rw [hag] at hf hti
  cases he : (e == 181)
  · rw [he, Bool.false_or] at hf hti
    cases hd0 : (dk != 0)
    · rw [hd0, Bool.false_and, cond_false, List.append_nil] at hf hti
      have hI2 := hI.next hltm hIn hpn hsl ⟨1, c1⟩ hti hn2.1 (by omega) (by omega) hf
      conv => whnf
      (repeat (first | (refine csplit (fun g => ctf g he) (fun _ => ?_)) | (refine csplit (fun g => ctf g hd0) (fun _ => ?_)); conv => whnf))
      exact ⟨(s', Q2, n2, out ++ [Stp.mk 1 c1]), [0, 1], [], Sub.mk' rfl ⟨.inl rfl, .inl rfl, ⟨rfl, rfl⟩, ⟨rfl, le_map, by rw [List.take_of_length_le (by simp)]⟩, .inl rfl, ⟨rfl, rfl⟩, trivial⟩ ⟨aut, ⟨rfl, rfl, rfl, rfl⟩, trivial⟩ rfl rfl, hI2, hdm _ hltm⟩
    · rw [hd0, Bool.true_and] at hf hti
      have hdk : dk ≠ 0 := by simpa using hd0
      have he0 : e = 0 := by
        rcases hrh.err with q | q
        · exact q
        · rw [q] at he; exact absurd he (by decide)
      have hch : cc.halted = false := by
        cases q : cc.halted with
        | false => rfl
        | true => exact absurd (hrh.none (.inl q)).2 hdk
      obtain ⟨c', hc1, hc2, _⟩ := hrh.core hch he0
      have hc3 : s'.cores[c1.toNat]? = some c' := by rw [hc1, List.getElem?_set_self (by have := (List.getElem?_eq_some_iff.1 hcc).1; exact this)]
      have hIc : c'.regs.length = 16 := by
        obtain ⟨r, hr⟩ := hIn.cor hc3
        exact (hIn.core _ _ r hc3 hr).regs
      have hc4 : c1 < ((s'.cores.map Cst.row).length : Int) := by rw [List.length_map, hsl]; exact hmc.2
      obtain ⟨ca, ch, cr, cb⟩ := c'
      obtain ⟨q0, q1, q2, q3, q4, q5, q6, q7, q8, q9, q10, q11, q12, q13, q14, q15, rfl⟩ := regs16 hIc
      have hc2 : ch = (dk == 7) := hc2
      cases h7 : (dk == 7)
      · rw [h7] at hc2
        subst hc2
        rw [show (dk != 7) = true by simpa using h7, cond_true, ← hQ3f] at hf hti
        have hI2 := hI.next hltm hIn hpn hsl ⟨1, c1⟩ hti (show n ≤ n2 + 1 by omega) (by omega) (by rw [List.length_append, List.length_singleton]; omega) hf
        conv => whnf
        (repeat ((first | (refine ⟨rfl, hmc.1, hc4, fun row hrow => ?_⟩; obtain rfl := row_of hc3 hrow; clear hrow) | (refine csplit (fun g => ctf g he) (fun _ => ?_)) | (refine csplit (fun _ => ?_) (fun g => ctf hd0 g))); conv => whnf))
        refine ⟨rfl, hmc.1, hlc1, fun row hrow => ?_⟩
        obtain rfl := hrowP hrow
        clear hrow
        conv => whnf
        refine ⟨rfl, rfl, rfl, le_map, (show (Q2.length + 1) * 32 ≤ 150000000000000 by omega), alias1 rfl, ?_⟩
        conv => whnf
        refine ⟨by kernel_rfl, fun _ => ?_⟩
        conv => whnf
        exact ⟨(s', Q2 ++ [((⟨t1 + ps, true, c1⟩ : Thg), n2)], n2 + 1, out ++ [Stp.mk 1 c1]), [0, 1], [], Sub.mk' rfl ⟨.inl rfl, .inl rfl, ⟨rfl, rfl⟩, ⟨rfl, (by simp), hcut3⟩, .inl (congrArg ti hw2), ⟨rfl, rfl⟩, trivial⟩ ⟨aut, ⟨rfl, rfl, rfl, rfl⟩, trivial⟩ rfl rfl, hI2, hdm _ hltm⟩
      · rw [h7] at hc2
        subst hc2
        rw [show (dk != 7) = false by simpa using h7, cond_false, List.append_nil] at hf hti
        have hI2 := hI.next hltm hIn hpn hsl ⟨1, c1⟩ hti hn2.1 (by omega) (by omega) hf
        conv => whnf
        (repeat ((first | (refine ⟨rfl, hmc.1, hc4, fun row hrow => ?_⟩; obtain rfl := row_of hc3 hrow; clear hrow) | (refine csplit (fun g => ctf g he) (fun _ => ?_)) | (refine csplit (fun _ => ?_) (fun g => ctf hd0 g))); conv => whnf))
        exact ⟨(s', Q2, n2, out ++ [Stp.mk 1 c1]), [0, 1], [], Sub.mk' rfl ⟨.inl rfl, .inl rfl, ⟨rfl, rfl⟩, ⟨rfl, le_map, by rw [List.take_of_length_le (by simp)]⟩, .inl rfl, ⟨rfl, rfl⟩, trivial⟩ ⟨aut, ⟨rfl, rfl, rfl, rfl⟩, trivial⟩ rfl rfl, hI2, hdm _ hltm⟩
  · rw [he, Bool.true_or, cond_true, ← hQ3f] at hf hti
    have hI2 := hI.next hltm hIn hpn hsl ⟨1, c1⟩ hti (show n ≤ n2 + 1 by omega) (by omega) (by rw [List.length_append, List.length_singleton]; omega) hf
    conv => whnf
    (repeat (refine csplit (fun _ => ?_) (fun g => ctf he g); conv => whnf))
    refine ⟨rfl, hmc.1, hlc1, fun row hrow => ?_⟩
    obtain rfl := hrowP hrow
    clear hrow
    conv => whnf
    refine ⟨rfl, rfl, rfl, le_map, (show (Q2.length + 1) * 32 ≤ 150000000000000 by omega), alias1 rfl, ?_⟩
    conv => whnf
    refine ⟨by kernel_rfl, fun _ => ?_⟩
    conv => whnf
    exact ⟨(s', Q2 ++ [((⟨t1 + ps, true, c1⟩ : Thg), n2)], n2 + 1, out ++ [Stp.mk 1 c1]), [0, 1], [], Sub.mk' rfl ⟨.inl rfl, .inl rfl, ⟨rfl, rfl⟩, ⟨rfl, (by simp), hcut3⟩, .inl (congrArg ti hw2), ⟨rfl, rfl⟩, trivial⟩ ⟨aut, ⟨rfl, rfl, rfl, rfl⟩, trivial⟩ rfl rfl, hI2, hdm _ hltm⟩
end Go.Proofs.YtioafhkkkmfkdaaGreatDoor.am

namespace Go.Proofs.YtioafhkkkmfkdaaGreatDoor.am
open Go Go.Proofs
set_option linter.all false

set_option maxRecDepth 100000 in
theorem kTimes (o : Ob) (l : List Pac) (most : Int) : K 4 [o.av, .tr (pacT l), .tr (ti most)] [] (.ret (.tr (tb true))) [] := by
  have hb := s_begins
  obtain ⟨L, b, e, ha, hr⟩ : ∃ (L : List Stp) (b : Bool) (e : Int), K 16 [o.av, .tr (pacT l), .tr (ti most)] [] (.ret (.tup [.tr (stepsT L), .tr (tb b), .tr (ti e)])) [] ∧ K 17 [o.av, .tr (pacT l), .tr (ti most)] [] (.ret (.tup [.tr (stepsT L), .tr (tb b), .tr (ti e)])) [] := by
    by_cases h : timedE o l most = 0
    · obtain ⟨h0, h1, h2, m, rfl, h3⟩ := timedE_ok h
      have hT := timedE_T (o := o) (l := l) (most := (m : Int)) h0
      cases hq : (okT o l m && l.all pacOk) with
      | false => rw [hq, h] at hT; exact absurd hT (by decide)
      | true => exact ⟨_, _, _, s_timed o l m h0 h1 h2 h3, z_timed o l m h0 true hq⟩
    · have hs := s_timedE o l most h
      by_cases h0 : (checkO o).1 = 0
      · have hT := timedE_T (o := o) (l := l) (most := most) h0
        cases hq : (okT o l most && l.all pacOk) with
        | true => rw [hq] at hT; exact absurd hT h
        | false =>
          rw [hq] at hT
          have hT : timedE o l most = 2 := hT
          rw [hT] at hs
          exact ⟨_, _, _, hs, z_timed o l most h0 false hq⟩
      · have hT : timedE o l most = (checkO o).1 := by
          unfold timedE
          rw [show ((checkO o).1 != 0) = true by simpa using h0]; rfl
        rw [hT] at hs
        exact ⟨_, _, _, hs, z_timedC o l most h0⟩
  have hsa := z_sameSt L
  refine Ctr.of hT hmix Tryz.func4 rfl (fun _ _ => by kernel_rfl) rfl fun hok => ?_
  clear hok
  obtain ⟨memory, shared, locks, buffer, cores⟩ := o
  conv => whnf
  refine acall.pure _ (ha) rfl rfl fun _ => ?_
  conv => whnf
  refine acall.pure _ (hr) rfl rfl fun _ => ?_
  conv => whnf
  refine acall.pure _ (hsa) rfl rfl fun _ => ?_
  conv => whnf
  have eb : (b == b) = true := beq_self_eq_true _
  have ee : (e == e) = true := beq_self_eq_true _
  (repeat (refine csplit (fun _ => ?_) (fun g => ctf eb g); conv => whnf))
  (repeat (refine csplit (fun _ => ?_) (fun g => ctf ee g); conv => whnf))
  refine acall.pure _ (hb) rfl rfl fun _ => ?_
  conv => whnf
  exact ⟨.inl rfl, trivial⟩
end Go.Proofs.YtioafhkkkmfkdaaGreatDoor.am

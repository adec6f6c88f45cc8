/- Contracts of the reference: Timed. Contract of the laws: without. Contracts: slices.Grow of nil, slices.Concat of two. Contracts: slices.Clone of prints and of steps, vm's Prints. Contracts of sched: printed, and slices.Equal of prints. Contract: slices.Equal of prints. Contracts of sched: Shows. Contracts of sched: a turn of Shrink (the closure), Shrink. Contracts of sched: Shrink. Contracts of the reference: Prints, shows, Shows. Contract of the reference: turn (one turn that leaves out n steps at a time). Contract of the reference: Shrink. Contracts of sched: Turns. Contract of sched: Parse. The fixed run that each law of the chapter begins with. The laws SchedShrinks, SchedLeast. The law SchedLeast. -/
import Derived.Test.YtioafhkkkmfkdaaGreatDoorN10
import Derived.Test.YtioafhkkkmfkdaaGreatDoorN8
set_option linter.all false

namespace Go.Proofs.YtioafhkkkmfkdaaGreatDoor.am
open Go Go.Proofs
set_option linter.all false

def okT (o : Ob) (l : List Pac) (most : Int) : Bool := ((l.length : Int) == (o.cores.length : Int)) && (decide (most ≥ 0) && decide (most ≤ 1048576))
def startQ (n : Nat) : List (Thg × Int) := (List.range n).map fun i : Nat => (⟨0, true, (i : Int)⟩, (i : Int))
theorem cut_take {α : Type} (A B : List α) : (([] : List α).take 0 ++ A).take (0 + A.length) ++ B = A ++ B := by
  rw [List.take_nil, List.nil_append, Nat.zero_add, List.take_length]
theorem cut_take2 {α : Type} (A B : List α) : ((([] : List α).take 0 ++ A).take (0 + A.length) ++ B).take (0 + A.length + B.length) = A ++ B := by
  rw [cut_take, List.take_of_length_le (by rw [List.length_append]; omega)]
def lagQ (b : Bool) (t c n : Int) : List (Thg × Int) := bif b then [(⟨t, false, c⟩, n)] else []
def agnQ (b : Bool) (t c n : Int) : List (Thg × Int) := bif b then [(⟨t, true, c⟩, n)] else []
/-- how the steps are told -/
structure TzI (l : List Pac) (m : Nat) (X : Mst × List Thg × List Stp) (s : Mst) (Q : List (Thg × Int)) (n : Int) (out : List Stp) : Prop where
  inv : VInv s
  prints : s.prints.length ≤ out.length
  tin : TInv l s (Q.map (·.1)) (65536 * out.length)
  cores : l.length = s.cores.length
  len : out.length ≤ m
  n0 : 0 ≤ n
  n1 : n ≤ 8 + 2 * out.length
  ql : (Q.length : Int) ≤ 8 + 2 * out.length
  fin : timedG l (m - out.length) s (Q.map (·.1)) out = X
theorem TzI.next {l : List Pac} {m : Nat} {X : Mst × List Thg × List Stp} {s : Mst} {Q : List (Thg × Int)} {n : Int} {out : List Stp} (h : TzI l m X s Q n out) (hlt : out.length < m) {s' : Mst} (hV : VInv s') (hp : s'.prints.length ≤ s.prints.length + 1) (hc : s'.cores.length = s.cores.length) (x : Stp) {Q' : List (Thg × Int)} {n' : Int}
    (ht : TInv l s' (Q'.map (·.1)) (65536 * out.length + 65536)) (hn0 : n ≤ n') (hn1 : n' ≤ n + 2) (hq : (Q'.length : Int) ≤ Q.length + 1) (hf : timedG l (m - (out.length + 1)) s' (Q'.map (·.1)) (out ++ [x]) = X) : TzI l m X s' Q' n' (out ++ [x]) := by
  have hlen : (out ++ [x]).length = out.length + 1 := by rw [List.length_append, List.length_singleton]
  have h1 := h.prints
  have h2 := h.n0
  have h3 := h.n1
  have h4 := h.ql
  refine ⟨hV, by omega, ?_, by rw [hc]; exact h.cores, by omega, by omega, by rw [hlen]; omega, by rw [hlen]; omega, by rw [hlen]; exact hf⟩
  rw [hlen, show (65536 : Int) * ((out.length + 1 : Nat) : Int) = 65536 * out.length + 65536 by omega]
  exact ht
end Go.Proofs.YtioafhkkkmfkdaaGreatDoor.am

namespace Go.Proofs.YtioafhkkkmfkdaaGreatDoor.am
open Go Go.Proofs
set_option linter.all false

set_option maxRecDepth 100000 in
theorem z_without (l : List Stp) (k : Nat) (hk : k < l.length) (hl : l.length ≤ 1048576) : K 29 [.tr (stepsT l), .tr (ti k)] [] (.ret (.tr (stepsT (l.take k ++ l.drop (k + 1))))) [] := by
  have hqm : (l.map Stp.cells).length = l.length := List.length_map ..
  have hk1 : IntKind.i64.wrap ((k : Int) + 1) = ((k + 1 : Nat) : Int) := by rw [w64 (by omega) (by omega)]; omega
  have hA : ((l.map Stp.cells).take k).length = k := by rw [List.length_take]; omega
  have hB : ((l.map Stp.cells).take (l.map Stp.cells).length).drop (k + 1) = (l.drop (k + 1)).map Stp.cells := by rw [List.take_length, List.map_drop]
  have hBl : (((l.map Stp.cells).take (l.map Stp.cells).length).drop (k + 1)).length = l.length - (k + 1) := by rw [hB, List.length_map, List.length_drop]
  have hcut : stepsT (l.take k ++ l.drop (k + 1)) = .lst 2 16 (((([] : List (List Tr)).take 0 ++ (l.map Stp.cells).take k).take (0 + ((l.map Stp.cells).take k).length) ++ ((l.map Stp.cells).take (l.map Stp.cells).length).drop (k + 1)).take (0 + ((l.map Stp.cells).take k).length + (((l.map Stp.cells).take (l.map Stp.cells).length).drop (k + 1)).length)) := by
    rw [cut_take2, hB]
    show Tr.lst 2 16 ((l.take k ++ l.drop (k + 1)).map Stp.cells) = _
    rw [List.map_append, List.map_take]
  refine Ctr.of hT hmix Tryz.func29 rfl (fun _ _ => by kernel_rfl) rfl fun hok => ?_
  clear hok
  conv => whnf
  refine ⟨rfl, by decide, (show (0 : Int) ≤ (k : Int) by omega), (show (k : Int) ≤ ((l.map Stp.cells).length : Int) by omega), ?_⟩
  conv => whnf
  refine ⟨rfl, rfl, rfl, Nat.zero_le _, (by show (0 + ((l.map Stp.cells).take k).length) * 16 ≤ 150000000000000; rw [hA]; omega), (fun q hq => by cases hq), ?_⟩
  conv => whnf
  rw [hk1]
  refine ⟨rfl, (show (0 : Int) ≤ ((k + 1 : Nat) : Int) by omega), (show ((k + 1 : Nat) : Int) ≤ ((l.map Stp.cells).length : Int) by omega), (show ((l.map Stp.cells).length : Int) ≤ ((l.map Stp.cells).length : Int) from Int.le_refl _), ?_⟩
  conv => whnf
  refine ⟨rfl, rfl, rfl, (by show 0 + ((l.map Stp.cells).take k).length ≤ (([] : List (List Tr)).take 0 ++ (l.map Stp.cells).take k).length; rw [List.take_nil, List.nil_append, Nat.zero_add]; exact Nat.le_refl _), (by show (0 + ((l.map Stp.cells).take k).length + (((l.map Stp.cells).take (l.map Stp.cells).length).drop (k + 1)).length) * 16 ≤ 150000000000000; rw [hA, hBl]; omega), (fun q hq => by cases hq), ?_⟩
  conv => whnf
  refine ⟨by kernel_rfl, fun _ => ?_⟩
  conv => whnf
  exact ⟨⟨rfl, (by show 0 + ((l.map Stp.cells).take k).length + (((l.map Stp.cells).take (l.map Stp.cells).length).drop (k + 1)).length ≤ ((([] : List (List Tr)).take 0 ++ (l.map Stp.cells).take k).take (0 + ((l.map Stp.cells).take k).length) ++ ((l.map Stp.cells).take (l.map Stp.cells).length).drop (k + 1)).length; rw [cut_take, List.length_append, Nat.zero_add]; exact Nat.le_refl _), hcut⟩, trivial⟩
end Go.Proofs.YtioafhkkkmfkdaaGreatDoor.am

namespace Go.Proofs.YtioafhkkkmfkdaaGreatDoor.am
open Go Go.Proofs
set_option linter.all false

abbrev growB (n : Nat) : Blk := .vec 51 2 16 (List.replicate n [.v (.int .u8 0), .v (.int .i64 0)])
set_option maxRecDepth 100000 in
theorem s_grow (n : Nat) (h0 : 0 < n) (h1 : n ≤ 4194304) : K 92 [.tr (.v (.slice none 0 0)), .tr (ti n)] [] (.ret (.sl 0 0)) [some (growB n)] := by
  have e0 : IntKind.i64.wrap (0 - ((0 : Nat) : Int)) = 0 := by rw [w64 (by omega) (by omega)]; rfl
  have e1 : IntKind.i64.wrap ((n : Int) - IntKind.i64.wrap (0 - ((0 : Nat) : Int))) = (n : Int) := by rw [e0, w64 (by omega) (by omega)]; omega
  refine Ctr.new [] hT hmix Tryz.func92 rfl (fun _ _ => by kernel_rfl) rfl fun hok => ?_
  clear hok
  conv => whnf
  rw [e1]
  refine csplit (fun g2 => ?_) (fun g2 => ?_)
  · conv => whnf
    refine ⟨by decide, by decide, by decide, ?_⟩
    conv => whnf
    refine ⟨(show (0 : Int) ≤ (n : Int) by omega), (show (n : Int) * 16 ≤ 140737488351232 by omega), ?_⟩
    conv => whnf
    refine ⟨(show (0 : Int) ≤ ((0 : Nat) : Int) by decide), (show ((0 : Nat) : Int) ≤ ((n : Nat) : Int) by omega), ?_⟩
    conv => whnf
    exact ⟨[_], rfl, rfl, aut, aut⟩
  · have : decide ((n : Int) > 0) = false := g2
    have := of_decide_eq_false this
    omega
set_option maxRecDepth 100000 in
theorem s_grow0 : K 92 [.tr (.v (.slice none 0 0)), .tr (ti 0)] [] (.ret (.tr (.v (.slice none 0 0)))) [] := by
  refine Ctr.of hT hmix Tryz.func92 rfl (fun _ _ => by kernel_rfl) rfl fun hok => ?_
  clear hok
  conv => whnf
  exact ⟨.inl rfl, trivial⟩
set_option maxRecDepth 100000 in
theorem s_concat (a b : List Stp) (hl : a.length + b.length ≤ 4194304) : K 65 [.tr (.lst 1 24 [[stepsT a], [stepsT b]])] [] (.ret (.tr (stepsT (a ++ b)))) [] := by
  have hla : (a.map Stp.cells).length = a.length := List.length_map ..
  have hlb : (b.map Stp.cells).length = b.length := List.length_map ..
  have e1 : IntKind.i64.wrap (0 + ((a.map Stp.cells).length : Int)) = (a.length : Int) := by rw [hla, w64 (by omega) (by omega)]; omega
  have e2 : IntKind.i64.wrap ((a.length : Int) + ((b.map Stp.cells).length : Int)) = ((a.length + b.length : Nat) : Int) := by rw [hlb, w64 (by omega) (by omega)]; omega
  refine Ctr.of hT hmix Tryz.func65 rfl (fun _ _ => by kernel_rfl) rfl fun hok => ?_
  clear hok
  conv => whnf
  refine LoopL.un 3 ?_
  conv => whnf
  refine ⟨rfl, by decide, (show (_ : Int) < 2 by decide), fun row hrow => ?_⟩
  cases hrow
  conv => whnf
  rw [e1]
  conv => whnf
  refine ⟨rfl, by decide, (show (_ : Int) < 2 by decide), fun row hrow => ?_⟩
  cases hrow
  conv => whnf
  rw [e2]
  conv => whnf
  refine ⟨fun _ => ?_, fun h => absurd rfl h⟩
  conv => whnf
  by_cases hz : a.length + b.length = 0
  · obtain rfl : a = [] := List.eq_nil_of_length_eq_zero (by omega)
    obtain rfl : b = [] := List.eq_nil_of_length_eq_zero (by omega)
    refine acall.pure _ (s_grow0) rfl rfl fun _ => ?_
    conv => whnf
    refine LoopL.un 3 ?_
    conv => whnf
    refine ⟨rfl, by decide, (show (_ : Int) < 2 by decide), fun row hrow => ?_⟩
    cases hrow
    conv => whnf
    refine ⟨by decide, ?_⟩
    conv => whnf
    refine ⟨rfl, by decide, (show (_ : Int) < 2 by decide), fun row hrow => ?_⟩
    cases hrow
    conv => whnf
    refine ⟨rfl, rfl, rfl, Nat.zero_le _, by decide, (fun q hq => by cases hq), ?_⟩
    conv => whnf
    refine ⟨fun _ => ?_, fun h => absurd rfl h⟩
    conv => whnf
    exact ⟨⟨rfl, Nat.zero_le _, rfl⟩, trivial⟩
  · have hcut : stepsT (a ++ b) = .lst 2 16 ((((List.replicate (a.length + b.length) [Tr.v (.int .u8 0), Tr.v (.int .i64 0)]).take 0 ++ (a.map Stp.cells).take (a.map Stp.cells).length).take (0 + ((a.map Stp.cells).take (a.map Stp.cells).length).length) ++ (b.map Stp.cells).take (b.map Stp.cells).length).take (0 + ((a.map Stp.cells).take (a.map Stp.cells).length).length + ((b.map Stp.cells).take (b.map Stp.cells).length).length)) := by
      simp only [List.take_zero, List.nil_append, List.take_length, Nat.zero_add]
      rw [List.take_of_length_le (by rw [List.length_append]; exact Nat.le_refl _)]
      show Tr.lst 2 16 ((a ++ b).map Stp.cells) = _
      rw [List.map_append]
    refine acall.new [] [] _ _ _ _ (s_grow (a.length + b.length) (by omega) hl) rfl rfl rfl rfl aut aut rfl rfl fun _ => ?_
    conv => whnf
    refine LoopL.un 3 ?_
    conv => whnf
    refine ⟨rfl, by decide, (show (_ : Int) < 2 by decide), fun row hrow => ?_⟩
    cases hrow
    conv => whnf
    refine ⟨rfl, rfl, rfl, Nat.zero_le _, (by show (0 + (a.map Stp.cells).length) * 16 ≤ _; rw [hla]; omega), (fun q hq => by cases hq), ?_⟩
    conv => whnf
    refine ⟨rfl, by decide, (show (_ : Int) < 2 by decide), fun row hrow => ?_⟩
    cases hrow
    conv => whnf
    refine ⟨rfl, rfl, rfl, (by simp), (by show (0 + (a.map Stp.cells).length + (b.map Stp.cells).length) * 16 ≤ _; rw [hla, hlb]; omega), (fun q hq => by cases hq), ?_⟩
    conv => whnf
    refine ⟨fun _ => ?_, fun h => absurd rfl h⟩
    conv => whnf
    exact ⟨⟨rfl, by simp, by simp [List.take_of_length_le]⟩, trivial⟩
end Go.Proofs.YtioafhkkkmfkdaaGreatDoor.am

namespace Go.Proofs.YtioafhkkkmfkdaaGreatDoor.am
open Go Go.Proofs
set_option linter.all false

set_option maxRecDepth 100000 in
theorem s_cloneS (l : List Stp) (hl : l.length * 16 ≤ 150000000000000) : K 63 [.tr (stepsT l)] [] (.ret (.tr (stepsT l))) [] := by
  refine Ctr.cut [2000001] hT hmix Tryz.func63 rfl (fun _ _ => by kernel_rfl) rfl fun hok => ?_
  clear hok
  conv => whnf
  refine nil_region rfl rfl rfl rfl rfl (by decide) fun b hb => ?_
  cases b
  · conv => whnf
    refine ⟨rfl, rfl, rfl, Nat.le_refl _, (by show (0 + (l.map Stp.cells).length) * 16 ≤ 150000000000000; rw [List.length_map]; omega), (fun q hq => by cases hq), ?_⟩
    conv => whnf
    exact ⟨⟨rfl, by simp, by simp [List.take_of_length_le]⟩, trivial⟩
  · obtain rfl : l = [] := by
      cases l with
      | nil => rfl
      | cons x l => exact absurd (hb (by simp)) (by simp)
    conv => whnf
    exact ⟨.inr ⟨rfl, _, _, rfl⟩, trivial⟩
set_option maxRecDepth 100000 in
theorem s_cloneN (l : List Prn) (hl : l.length * 16 ≤ 150000000000000) : K 128 [.tr (prT l)] [] (.ret (.sl 0 l.length)) [some (prB0 l)] := by
  refine Ctr.new [2000001, 0] hT hmix Tryz.func128 rfl (fun _ _ => by kernel_rfl) rfl fun hok => ?_
  clear hok
  conv => whnf
  refine nil_region rfl rfl rfl rfl rfl (by decide) fun b hb => ?_
  cases b
  · conv => whnf
    refine CutL.by (fun _ : Unit => ⟨[(2, .sl 0 l.length)], [(0, prB0 l)], 10⟩) (fun _ => True) ?_ ?_
    · conv => whnf
      refine ⟨rfl, rfl, rfl, Nat.le_refl _, (by show (0 + (l.map Prn.row).length) * 16 ≤ 150000000000000; rw [List.length_map]; omega), (fun q hq => by cases hq), ?_⟩
      conv => whnf
      exact ⟨(), [_], [], Sub.mk' rfl ⟨⟨rfl, by simp⟩, trivial⟩ ⟨⟨rfl, rfl, rfl, rfl⟩, trivial⟩ rfl rfl, trivial⟩
    · rintro - - -
      conv => whnf
      exact ⟨[0], rfl, rfl, ⟨rfl, rfl⟩, ⟨rfl, rfl, rfl, rfl⟩, trivial⟩
  · obtain rfl : l = [] := by
      cases l with
      | nil => rfl
      | cons x l => exact absurd (hb (by simp)) (by simp)
    conv => whnf
    refine CutL.by (fun _ : Unit => ⟨[(2, .sl 0 0)], [(0, prB0 [])], 10⟩) (fun _ => True) ?_ ?_
    · conv => whnf
      exact ⟨(), [], [0], Sub.mk' rfl ⟨⟨rfl, rfl, rfl, rfl⟩, trivial⟩ ⟨⟨rfl, _, _, _, rfl, by decide⟩, trivial⟩ rfl rfl, trivial⟩
    · rintro - - -
      conv => whnf
      exact ⟨[0], rfl, rfl, ⟨rfl, rfl⟩, ⟨rfl, rfl, rfl, rfl⟩, trivial⟩
set_option maxRecDepth 100000 in
theorem s_prints (s : Mst) (hl : s.prints.length * 16 ≤ 150000000000000) : K 91 [.ptr 0 0] s.blks (.ret (.tr (prT s.prints))) [none, none, none, none] := by
  have hc := s_cloneN s.prints hl
  refine Ctr.of hT hmix Tryz.func91 rfl (fun _ _ => by kernel_rfl) rfl fun hok => ?_
  clear hok
  conv => whnf
  refine acall.new [] [3] _ _ _ _ hc rfl rfl rfl rfl ⟨⟨rfl, (by rw [List.length_map]; exact Nat.le_refl _), (by rw [List.take_of_length_le (by simp)])⟩, trivial⟩ trivial rfl rfl fun _ => ?_
  conv => whnf
  exact ⟨⟨rfl, (by rw [List.length_map]; exact Nat.le_refl _), (by rw [List.take_of_length_le (by simp)])⟩, trivial⟩
end Go.Proofs.YtioafhkkkmfkdaaGreatDoor.am

namespace Go.Proofs.YtioafhkkkmfkdaaGreatDoor.am
open Go Go.Proofs
set_option linter.all false

set_option maxRecDepth 100000 in
set_option maxHeartbeats 2000000 in
theorem s_printed (o : Ob) (l : List Stp) (h0 : (checkO o).1 = 0) (hl : l.length ≤ 1048576) : K 62 [o.av, .tr (stepsT l)] [] (.ret (.tr (prT (finL (newM o) l).prints))) [] := by
  have hg := check_good h0
  have hn1 := k_vnew o h0 hg.mem hg.cores (fun c hc => (hg.code c hc).2)
  have hV := VInv.new h0
  have hpr0 : (newM o).prints.length = 0 := rfl
  generalize hF : finL (newM o) l = sF
  clear h0 hg
  generalize newM o = s0 at hn1 hV hpr0 hF
  obtain ⟨memory, shared, locks, buffer, cores⟩ := o
  have hlm : (l.map Stp.cells).length = l.length := List.length_map ..
  refine Ctr.of hT hmix Tryz.func62 rfl (fun _ _ => by kernel_rfl) rfl fun hok => ?_
  clear hok
  conv => whnf
  refine acall.new [] [] _ _ _ _ hn1 rfl rfl rfl rfl aut aut rfl rfl fun _ => ?_
  conv => whnf
  refine LoopL.by (fun x : Mst × Nat => ⟨[(5, .ptr 0 0), (14, .tr (stepsT l)), (15, .tr (ti l.length)), (16, .tr (ti x.2))], [(0, maB x.1), (1, csB x.1.cores), (2, meB x.1.mem), (3, prB x.1.prints)], 10⟩) (fun x => VInv x.1 ∧ x.1.prints.length ≤ x.2 ∧ x.2 ≤ l.length ∧ finL x.1 (l.drop x.2) = sF) (fun x => l.length - x.2) (s0, 0) [_, _, _, _] []
    (Sub.mk' rfl ⟨⟨rfl, rfl⟩, .inl rfl, .inl (by rw [← hlm]), .inl rfl, trivial⟩ ⟨⟨rfl, .inl rfl, .inl rfl, .inl rfl, .inl rfl, .inl rfl, ⟨rfl, rfl⟩, ⟨rfl, rfl⟩, ⟨rfl, rfl⟩, trivial⟩, ⟨rfl, rfl, rfl, rfl, .inl rfl⟩, ⟨rfl, rfl, rfl, rfl⟩, ⟨rfl, rfl, rfl, rfl⟩, trivial⟩ rfl rfl)
    ⟨hV, by show s0.prints.length ≤ 0; omega, Nat.zero_le _, hF⟩ ?_
  clear hV hpr0 hF hn1
  rintro ⟨s, i⟩ ⟨hV, hpr, hi, hrun⟩ -
  simp only at hV hpr hi hrun
  conv => whnf
  refine csplit (fun hlt => ?_) (fun hge => ?_)
  · have hlt : i < l.length := by have := of_decide_eq_true hlt; omega
    obtain ⟨x, hx⟩ : ∃ x, l[i]? = some x := ⟨_, List.getElem?_eq_getElem hlt⟩
    rw [finL_drop hx] at hrun
    obtain ⟨kd, c⟩ := x
    simp only at hrun
    have hst := k_step s hV (by omega) kd c
    have hIn := stepS_inv hV kd c
    have hpn := stepS_prints s kd c
    generalize stepS s kd c = S at hst hIn hpn hrun
    obtain ⟨s', ⟨dk, dc, da, dd, dw, dp, dn⟩, e⟩ := S
    simp only at hst hIn hpn hrun
    conv => whnf
    refine ⟨rfl, (show (0 : Int) ≤ i by omega), (show (i : Int) < ((l.map Stp.cells).length : Int) by omega), fun row hrow => ?_⟩
    replace hrow : (l.map Stp.cells)[i]? = some row := hrow
    rw [List.getElem?_map, hx] at hrow
    cases hrow
    conv => whnf
    rcases hst with hst | hst
    · refine acall.au [0, 1, 2, 3] [] hst ?_
      intro _
      conv => whnf
      exact ⟨(s', i + 1), [0, 1, 2, 3], [], Sub.mk' rfl ⟨⟨rfl, rfl⟩, .inl rfl, .inl rfl, .inl (ti_succ hlt (by omega)), trivial⟩ ⟨⟨rfl, .inl rfl, .inl rfl, .inl rfl, .inl rfl, .inl rfl, ⟨rfl, rfl⟩, ⟨rfl, rfl⟩, ⟨rfl, rfl⟩, trivial⟩, ⟨rfl, rfl, rfl, rfl, .inl rfl⟩, ⟨rfl, rfl, rfl, rfl⟩, ⟨rfl, rfl, rfl, rfl⟩, trivial⟩ rfl rfl, ⟨hIn, by show s'.prints.length ≤ i + 1; omega, hlt, hrun⟩, by show l.length - (i + 1) < l.length - i; omega⟩
    · refine acall.new [0, 1, 2, 3] [] _ _ _ _ hst rfl rfl rfl rfl aut aut rfl rfl fun _ => ?_
      conv => whnf
      exact ⟨(s', i + 1), [0, 1, 2, _], [], Sub.mk' rfl ⟨⟨rfl, rfl⟩, .inl rfl, .inl rfl, .inl (ti_succ hlt (by omega)), trivial⟩ ⟨⟨rfl, .inl rfl, .inl rfl, .inl rfl, .inl rfl, .inl rfl, ⟨rfl, rfl⟩, ⟨rfl, rfl⟩, ⟨rfl, rfl⟩, trivial⟩, ⟨rfl, rfl, rfl, rfl, .inl rfl⟩, ⟨rfl, rfl, rfl, rfl⟩, ⟨rfl, rfl, rfl, rfl⟩, trivial⟩ rfl rfl, ⟨hIn, by show s'.prints.length ≤ i + 1; omega, hlt, hrun⟩, by show l.length - (i + 1) < l.length - i; omega⟩
  have hge : i = l.length := by have := of_decide_eq_false hge; omega
  subst hge
  rw [List.drop_length] at hrun
  have hrun : s = sF := hrun
  subst hrun
  have hpp := s_prints s (by omega)
  conv => whnf
  refine ⟨fun _ => ?_, fun h => absurd rfl h⟩
  conv => whnf
  refine acall.au [0, 1, 2, 3] [] hpp ?_
  intro _
  conv => whnf
  exact ⟨.inl rfl, trivial⟩
end Go.Proofs.YtioafhkkkmfkdaaGreatDoor.am

namespace Go.Proofs.YtioafhkkkmfkdaaGreatDoor.am
open Go Go.Proofs
set_option linter.all false

theorem prn_get {l : List Prn} {i : Nat} {row : List Tr} (h : (l.map Prn.row)[i]? = some row) : ∃ d, l[i]? = some d ∧ row = d.row := by
  rw [List.getElem?_map, Option.map_eq_some_iff] at h
  obtain ⟨d, h1, rfl⟩ := h
  exact ⟨d, h1, rfl⟩
theorem eq_drop {a b : List Prn} {i : Nat} {x y : Prn} (h1 : a[i]? = some x) (h2 : b[i]? = some y) : decide (a.drop i = b.drop i) = (decide (x = y) && decide (a.drop (i + 1) = b.drop (i + 1))) := by
  rw [List.drop_eq_getElem_cons (List.getElem?_eq_some_iff.1 h1).1, (List.getElem?_eq_some_iff.1 h1).2, List.drop_eq_getElem_cons (List.getElem?_eq_some_iff.1 h2).1, (List.getElem?_eq_some_iff.1 h2).2]
  by_cases e1 : x = y <;> by_cases e2 : a.drop (i + 1) = b.drop (i + 1) <;> simp [e1, e2]
set_option maxRecDepth 100000 in
theorem s_equalP (a b : List Prn) : K 61 [.tr (prT a), .tr (prT b)] [] (.ret (.tr (tb (decide (a = b))))) [] := by
  have hR : decide (a.drop 0 = b.drop 0) = decide (a = b) := rfl
  generalize decide (a = b) = R at hR ⊢
  have hla : (a.map Prn.row).length = a.length := List.length_map ..
  have hlb : (b.map Prn.row).length = b.length := List.length_map ..
  refine Ctr.of hT hmix Tryz.func61 rfl (fun _ _ => by kernel_rfl) rfl fun hok => ?_
  obtain ⟨_, hl63, _⟩ := (hok.slot 0 rfl).tr.lst
  rw [hla] at hl63
  clear hok
  conv => whnf
  refine csplit (fun h1 => ?_) (fun h1 => ?_)
  · have h1 : a.length ≠ b.length := by have : (((a.map Prn.row).length : Int) != ((b.map Prn.row).length : Int)) = true := h1; rw [hla, hlb] at this; intro e; rw [e] at this; simp at this
    have : R = false := by rw [← hR]; exact decide_eq_false fun e => h1 (congrArg List.length e)
    subst this
    conv => whnf
    exact ⟨.inl rfl, trivial⟩
  have h1 : a.length = b.length := by have : (((a.map Prn.row).length : Int) != ((b.map Prn.row).length : Int)) = false := h1; rw [hla, hlb] at this; exact Int.ofNat_inj.1 (by simpa using this)
  conv => whnf
  refine LoopL.by (fun i : Nat => ⟨[(0, .tr (prT a)), (1, .tr (prT b)), (12, .tr (ti a.length)), (13, .tr (ti i))], [], 10⟩) (fun i => i ≤ a.length ∧ decide (a.drop i = b.drop i) = R) (fun i => a.length - i) 0 [] [] (Sub.mk' rfl ⟨.inl rfl, .inl rfl, .inl (by rw [← hla]), .inl rfl, trivial⟩ trivial rfl rfl) ⟨Nat.zero_le _, hR⟩ ?_
  rintro i ⟨hi, hR⟩ -
  conv => whnf
  refine csplit (fun hlt => ?_) (fun hge => ?_)
  · have hlt : i < a.length := by have := of_decide_eq_true hlt; omega
    obtain ⟨x, hx⟩ : ∃ x, a[i]? = some x := ⟨_, List.getElem?_eq_getElem hlt⟩
    obtain ⟨y, hy⟩ : ∃ y, b[i]? = some y := ⟨_, List.getElem?_eq_getElem (show i < b.length by omega)⟩
    rw [eq_drop hx hy] at hR
    obtain ⟨x1, x2⟩ := x
    obtain ⟨y1, y2⟩ := y
    conv => whnf
    refine ⟨rfl, (show (0 : Int) ≤ i by omega), (show (i : Int) < ((a.map Prn.row).length : Int) by omega), fun row hr => ?_⟩
    obtain ⟨d', hd', rfl⟩ := prn_get hr
    obtain rfl := Option.some.inj (hx.symm.trans hd')
    clear hr hd'
    conv => whnf
    refine ⟨rfl, (show (0 : Int) ≤ i by omega), (show (i : Int) < ((b.map Prn.row).length : Int) by omega), fun row hr => ?_⟩
    obtain ⟨d', hd', rfl⟩ := prn_get hr
    obtain rfl := Option.some.inj (hy.symm.trans hd')
    clear hr hd'
    conv => whnf
    refine ⟨by kernel_rfl, fun _ => ?_⟩
    conv => whnf
    have hB : decide (Prn.mk x1 x2 = Prn.mk y1 y2) = (x1 == y1 && (x2 == y2 && true)) := by
      rw [Bool.and_true]
      by_cases e1 : x1 = y1 <;> by_cases e2 : x2 = y2 <;> simp [e1, e2]
    rw [hB] at hR
    refine csplit (fun g => ?_) (fun g => ?_)
    · replace g : (!(x1 == y1 && (x2 == y2 && true))) = true := g
      have g : (x1 == y1 && (x2 == y2 && true)) = false := by rw [← Bool.not_not (x1 == y1 && (x2 == y2 && true)), g]; rfl
      rw [g] at hR
      have hR : false = R := hR
      subst hR
      conv => whnf
      exact ⟨.inl rfl, trivial⟩
    · replace g : (!(x1 == y1 && (x2 == y2 && true))) = false := g
      have g : (x1 == y1 && (x2 == y2 && true)) = true := by rw [← Bool.not_not (x1 == y1 && (x2 == y2 && true)), g]; rfl
      rw [g, Bool.true_and] at hR
      conv => whnf
      exact ⟨i + 1, [], [], Sub.mk' rfl ⟨.inl rfl, .inl rfl, .inl rfl, .inl (ti_succ hlt hl63), trivial⟩ trivial rfl rfl, ⟨hlt, hR⟩, by show a.length - (i + 1) < a.length - i; omega⟩
  · have hge : i = a.length := by have := of_decide_eq_false hge; omega
    subst hge
    rw [List.drop_length, h1, List.drop_length] at hR
    have hR : true = R := hR
    subst hR
    conv => whnf
    refine ⟨fun _ => ?_, fun h => absurd rfl h⟩
    conv => whnf
    exact ⟨.inl rfl, trivial⟩
end Go.Proofs.YtioafhkkkmfkdaaGreatDoor.am

namespace Go.Proofs.YtioafhkkkmfkdaaGreatDoor.am
open Go Go.Proofs
set_option linter.all false

def showsR (o : Ob) (l : List Stp) (p : List Prn) : Bool × Int := bif (checkO o).1 != 0 then (false, (checkO o).1) else bif decide ((l.length : Int) > 1048576) then (false, 3) else (showB o l p, 0)
set_option maxRecDepth 100000 in
theorem s_shows (o : Ob) (l : List Stp) (p : List Prn) : K 26 [o.av, .tr (stepsT l), .tr (prT p)] [] (.ret (.tup [.tr (tb (showsR o l p).1), .tr (ti (showsR o l p).2)])) [] := by
  have hc := k_check o
  have hpt := s_printed o l
  have hlm : (l.map Stp.cells).length = l.length := List.length_map ..
  have heq := s_equalP (finL (newM o) l).prints p
  have hS : showsR o l p = bif (checkO o).1 != 0 then (false, (checkO o).1) else bif decide ((l.length : Int) > 1048576) then (false, 3) else (decide ((finL (newM o) l).prints = p), 0) := rfl
  generalize showsR o l p = R at hS ⊢
  generalize (finL (newM o) l).prints = Q at hpt heq hS
  generalize decide (Q = p) = b at heq hS
  generalize checkO o = C at hc hpt hS
  obtain ⟨memory, shared, locks, buffer, cores⟩ := o
  refine Ctr.of hT hmix Tryz.func26 rfl (fun _ _ => by kernel_rfl) rfl fun hok => ?_
  clear hok
  conv => whnf
  refine acall.pure _ (hc) rfl rfl fun _ => ?_
  conv => whnf
  refine csplit (fun h1 => ?_) (fun h1 => ?_)
  · rw [show (C.1 != 0) = true from h1] at hS
    have hS : R = (false, C.1) := hS
    subst hS
    conv => whnf
    exact ⟨⟨.inl rfl, .inl rfl, trivial⟩, trivial⟩
  have h0 : C.1 = 0 := by have : (C.1 != 0) = false := h1; simpa using this
  rw [h0] at hS
  conv => whnf
  refine csplit (fun h2 => ?_) (fun h2 => ?_)
  · rw [show decide ((l.length : Int) > 1048576) = true by rw [← hlm]; exact h2] at hS
    have hS : R = (false, 3) := hS
    subst hS
    conv => whnf
    exact ⟨⟨.inl rfl, .inl rfl, trivial⟩, trivial⟩
  have h3 : decide ((l.length : Int) > 1048576) = false := by rw [← hlm]; exact h2
  rw [h3] at hS
  have hS : R = (b, 0) := hS
  subst hS
  have hpt := hpt h0 (by have := of_decide_eq_false h3; omega)
  conv => whnf
  refine acall.pure _ (hpt) rfl rfl fun _ => ?_
  conv => whnf
  refine acall.pure _ (heq) rfl rfl fun _ => ?_
  conv => whnf
  exact ⟨⟨.inl rfl, .inl rfl, trivial⟩, trivial⟩
end Go.Proofs.YtioafhkkkmfkdaaGreatDoor.am

namespace Go.Proofs.YtioafhkkkmfkdaaGreatDoor.am
open Go Go.Proofs
set_option linter.all false

abbrev leftB (l : List Stp) : Blk := .cells 26 [.tr (stepsT l)]
abbrev obB (o : Ob) : Blk := .cells 25 [.tr (intsT o.memory), .tr (ti o.shared), .tr (ti o.locks), .tr (ti o.buffer), .tr (coresT o.cores)]
abbrev goalB (p : List Prn) : Blk := .cells 58 [.tr (prT p)]
set_option maxRecDepth 100000 in
set_option maxHeartbeats 2000000 in
theorem s_turn (o : Ob) (l : List Stp) (p : List Prn) (n : Nat) (h0 : (checkO o).1 = 0) (hn : 0 < n) (hn1 : n ≤ 1048576) (hl : l.length ≤ 1048576) : K 64 [.tr (ti n), .ptr 0 0, .ptr 1 0, .ptr 2 0] [leftB l, obB o, goalB p] (.ret (.tr (tb (turnR o p n l).2))) [some (leftB (turnR o p n l).1), some (obB o), some (goalB p)] := by
  generalize hR0 : turnR o p n l = R
  have hR : turnG o p n (l.length + 1) 0 l false = R := hR0
  clear hR0
  have hpt := fun L hL => s_printed o L h0 hL
  have heq := fun L => s_equalP (finL (newM o) L).prints p
  have hEnd := turnG_end o p n
  have hSucc := turnG_succ o p n
  have hFu := fun f g at_ l any => turnG_fuel o p hn f g at_ l any
  have hSB : ∀ L, showB o L p = decide ((finL (newM o) L).prints = p) := fun L => rfl
  clear h0
  generalize showB o = SB at hSucc hSB
  generalize turnG o p n = TG at hR hEnd hSucc hFu
  replace heq := fun L => (hSB L) ▸ heq L
  clear hSB
  generalize finL (newM o) = FL at hpt heq
  obtain ⟨memory, shared, locks, buffer, cores⟩ := o
  refine Ctr.of hT hmix Tryz.func64 rfl (fun _ _ => by kernel_rfl) rfl fun hok => ?_
  clear hok
  conv => whnf
  refine LoopL.by (fun x : List Stp × Nat × Bool => ⟨[(0, .tr (ti n)), (1, .ptr 0 0), (2, .ptr 1 0), (3, .ptr 2 0), (6, .tr (tb x.2.2)), (7, .tr (ti x.2.1))], [(0, .cells 26 [.tr (stepsT x.1)]), (1, .cells 25 [.tr (intsT memory), .tr (ti shared), .tr (ti locks), .tr (ti buffer), .tr (coresT cores)]), (2, .cells 58 [.tr (prT p)])], 10⟩) (fun x => x.2.1 ≤ 2097152 ∧ x.1.length ≤ 1048576 ∧ TG (x.1.length - min x.2.1 x.1.length + 1) (min x.2.1 x.1.length) x.1 x.2.2 = R) (fun x => x.1.length - x.2.1) (l, 0, false) [0, 1, 2] []
    (Sub.mk' rfl ⟨.inl rfl, ⟨rfl, rfl⟩, ⟨rfl, rfl⟩, ⟨rfl, rfl⟩, .inl rfl, .inl rfl, trivial⟩ ⟨⟨rfl, .inl rfl, trivial⟩, ⟨rfl, .inl rfl, .inl rfl, .inl rfl, .inl rfl, .inl rfl, trivial⟩, ⟨rfl, .inl rfl, trivial⟩, trivial⟩ rfl rfl) ⟨Nat.zero_le _, hl, by show TG (l.length - min 0 l.length + 1) (min 0 l.length) l false = R; rw [Nat.zero_min]; exact hR⟩ ?_
  clear hR
  rintro ⟨L, a, any⟩ ⟨ha, hL, hR⟩ -
  simp only at ha hL hR
  have hqm : (L.map Stp.cells).length = L.length := List.length_map ..
  conv => whnf
  refine csplit (fun hlt => ?_) (fun hge => ?_)
  · have hlt : a < L.length := by have : decide ((a : Int) < ((L.map Stp.cells).length : Int)) = true := hlt; have := of_decide_eq_true this; omega
    rw [Nat.min_eq_left (Nat.le_of_lt hlt), hSucc, decide_eq_true hlt, cond_true] at hR
    obtain ⟨E, hE⟩ : ∃ E, min (a + n) L.length = E := ⟨_, rfl⟩
    have hE1 : a < E ∧ E ≤ L.length ∧ E ≤ a + n := by omega
    rw [hE] at hR
    have hw : IntKind.i64.wrap ((a : Int) + (n : Int)) = ((a + n : Nat) : Int) := by rw [w64 (by omega) (by omega)]; omega
    have hmin : min (IntKind.i64.wrap ((a : Int) + (n : Int))) (((L.map Stp.cells).length : Nat) : Int) = (E : Int) := by rw [w64 (by omega) (by omega), hqm]; omega
    have hX : Tr.lst 2 16 ((L.map Stp.cells).take a) = stepsT (L.take a) := by rw [← List.map_take]
    have hY : Tr.lst 2 16 (((L.map Stp.cells).take (L.map Stp.cells).length).drop E) = stepsT (L.drop E) := by rw [List.take_length, ← List.map_drop]
    have hll : (L.take a ++ L.drop E).length = a + (L.length - E) := by rw [List.length_append, List.length_take, List.length_drop]; omega
    have hcc := s_concat (L.take a) (L.drop E) (by rw [← List.length_append, hll]; omega)
    have hpt := hpt (L.take a ++ L.drop E) (by omega)
    have heq := heq (L.take a ++ L.drop E)
    generalize FL (L.take a ++ L.drop E) = Q at hpt heq
    generalize SB (L.take a ++ L.drop E) p = b at heq hR
    conv => whnf
    refine ⟨rfl, (show (0 : Int) ≤ 0 by decide), (show (0 : Int) ≤ (a : Int) by omega), (show (a : Int) ≤ ((L.map Stp.cells).length : Int) by omega), ?_⟩
    conv => whnf
    rw [hmin]
    refine ⟨rfl, (show (0 : Int) ≤ (E : Int) by omega), (show (E : Int) ≤ ((L.map Stp.cells).length : Int) by omega), (show ((L.map Stp.cells).length : Int) ≤ ((L.map Stp.cells).length : Int) from Int.le_refl _), ?_⟩
    conv => whnf
    refine acall.new [] [25] _ _ _ _ hcc rfl rfl rfl rfl ⟨⟨rfl, Nat.le_refl _, by rw [← hX, ← hY]; rfl⟩, trivial⟩ trivial rfl rfl ?_
    conv => whnf
    refine ⟨by kernel_rfl, fun _ => ?_⟩
    conv => whnf
    refine acall.pure _ (hpt) rfl rfl ?_
    conv => whnf
    refine acall.pure _ (heq) rfl rfl ?_
    conv => whnf
    refine ⟨by kernel_rfl, fun _ => ?_⟩
    conv => whnf
    cases b
    · conv => whnf
      rw [cond_false] at hR
      rw [hw]
      exact ⟨(L, a + n, any), [0, 1, 2], [], Sub.mk' rfl ⟨.inl rfl, ⟨rfl, rfl⟩, ⟨rfl, rfl⟩, ⟨rfl, rfl⟩, .inl rfl, .inl rfl, trivial⟩ ⟨⟨rfl, .inl rfl, trivial⟩, ⟨rfl, .inl rfl, .inl rfl, .inl rfl, .inl rfl, .inl rfl, trivial⟩, ⟨rfl, .inl rfl, trivial⟩, trivial⟩ rfl rfl, ⟨by show a + n ≤ 2097152; omega, hL, by show TG (L.length - min (a + n) L.length + 1) (min (a + n) L.length) L any = R; rw [hE, ← hR]; exact hFu (L.length - E + 1) (L.length - a) E L any (by omega) (by omega)⟩, by show L.length - (a + n) < L.length - a; omega⟩
    · conv => whnf
      rw [cond_true] at hR
      exact ⟨(L.take a ++ L.drop E, a, true), [0, 1, 2], [], Sub.mk' rfl ⟨.inl rfl, ⟨rfl, rfl⟩, ⟨rfl, rfl⟩, ⟨rfl, rfl⟩, .inl rfl, .inl rfl, trivial⟩ ⟨⟨rfl, .inl rfl, trivial⟩, ⟨rfl, .inl rfl, .inl rfl, .inl rfl, .inl rfl, .inl rfl, trivial⟩, ⟨rfl, .inl rfl, trivial⟩, trivial⟩ rfl rfl, ⟨ha, by show (L.take a ++ L.drop E).length ≤ _; rw [hll]; omega, by show TG ((L.take a ++ L.drop E).length - min a (L.take a ++ L.drop E).length + 1) (min a (L.take a ++ L.drop E).length) (L.take a ++ L.drop E) true = R; rw [Nat.min_eq_left (by rw [hll]; omega), ← hR]; exact hFu ((L.take a ++ L.drop E).length - a + 1) (L.length - a) a (L.take a ++ L.drop E) true (by omega) (by rw [hll]; omega)⟩, by show (L.take a ++ L.drop E).length - a < L.length - a; rw [hll]; omega⟩
  · have hge : L.length ≤ a := by have : decide ((a : Int) < ((L.map Stp.cells).length : Int)) = false := hge; have := of_decide_eq_false this; omega
    rw [Nat.min_eq_right hge, hEnd _ _ _ _ (Nat.le_refl _)] at hR
    subst hR
    conv => whnf
    refine ⟨fun _ => ?_, fun h => absurd rfl h⟩
    conv => whnf
    exact ⟨.inl rfl, ⟨rfl, .inl rfl, trivial⟩, ⟨rfl, .inl rfl, .inl rfl, .inl rfl, .inl rfl, .inl rfl, trivial⟩, ⟨rfl, .inl rfl, trivial⟩, trivial⟩
end Go.Proofs.YtioafhkkkmfkdaaGreatDoor.am

namespace Go.Proofs.YtioafhkkkmfkdaaGreatDoor.am
open Go Go.Proofs
set_option linter.all false

def shrinkR (o : Ob) (l : List Stp) (p : List Prn) : List Stp × Int :=
  bif (checkO o).1 != 0 then ([], (checkO o).1) else bif decide ((l.length : Int) > 1024) then ([], 3) else bif !showB o l p then ([], 261) else (shrL o p l, 0)
/-- what is known of the turns that are left -/
def ShrI (o : Ob) (p : List Prn) (R : List Stp) (n : Nat) (L : List Stp) : Prop := ∃ f, max n 1 + L.length < f ∧ shrG o p f (max n 1) L = R
theorem ShrI.start (o : Ob) (p : List Prn) (l : List Stp) : ShrI o p (shrL o p l) (l.length / 2) l := ⟨_, Nat.lt_succ_self _, rfl⟩
theorem ShrI.more {o : Ob} {p : List Prn} {R : List Stp} {n : Nat} {L : List Stp} (h : ShrI o p R n L) (hn : 1 < n) : ShrI o p R (n / 2) (turnR o p n L).1 := by
  obtain ⟨f, h1, h2⟩ := h
  rw [show max n 1 = n by omega] at h1 h2
  cases f with
  | zero => omega
  | succ f =>
    have hb : (n == 1 && !(turnR o p n L).2) = false := by
      rw [show (n == 1) = false by rw [beq_eq_false_iff_ne]; omega]; rfl
    rw [shrG_succ, hb, cond_false] at h2
    have := shr_less o p (by omega : 0 < n) hb
    exact ⟨f, by omega, h2⟩
theorem ShrI.one {o : Ob} {p : List Prn} {R : List Stp} {n : Nat} {L : List Stp} (h : ShrI o p R n L) (hn : n ≤ 1) : ShrI o p R 1 L := by
  obtain ⟨f, h1, h2⟩ := h
  rw [show max n 1 = 1 by omega] at h1 h2
  exact ⟨f, h1, h2⟩
theorem ShrI.last {o : Ob} {p : List Prn} {R : List Stp} {L : List Stp} (h : ShrI o p R 1 L) (hb : (turnR o p 1 L).2 = false) : (turnR o p 1 L).1 = R := by
  obtain ⟨f, h1, h2⟩ := h
  rw [show max 1 1 = 1 from rfl] at h1 h2
  cases f with
  | zero => omega
  | succ f =>
    rw [shrG_succ, hb] at h2
    exact h2
theorem ShrI.again {o : Ob} {p : List Prn} {R : List Stp} {L : List Stp} (h : ShrI o p R 1 L) (hb : (turnR o p 1 L).2 = true) : ShrI o p R 1 (turnR o p 1 L).1 := by
  obtain ⟨f, h1, h2⟩ := h
  rw [show max 1 1 = 1 from rfl] at h1 h2
  cases f with
  | zero => omega
  | succ f =>
    have hb2 : ((1 : Nat) == 1 && !(turnR o p 1 L).2) = false := by rw [hb]; rfl
    rw [shrG_succ, hb2, cond_false] at h2
    have := shr_less o p (by decide : 0 < 1) hb2
    exact ⟨f, by show max 1 1 + _ < f; omega, h2⟩
theorem ShrI.none {o : Ob} {p : List Prn} {R : List Stp} (h : ShrI o p R 1 []) : R = [] := by
  have hb : (turnR o p 1 []).2 = false := rfl
  exact (h.last hb).symm
theorem turnR_prop (o : Ob) (p : List Prn) {n : Nat} (hn : 0 < n) (L : List Stp) : TurnP o p L false (turnR o p n L) := turnG_prop o p hn _ _ _ _
theorem turnR_len (o : Ob) (p : List Prn) {n : Nat} (hn : 0 < n) (L : List Stp) : (turnR o p n L).1.length ≤ L.length ∧ ((turnR o p n L).2 = true → (turnR o p n L).1.length < L.length) := by
  have h := turnR_prop o p hn L
  exact ⟨h.sub.length_le, fun q => (h.less q).elim (fun w => by cases w) id⟩
theorem quo2 (n : Nat) (h : n ≤ 1048576) : IntKind.i64.wrap ((n : Int).tdiv 2) = ((n / 2 : Nat) : Int) := by
  have : (n : Int).tdiv 2 = ((n / 2 : Nat) : Int) := by
    rw [Int.tdiv_eq_ediv_of_nonneg (by omega)]; omega
  rw [this, w64 (by omega) (by omega)]
theorem shrinkR_cases (o : Ob) (l : List Stp) (p : List Prn) : ((checkO o).1 ≠ 0 ∧ shrinkR o l p = ([], (checkO o).1)) ∨ ((checkO o).1 = 0 ∧ 1024 < l.length ∧ shrinkR o l p = ([], 3)) ∨ ((checkO o).1 = 0 ∧ l.length ≤ 1024 ∧ showB o l p = false ∧ shrinkR o l p = ([], 261)) ∨ ((checkO o).1 = 0 ∧ l.length ≤ 1024 ∧ showB o l p = true ∧ shrinkR o l p = (shrL o p l, 0)) := by
  unfold shrinkR
  by_cases h : (checkO o).1 = 0
  · rw [show ((checkO o).1 != 0) = false by rw [h]; rfl, cond_false]
    by_cases h2 : l.length ≤ 1024
    · rw [decide_eq_false (by omega), cond_false]
      cases h3 : showB o l p with
      | true => exact .inr (.inr (.inr ⟨h, h2, rfl, rfl⟩))
      | false => exact .inr (.inr (.inl ⟨h, h2, rfl, rfl⟩))
    · rw [decide_eq_true (by omega), cond_true]
      exact .inr (.inl ⟨h, by omega, rfl⟩)
  · rw [show ((checkO o).1 != 0) = true by simpa using h, cond_true]
    exact .inl ⟨h, rfl⟩
set_option maxRecDepth 100000 in
set_option maxHeartbeats 2000000 in
theorem s_shrink (o : Ob) (l : List Stp) (p : List Prn) : K 25 [o.av, .tr (stepsT l), .tr (prT p)] [] (.ret (.tup [.tr (stepsT (shrinkR o l p).1), .tr (ti (shrinkR o l p).2)])) [] := by
  have hc := k_check o
  have hlm : (l.map Stp.cells).length = l.length := List.length_map ..
  have hcs := shrinkR_cases o l p
  have hpt := s_printed o l
  have heq := s_equalP (finL (newM o) l).prints p
  have hsb : decide ((finL (newM o) l).prints = p) = showB o l p := rfl
  rw [hsb] at heq
  clear hsb
  generalize (finL (newM o) l).prints = Q at hpt heq
  have hcl := s_cloneS l
  have hTn := fun n L h0 h1 h2 h3 => s_turn o L p n h0 h1 h2 h3
  have hLen := fun n L h => turnR_len o p (n := n) h L
  have hS := ShrI.start o p l
  have hMore := fun R n L h => ShrI.more (o := o) (p := p) (R := R) (n := n) (L := L) h
  have hOne := fun R n L h => ShrI.one (o := o) (p := p) (R := R) (n := n) (L := L) h
  have hLast := fun R L h => ShrI.last (o := o) (p := p) (R := R) (L := L) h
  have hAgain := fun R L h => ShrI.again (o := o) (p := p) (R := R) (L := L) h
  have hNone := fun R h => ShrI.none (o := o) (p := p) (R := R) h
  generalize shrinkR o l p = R at hcs ⊢
  generalize checkO o = C at hc hpt hcs hTn
  generalize showB o l p = b at heq hcs
  generalize shrL o p l = F at hS hcs
  generalize ShrI o p = SI at hS hMore hOne hLast hAgain hNone
  generalize turnR o p = TR at hTn hLen hMore hLast hAgain
  obtain ⟨memory, shared, locks, buffer, cores⟩ := o
  refine Ctr.of hT hmix Tryz.func25 rfl (fun _ _ => by kernel_rfl) rfl fun hok => ?_
  clear hok
  conv => whnf
  refine acall.pure _ (hc) rfl rfl fun _ => ?_
  conv => whnf
  rcases hcs with ⟨g1, rfl⟩ | ⟨g1, g2, rfl⟩ | ⟨g1, g2, rfl, rfl⟩ | ⟨g1, g2, rfl, rfl⟩
  · have e1 : (C.1 != 0) = true := by simpa using g1
    refine csplit (fun _ => ?_) (fun g => ctf e1 g)
    conv => whnf
    exact ⟨⟨.inr ⟨rfl, _, _, rfl⟩, .inl rfl, trivial⟩, trivial⟩
  all_goals
    have e1 : (C.1 != 0) = false := by rw [g1]; rfl
    refine csplit (fun g => ctf g e1) (fun _ => ?_)
    conv => whnf
  · have e2 : decide (((l.map Stp.cells).length : Int) > 1024) = true := by rw [hlm]; exact decide_eq_true (by omega)
    rw [e2]
    conv => whnf
    exact ⟨⟨.inr ⟨rfl, _, _, rfl⟩, .inl rfl, trivial⟩, trivial⟩
  all_goals
    have e2 : decide (((l.map Stp.cells).length : Int) > 1024) = false := by rw [hlm]; exact decide_eq_false (by omega)
    rw [e2]
    conv => whnf
  · refine acall.pure _ ((hpt g1 (by omega))) rfl rfl ?_
    conv => whnf
    refine acall.pure _ (heq) rfl rfl ?_
    conv => whnf
    refine ⟨by kernel_rfl, fun _ => ?_⟩
    conv => whnf
    exact ⟨⟨.inr ⟨rfl, _, _, rfl⟩, .inl rfl, trivial⟩, trivial⟩
  refine acall.pure _ ((hpt g1 (by omega))) rfl rfl ?_
  conv => whnf
  refine acall.pure _ (heq) rfl rfl ?_
  conv => whnf
  refine ⟨by kernel_rfl, fun _ => ?_⟩
  conv => whnf
  refine acall.pure _ ((hcl (by omega))) rfl rfl fun _ => ?_
  conv => whnf
  have hq0 := quo2 l.length (by omega)
  rw [← hlm] at hq0
  refine ⟨by decide, ?_⟩
  conv => whnf
  rw [hq0, hlm]
  refine LoopL.by (fun x : List Stp × Nat => ⟨[(3, .ptr 0 0), (5, .ptr 1 0), (11, .ptr 2 0), (12, .fn 64 [.ptr 2 0, .ptr 0 0, .ptr 1 0]), (13, .tr (ti x.2))], [(0, .cells 25 [.tr (intsT memory), .tr (ti shared), .tr (ti locks), .tr (ti buffer), .tr (coresT cores)]), (1, .cells 58 [.tr (prT p)]), (2, .cells 26 [.tr (stepsT x.1)])], 10⟩) (fun x => x.1.length ≤ 1024 ∧ x.2 ≤ 1024 ∧ SI F x.2 x.1) (fun x => x.2) (l, l.length / 2) [0, 1, _] []
    (Sub.mk' rfl ⟨⟨rfl, rfl⟩, ⟨rfl, rfl⟩, ⟨rfl, rfl⟩, ⟨rfl, ⟨rfl, rfl⟩, ⟨rfl, rfl⟩, ⟨rfl, rfl⟩, trivial⟩, .inl rfl, trivial⟩ ⟨⟨rfl, .inl rfl, .inl rfl, .inl rfl, .inl rfl, .inl rfl, trivial⟩, ⟨rfl, .inl rfl, trivial⟩, ⟨rfl, .inl rfl, trivial⟩, trivial⟩ rfl rfl) ⟨g2, by show l.length / 2 ≤ 1024; omega, hS⟩ ?_
  clear hS
  rintro ⟨L, n⟩ ⟨hL, hn, hS⟩ -
  simp only at hL hn hS
  conv => whnf
  refine csplit (fun h => ?_) (fun h => ?_)
  · have h : 1 < n := by have := of_decide_eq_true h; omega
    have hk := hTn n L g1 (by omega) (by omega) (by omega)
    have hl2 := (hLen n L (by omega)).1
    have hS2 := hMore F n L hS h
    generalize TR n L = S at hk hl2 hS2
    obtain ⟨L', any⟩ := S
    simp only at hk hl2 hS2
    conv => whnf
    refine acall.au [2, 0, 1] [] (hk) ?_
    intro _
    conv => whnf
    refine ⟨by decide, ?_⟩
    conv => whnf
    rw [quo2 n (by omega)]
    exact ⟨(L', n / 2), [0, 1, 2], [], Sub.mk' rfl ⟨⟨rfl, rfl⟩, ⟨rfl, rfl⟩, ⟨rfl, rfl⟩, ⟨rfl, ⟨rfl, rfl⟩, ⟨rfl, rfl⟩, ⟨rfl, rfl⟩, trivial⟩, .inl rfl, trivial⟩ ⟨⟨rfl, .inl rfl, .inl rfl, .inl rfl, .inl rfl, .inl rfl, trivial⟩, ⟨rfl, .inl rfl, trivial⟩, ⟨rfl, .inl rfl, trivial⟩, trivial⟩ rfl rfl, ⟨Nat.le_trans hl2 hL, by show n / 2 ≤ 1024; omega, hS2⟩, by show n / 2 < n; omega⟩
  · have h : n ≤ 1 := by have := of_decide_eq_false h; omega
    have hS := hOne F n L hS h
    conv => whnf
    refine ⟨fun _ => ?_, fun h => absurd rfl h⟩
    conv => whnf
    refine LoopL.by (fun L : List Stp => ⟨[(3, .ptr 0 0), (5, .ptr 1 0), (11, .ptr 2 0), (12, .fn 64 [.ptr 2 0, .ptr 0 0, .ptr 1 0])], [(0, .cells 25 [.tr (intsT memory), .tr (ti shared), .tr (ti locks), .tr (ti buffer), .tr (coresT cores)]), (1, .cells 58 [.tr (prT p)]), (2, .cells 26 [.tr (stepsT L)])], 10⟩) (fun L => L.length ≤ 1024 ∧ SI F 1 L) (fun L => L.length) L [0, 1, 2] []
      (Sub.mk' rfl ⟨⟨rfl, rfl⟩, ⟨rfl, rfl⟩, ⟨rfl, rfl⟩, ⟨rfl, ⟨rfl, rfl⟩, ⟨rfl, rfl⟩, ⟨rfl, rfl⟩, trivial⟩, trivial⟩ ⟨⟨rfl, .inl rfl, .inl rfl, .inl rfl, .inl rfl, .inl rfl, trivial⟩, ⟨rfl, .inl rfl, trivial⟩, ⟨rfl, .inl rfl, trivial⟩, trivial⟩ rfl rfl) ⟨hL, hS⟩ ?_
    clear hS hL hn h
    rintro L ⟨hL, hS⟩ -
    have hk := hTn 1 L g1 (by omega) (by omega) (by omega)
    obtain ⟨hl2, hl3⟩ := hLen 1 L (by omega)
    have hA := hAgain F L hS
    have hB := hLast F L hS
    generalize TR 1 L = S at hk hl2 hl3 hA hB
    obtain ⟨L', any⟩ := S
    simp only at hk hl2 hl3 hA hB
    conv => whnf
    refine acall.au [2, 0, 1] [] (hk) ?_
    intro _
    conv => whnf
    cases any
    · have := hB rfl
      subst this
      conv => whnf
      refine ⟨fun _ => ?_, fun h => absurd rfl h⟩
      conv => whnf
      exact ⟨⟨.inl rfl, .inl rfl, trivial⟩, trivial⟩
    · have hA := hA rfl
      have hl3 := hl3 rfl
      conv => whnf
      refine csplit (fun hz => ?_) (fun hz => ?_)
      · have hz : L'.length = 0 := by have : (((L'.map Stp.cells).length : Int) == 0) = true := hz; have := eq_of_beq this; rw [List.length_map] at this; omega
        obtain rfl := List.eq_nil_of_length_eq_zero hz
        obtain rfl := hNone F hA
        conv => whnf
        refine ⟨fun h => absurd h (by decide), fun _ => ?_⟩
        conv => whnf
        refine ⟨fun _ => ?_, fun h => absurd rfl h⟩
        conv => whnf
        exact ⟨⟨.inl rfl, .inl rfl, trivial⟩, trivial⟩
      · conv => whnf
        exact ⟨L', [0, 1, 2], [], Sub.mk' rfl ⟨⟨rfl, rfl⟩, ⟨rfl, rfl⟩, ⟨rfl, rfl⟩, ⟨rfl, ⟨rfl, rfl⟩, ⟨rfl, rfl⟩, ⟨rfl, rfl⟩, trivial⟩, trivial⟩ ⟨⟨rfl, .inl rfl, .inl rfl, .inl rfl, .inl rfl, .inl rfl, trivial⟩, ⟨rfl, .inl rfl, trivial⟩, ⟨rfl, .inl rfl, trivial⟩, trivial⟩ rfl rfl, ⟨Nat.le_trans hl2 hL, hA⟩, hl3⟩
end Go.Proofs.YtioafhkkkmfkdaaGreatDoor.am

namespace Go.Proofs.YtioafhkkkmfkdaaGreatDoor.am
open Go Go.Proofs
set_option linter.all false

set_option maxRecDepth 100000 in
theorem z_prints (a b : List Prn) : K 93 [.tr (prT a), .tr (prT b)] [] (.ret (.tr (tb (decide (a = b))))) [] := by
  have hR : decide (a.drop 0 = b.drop 0) = decide (a = b) := rfl
  generalize decide (a = b) = R at hR ⊢
  have hla : (a.map Prn.row).length = a.length := List.length_map ..
  have hlb : (b.map Prn.row).length = b.length := List.length_map ..
  refine Ctr.of hT hmix Tryz.func93 rfl (fun _ _ => by kernel_rfl) rfl fun hok => ?_
  obtain ⟨_, hl63, _⟩ := (hok.slot 0 rfl).tr.lst
  rw [hla] at hl63
  clear hok
  conv => whnf
  refine csplit (fun h1 => ?_) (fun h1 => ?_)
  · have h1 : a.length ≠ b.length := by have : (((a.map Prn.row).length : Int) != ((b.map Prn.row).length : Int)) = true := h1; rw [hla, hlb] at this; intro e; rw [e] at this; simp at this
    have : R = false := by rw [← hR]; exact decide_eq_false fun e => h1 (congrArg List.length e)
    subst this
    conv => whnf
    exact ⟨.inl rfl, trivial⟩
  have h1 : a.length = b.length := by have : (((a.map Prn.row).length : Int) != ((b.map Prn.row).length : Int)) = false := h1; rw [hla, hlb] at this; exact Int.ofNat_inj.1 (by simpa using this)
  conv => whnf
  refine LoopL.by (fun i : Nat => ⟨[(0, .tr (prT a)), (1, .tr (prT b)), (5, .tr (ti i))], [], 10⟩) (fun i => i ≤ a.length ∧ decide (a.drop i = b.drop i) = R) (fun i => a.length - i) 0 [] [] (Sub.mk' rfl ⟨.inl rfl, .inl rfl, .inl rfl, trivial⟩ trivial rfl rfl) ⟨Nat.zero_le _, hR⟩ ?_
  rintro i ⟨hi, hR⟩ -
  conv => whnf
  refine csplit (fun hlt => ?_) (fun hge => ?_)
  · have hlt : i < a.length := by have : decide ((i : Int) < ((a.map Prn.row).length : Int)) = true := hlt; have := of_decide_eq_true this; omega
    obtain ⟨x, hx⟩ : ∃ x, a[i]? = some x := ⟨_, List.getElem?_eq_getElem hlt⟩
    obtain ⟨y, hy⟩ : ∃ y, b[i]? = some y := ⟨_, List.getElem?_eq_getElem (show i < b.length by omega)⟩
    rw [eq_drop hx hy] at hR
    obtain ⟨x1, x2⟩ := x
    obtain ⟨y1, y2⟩ := y
    conv => whnf
    refine ⟨rfl, (show (0 : Int) ≤ i by omega), (show (i : Int) < ((a.map Prn.row).length : Int) by omega), fun row hr => ?_⟩
    obtain ⟨d', hd', rfl⟩ := prn_get hr
    obtain rfl := Option.some.inj (hx.symm.trans hd')
    clear hr hd'
    conv => whnf
    refine ⟨rfl, (show (0 : Int) ≤ i by omega), (show (i : Int) < ((b.map Prn.row).length : Int) by omega), fun row hr => ?_⟩
    obtain ⟨d', hd', rfl⟩ := prn_get hr
    obtain rfl := Option.some.inj (hy.symm.trans hd')
    clear hr hd'
    conv => whnf
    refine ⟨by kernel_rfl, fun _ => ?_⟩
    conv => whnf
    have hB : decide (Prn.mk x1 x2 = Prn.mk y1 y2) = (x1 == y1 && (x2 == y2 && true)) := by
      rw [Bool.and_true]
      by_cases e1 : x1 = y1 <;> by_cases e2 : x2 = y2 <;> simp [e1, e2]
    rw [hB] at hR
    refine csplit (fun g => ?_) (fun g => ?_)
    · replace g : (!(x1 == y1 && (x2 == y2 && true))) = true := g
      have g : (x1 == y1 && (x2 == y2 && true)) = false := by rw [← Bool.not_not (x1 == y1 && (x2 == y2 && true)), g]; rfl
      rw [g] at hR
      have hR : false = R := hR
      subst hR
      conv => whnf
      exact ⟨.inl rfl, trivial⟩
    · replace g : (!(x1 == y1 && (x2 == y2 && true))) = false := g
      have g : (x1 == y1 && (x2 == y2 && true)) = true := by rw [← Bool.not_not (x1 == y1 && (x2 == y2 && true)), g]; rfl
      rw [g, Bool.true_and] at hR
      conv => whnf
      exact ⟨i + 1, [], [], Sub.mk' rfl ⟨.inl rfl, .inl rfl, .inl (ti_succ hlt hl63), trivial⟩ trivial rfl rfl, ⟨hlt, hR⟩, by show a.length - (i + 1) < a.length - i; omega⟩
  · have hge : i = a.length := by have : decide ((i : Int) < ((a.map Prn.row).length : Int)) = false := hge; have := of_decide_eq_false this; omega
    subst hge
    rw [List.drop_length, h1, List.drop_length] at hR
    have hR : true = R := hR
    subst hR
    conv => whnf
    refine ⟨fun _ => ?_, fun h => absurd rfl h⟩
    conv => whnf
    exact ⟨.inl rfl, trivial⟩
set_option maxRecDepth 100000 in
set_option maxHeartbeats 2000000 in
theorem z_shows0 (o : Ob) (l : List Stp) (p : List Prn) (h0 : (checkO o).1 = 0) (hl : l.length ≤ 1048576) : K 66 [o.av, .tr (stepsT l), .tr (prT p)] [] (.ret (.tr (tb (showB o l p)))) [] := by
  have hg := check_good h0
  have hn := z_new o hg.mem hg.cores
  have hV := VInv.new h0
  have hpr0 : (newM o).prints.length = 0 := rfl
  have hF : decide ((finL (newM o) l).prints = p) = showB o l p := rfl
  generalize showB o l p = R at hF ⊢
  clear h0 hg
  generalize newM o = s0 at hn hV hpr0 hF
  obtain ⟨memory, shared, locks, buffer, cores⟩ := o
  have hlm : (l.map Stp.cells).length = l.length := List.length_map ..
  have hpm : (p.map Prn.row).length = p.length := List.length_map ..
  refine Ctr.of hT hmix Tryz.func66 rfl (fun _ _ => by kernel_rfl) rfl fun hok => ?_
  clear hok
  conv => whnf
  refine acall.pure _ (hn) rfl rfl fun _ => ?_
  conv => whnf
  refine LoopL.by (fun x : Mst × Nat => ⟨[(1, .tr (stepsT l)), (2, .tr (prT p)), (7, .ptr 0 0), (8, .tr (ti x.2))], [(0, stB x.1)], 10⟩) (fun x => VInv x.1 ∧ x.1.prints.length ≤ x.2 ∧ x.2 ≤ l.length ∧ decide ((finL x.1 (l.drop x.2)).prints = p) = R) (fun x => l.length - x.2) (s0, 0) [_] []
    (Sub.mk' rfl ⟨.inl rfl, .inl rfl, ⟨rfl, rfl⟩, .inl rfl, trivial⟩ ⟨⟨rfl, .inl rfl, .inl rfl, .inl rfl, .inl rfl, .inl rfl, .inl rfl, .inl rfl, .inl rfl, trivial⟩, trivial⟩ rfl rfl)
    ⟨hV, by show s0.prints.length ≤ 0; omega, Nat.zero_le _, hF⟩ ?_
  clear hV hpr0 hF hn
  rintro ⟨s, i⟩ ⟨hV, hpr, hi, hrun⟩ -
  simp only at hV hpr hi hrun
  conv => whnf
  refine csplit (fun hlt => ?_) (fun hge => ?_)
  · have hlt : i < l.length := by have : decide ((i : Int) < ((l.map Stp.cells).length : Int)) = true := hlt; have := of_decide_eq_true this; omega
    obtain ⟨x, hx⟩ : ∃ x, l[i]? = some x := ⟨_, List.getElem?_eq_getElem hlt⟩
    rw [finL_drop hx] at hrun
    obtain ⟨kd, c⟩ := x
    simp only at hrun
    have hst := z_stp s hV (by omega) kd c
    have hIn := stepS_inv hV kd c
    have hpn := stepS_prints s kd c
    generalize stepS s kd c = S at hst hIn hpn hrun
    obtain ⟨s', ⟨dk, dc, da, dd, dw, dp, dn⟩, e⟩ := S
    simp only at hst hIn hpn hrun
    conv => whnf
    refine ⟨rfl, (show (0 : Int) ≤ i by omega), (show (i : Int) < ((l.map Stp.cells).length : Int) by omega), fun row hrow => ?_⟩
    replace hrow : (l.map Stp.cells)[i]? = some row := hrow
    rw [List.getElem?_map, hx] at hrow
    cases hrow
    conv => whnf
    refine acall.pure _ (hst) rfl rfl ?_
    conv => whnf
    refine ⟨by kernel_rfl, fun _ => ?_⟩
    conv => whnf
    refine csplit (fun g => ?_) (fun g => ?_)
    · have g : s'.prints.length > p.length := by have : decide (((s'.prints.map Prn.row).length : Int) > ((p.map Prn.row).length : Int)) = true := g; have := of_decide_eq_true this; rw [List.length_map, hpm] at this; omega
      obtain ⟨r, hr⟩ := finL_more (l.drop (i + 1)) s'
      have : R = false := by rw [← hrun]; exact decide_eq_false fun q => by have := congrArg List.length q; rw [hr, List.length_append] at this; omega
      subst this
      conv => whnf
      exact ⟨.inl rfl, trivial⟩
    · conv => whnf
      exact ⟨(s', i + 1), [0], [], Sub.mk' rfl ⟨.inl rfl, .inl rfl, ⟨rfl, rfl⟩, .inl (ti_succ hlt (by omega)), trivial⟩ ⟨⟨rfl, .inl rfl, .inl rfl, .inl rfl, .inl rfl, .inl rfl, .inl rfl, .inl rfl, .inl rfl, trivial⟩, trivial⟩ rfl rfl, ⟨hIn, by show s'.prints.length ≤ i + 1; omega, hlt, hrun⟩, by show l.length - (i + 1) < l.length - i; omega⟩
  have hge : i = l.length := by have : decide ((i : Int) < ((l.map Stp.cells).length : Int)) = false := hge; have := of_decide_eq_false this; omega
  subst hge
  rw [List.drop_length] at hrun
  have hrun : decide (s.prints = p) = R := hrun
  have hq := z_prints s.prints p
  rw [hrun] at hq
  conv => whnf
  refine ⟨fun _ => ?_, fun h => absurd rfl h⟩
  conv => whnf
  refine acall.pure _ (hq) rfl rfl fun _ => ?_
  conv => whnf
  exact ⟨.inl rfl, trivial⟩
set_option maxRecDepth 100000 in
theorem z_shows (o : Ob) (l : List Stp) (p : List Prn) : K 27 [o.av, .tr (stepsT l), .tr (prT p)] [] (.ret (.tup [.tr (tb (showsR o l p).1), .tr (ti (showsR o l p).2)])) [] := by
  have hc := z_check o
  have hpt := z_shows0 o l p
  have hlm : (l.map Stp.cells).length = l.length := List.length_map ..
  have hS : showsR o l p = bif (checkO o).1 != 0 then (false, (checkO o).1) else bif decide ((l.length : Int) > 1048576) then (false, 3) else (showB o l p, 0) := rfl
  generalize showsR o l p = R at hS ⊢
  generalize showB o l p = b at hpt hS
  generalize checkO o = C at hc hpt hS
  obtain ⟨memory, shared, locks, buffer, cores⟩ := o
  refine Ctr.of hT hmix Tryz.func27 rfl (fun _ _ => by kernel_rfl) rfl fun hok => ?_
  clear hok
  conv => whnf
  refine acall.pure _ (hc) rfl rfl fun _ => ?_
  conv => whnf
  refine csplit (fun h1 => ?_) (fun h1 => ?_)
  case refine_2 =>
    have hne : (C.1 != 0) = true := by have : (C.1 == 0) = false := h1; show (!(C.1 == 0)) = true; rw [this]; rfl
    rw [hne] at hS
    have hS : R = (false, C.1) := hS
    subst hS
    conv => whnf
    refine csplit (fun _ => ?_) (fun g => ctf hne g)
    conv => whnf
    exact ⟨⟨.inl rfl, .inl rfl, trivial⟩, trivial⟩
  have h0 : C.1 = 0 := eq_of_beq h1
  have hze : (C.1 != 0) = false := by rw [h0]; rfl
  rw [hze] at hS
  conv => whnf
  refine csplit (fun h2 => ?_) (fun h2 => ?_)
  · rw [show decide ((l.length : Int) > 1048576) = true by rw [← hlm]; exact h2] at hS
    have hS : R = (false, 3) := hS
    subst hS
    conv => whnf
    exact ⟨⟨.inl rfl, .inl rfl, trivial⟩, trivial⟩
  have h3 : decide ((l.length : Int) > 1048576) = false := by rw [← hlm]; exact h2
  rw [h3] at hS
  have hS : R = (b, 0) := hS
  subst hS
  have hpt := hpt h0 (by have := of_decide_eq_false h3; omega)
  conv => whnf
  refine csplit (fun g => ctf g hze) (fun _ => ?_)
  conv => whnf
  refine acall.pure _ (hpt) rfl rfl fun _ => ?_
  conv => whnf
  exact ⟨⟨.inl rfl, .inl rfl, trivial⟩, trivial⟩
end Go.Proofs.YtioafhkkkmfkdaaGreatDoor.am

namespace Go.Proofs.YtioafhkkkmfkdaaGreatDoor.am
open Go Go.Proofs
set_option linter.all false

set_option maxRecDepth 100000 in
set_option maxHeartbeats 2000000 in
theorem z_turn (o : Ob) (l : List Stp) (p : List Prn) (n : Nat) (h0 : (checkO o).1 = 0) (hn : 0 < n) (hn1 : n ≤ 1048576) (hl : l.length ≤ 1048576) : K 67 [o.av, .tr (stepsT l), .tr (prT p), .tr (ti n)] [] (.ret (.tup [.tr (stepsT (turnG o p n (l.length + 1) 0 l false).1), .tr (tb (turnG o p n (l.length + 1) 0 l false).2)])) [] := by
  generalize hR : turnG o p n (l.length + 1) 0 l false = R
  have hsh := fun L hL => z_shows0 o L p h0 hL
  have hEnd := turnG_end o p n
  have hSucc := turnG_succ o p n
  have hFu := fun f g at_ l any => turnG_fuel o p hn f g at_ l any
  clear h0
  generalize showB o = SB at hsh hSucc
  generalize turnG o p n = TG at hR hEnd hSucc hFu
  obtain ⟨memory, shared, locks, buffer, cores⟩ := o
  refine Ctr.of hT hmix Tryz.func67 rfl (fun _ _ => by kernel_rfl) rfl fun hok => ?_
  clear hok
  conv => whnf
  refine LoopL.by (fun x : List Stp × Nat × Bool => ⟨[(1, .tr (stepsT x.1)), (2, .tr (prT p)), (3, .tr (ti n)), (4, .ptr 0 0), (10, .tr (tb x.2.2)), (11, .tr (ti x.2.1))], [(0, .cells 25 [.tr (intsT memory), .tr (ti shared), .tr (ti locks), .tr (ti buffer), .tr (coresT cores)])], 10⟩) (fun x => x.2.1 ≤ x.1.length ∧ x.1.length ≤ 1048576 ∧ TG (x.1.length - x.2.1 + 1) x.2.1 x.1 x.2.2 = R) (fun x => x.1.length - x.2.1) (l, 0, false) [_] []
    (Sub.mk' rfl ⟨.inl rfl, .inl rfl, .inl rfl, ⟨rfl, rfl⟩, .inl rfl, .inl rfl, trivial⟩ ⟨⟨rfl, .inl rfl, .inl rfl, .inl rfl, .inl rfl, .inl rfl, trivial⟩, trivial⟩ rfl rfl) ⟨Nat.zero_le _, hl, hR⟩ ?_
  rintro ⟨L, a, any⟩ ⟨ha, hL, hR⟩ -
  simp only at ha hL hR
  have hqm : (L.map Stp.cells).length = L.length := List.length_map ..
  conv => whnf
  refine csplit (fun hlt => ?_) (fun hge => ?_)
  · have hlt : a < L.length := by have : decide ((a : Int) < ((L.map Stp.cells).length : Int)) = true := hlt; have := of_decide_eq_true this; omega
    rw [hSucc, decide_eq_true hlt, cond_true] at hR
    obtain ⟨E, hE⟩ : ∃ E, min (a + n) L.length = E := ⟨_, rfl⟩
    have hE1 : a < E ∧ E ≤ L.length ∧ E ≤ a + n := by omega
    rw [hE] at hR
    have hmin : min (IntKind.i64.wrap ((a : Int) + (n : Int))) (((L.map Stp.cells).length : Nat) : Int) = (E : Int) := by rw [w64 (by omega) (by omega), hqm]; omega
    have hA : ((L.map Stp.cells).take a).length = a := by rw [List.length_take]; omega
    have hB : ((L.map Stp.cells).take (L.map Stp.cells).length).drop E = (L.drop E).map Stp.cells := by rw [List.take_length, List.map_drop]
    have hBl : (((L.map Stp.cells).take (L.map Stp.cells).length).drop E).length = L.length - E := by rw [hB, List.length_map, List.length_drop]
    have hcut : stepsT (L.take a ++ L.drop E) = .lst 2 16 (((([] : List (List Tr)).take 0 ++ (L.map Stp.cells).take a).take (0 + ((L.map Stp.cells).take a).length) ++ ((L.map Stp.cells).take (L.map Stp.cells).length).drop E).take (0 + ((L.map Stp.cells).take a).length + (((L.map Stp.cells).take (L.map Stp.cells).length).drop E).length)) := by
      rw [cut_take2, hB]
      show Tr.lst 2 16 ((L.take a ++ L.drop E).map Stp.cells) = _
      rw [List.map_append, List.map_take]
    have hle : 0 + ((L.map Stp.cells).take a).length + (((L.map Stp.cells).take (L.map Stp.cells).length).drop E).length ≤ ((([] : List (List Tr)).take 0 ++ (L.map Stp.cells).take a).take (0 + ((L.map Stp.cells).take a).length) ++ ((L.map Stp.cells).take (L.map Stp.cells).length).drop E).length := by rw [cut_take, List.length_append, Nat.zero_add]; exact Nat.le_refl _
    have hll : (L.take a ++ L.drop E).length = a + (L.length - E) := by rw [List.length_append, List.length_take, List.length_drop]; omega
    have hsh := hsh (L.take a ++ L.drop E) (by omega)
    generalize SB (L.take a ++ L.drop E) p = b at hsh hR
    conv => whnf
    rw [hmin]
    refine ⟨rfl, by decide, (show (0 : Int) ≤ (a : Int) by omega), (show (a : Int) ≤ ((L.map Stp.cells).length : Int) by omega), ?_⟩
    conv => whnf
    refine ⟨rfl, rfl, rfl, Nat.zero_le _, (by show (0 + ((L.map Stp.cells).take a).length) * 16 ≤ 150000000000000; rw [hA]; omega), (fun q hq => by cases hq), ?_⟩
    conv => whnf
    refine ⟨rfl, (show (0 : Int) ≤ (E : Int) by omega), (show (E : Int) ≤ ((L.map Stp.cells).length : Int) by omega), (show ((L.map Stp.cells).length : Int) ≤ ((L.map Stp.cells).length : Int) from Int.le_refl _), ?_⟩
    conv => whnf
    refine ⟨rfl, rfl, rfl, (by show 0 + ((L.map Stp.cells).take a).length ≤ (([] : List (List Tr)).take 0 ++ (L.map Stp.cells).take a).length; rw [List.take_nil, List.nil_append, Nat.zero_add]; exact Nat.le_refl _), (by show (0 + ((L.map Stp.cells).take a).length + (((L.map Stp.cells).take (L.map Stp.cells).length).drop E).length) * 16 ≤ 150000000000000; rw [hA, hBl]; omega), (fun q hq => by cases hq), ?_⟩
    conv => whnf
    refine ⟨by kernel_rfl, fun _ => ?_⟩
    conv => whnf
    refine acall.new [] [29] _ _ _ _ hsh rfl rfl rfl rfl ⟨aut, ⟨rfl, hle, hcut⟩, .inl rfl, trivial⟩ trivial rfl rfl fun _ => ?_
    conv => whnf
    cases b
    · conv => whnf
      rw [cond_false] at hR
      exact ⟨(L, E, any), [0], [], Sub.mk' rfl ⟨.inl rfl, .inl rfl, .inl rfl, ⟨rfl, rfl⟩, .inl rfl, .inl rfl, trivial⟩ ⟨⟨rfl, .inl rfl, .inl rfl, .inl rfl, .inl rfl, .inl rfl, trivial⟩, trivial⟩ rfl rfl, ⟨hE1.2.1, hL, by rw [← hR]; exact hFu (L.length - E + 1) (L.length - a) E L any (by omega) (by omega)⟩, by show L.length - E < L.length - a; omega⟩
    · conv => whnf
      rw [cond_true] at hR
      exact ⟨(L.take a ++ L.drop E, a, true), [0], [], Sub.mk' rfl ⟨⟨rfl, hle, hcut⟩, .inl rfl, .inl rfl, ⟨rfl, rfl⟩, .inl rfl, .inl rfl, trivial⟩ ⟨⟨rfl, .inl rfl, .inl rfl, .inl rfl, .inl rfl, .inl rfl, trivial⟩, trivial⟩ rfl rfl, ⟨by show a ≤ _; rw [hll]; omega, by show (L.take a ++ L.drop E).length ≤ _; rw [hll]; omega, by rw [← hR]; exact hFu ((L.take a ++ L.drop E).length - a + 1) (L.length - a) a (L.take a ++ L.drop E) true (by omega) (by rw [hll]; omega)⟩, by show (L.take a ++ L.drop E).length - a < L.length - a; rw [hll]; omega⟩
  · have hge : a = L.length := by have : decide ((a : Int) < ((L.map Stp.cells).length : Int)) = false := hge; have := of_decide_eq_false this; omega
    subst hge
    rw [hEnd _ _ _ _ (Nat.le_refl _)] at hR
    subst hR
    conv => whnf
    refine ⟨fun _ => ?_, fun h => absurd rfl h⟩
    conv => whnf
    exact ⟨⟨.inl rfl, .inl rfl, trivial⟩, trivial⟩
end Go.Proofs.YtioafhkkkmfkdaaGreatDoor.am

namespace Go.Proofs.YtioafhkkkmfkdaaGreatDoor.am
open Go Go.Proofs
set_option linter.all false

theorem ShrI.max1 {o : Ob} {p : List Prn} {R : List Stp} {n : Nat} {L : List Stp} (h : ShrI o p R n L) : ShrI o p R (max n 1) L := by
  obtain ⟨f, h1, h2⟩ := h
  exact ⟨f, by rw [show max (max n 1) 1 = max n 1 by omega]; exact h1, by rw [show max (max n 1) 1 = max n 1 by omega]; exact h2⟩
set_option maxRecDepth 100000 in
set_option maxHeartbeats 2000000 in
theorem z_shrink (o : Ob) (l : List Stp) (p : List Prn) : K 28 [o.av, .tr (stepsT l), .tr (prT p)] [] (.ret (.tup [.tr (stepsT (shrinkR o l p).1), .tr (ti (shrinkR o l p).2)])) [] := by
  have hc := z_check o
  have hlm : (l.map Stp.cells).length = l.length := List.length_map ..
  have hcs := shrinkR_cases o l p
  have hsh := z_shows0 o l p
  have hTn : ∀ (n : Nat) L, _ → _ → _ → _ → K 67 [o.av, .tr (stepsT L), .tr (prT p), .tr (ti n)] [] (.ret (.tup [.tr (stepsT (turnR o p n L).1), .tr (tb (turnR o p n L).2)])) [] := fun n L h0 h1 h2 h3 => z_turn o L p n h0 h1 h2 h3
  have hLen := fun n L h => turnR_len o p (n := n) h L
  have hS := (ShrI.start o p l).max1
  have hMore := fun R n L h h1 => (ShrI.more (o := o) (p := p) (R := R) (n := n) (L := L) h h1).max1
  have hLast := fun R L h => ShrI.last (o := o) (p := p) (R := R) (L := L) h
  have hAgain := fun R L h => ShrI.again (o := o) (p := p) (R := R) (L := L) h
  generalize shrinkR o l p = R at hcs ⊢
  generalize checkO o = C at hc hsh hcs hTn
  generalize showB o l p = b at hsh hcs
  generalize shrL o p l = F at hS hcs
  generalize ShrI o p = SI at hS hMore hLast hAgain
  generalize turnR o p = TR at hTn hLen hMore hLast hAgain
  obtain ⟨memory, shared, locks, buffer, cores⟩ := o
  refine Ctr.of hT hmix Tryz.func28 rfl (fun _ _ => by kernel_rfl) rfl fun hok => ?_
  clear hok
  conv => whnf
  refine acall.pure _ (hc) rfl rfl fun _ => ?_
  conv => whnf
  rcases hcs with ⟨g1, rfl⟩ | ⟨g1, g2, rfl⟩ | ⟨g1, g2, rfl, rfl⟩ | ⟨g1, g2, rfl, rfl⟩
  · have e1 : (C.1 != 0) = true := by simpa using g1
    refine csplit (fun _ => ?_) (fun g => ctf e1 g)
    conv => whnf
    exact ⟨⟨.inr ⟨rfl, _, _, rfl⟩, .inl rfl, trivial⟩, trivial⟩
  all_goals
    have e1 : (C.1 != 0) = false := by rw [g1]; rfl
    refine csplit (fun g => ctf g e1) (fun _ => ?_)
    conv => whnf
  · have e2 : decide (((l.map Stp.cells).length : Int) > 1024) = true := by rw [hlm]; exact decide_eq_true (by omega)
    rw [e2]
    conv => whnf
    exact ⟨⟨.inr ⟨rfl, _, _, rfl⟩, .inl rfl, trivial⟩, trivial⟩
  all_goals
    have e2 : decide (((l.map Stp.cells).length : Int) > 1024) = false := by rw [hlm]; exact decide_eq_false (by omega)
    rw [e2]
    conv => whnf
  · refine acall.pure _ ((hsh g1 (by omega))) rfl rfl fun _ => ?_
    conv => whnf
    exact ⟨⟨.inr ⟨rfl, _, _, rfl⟩, .inl rfl, trivial⟩, trivial⟩
  refine acall.pure _ ((hsh g1 (by omega))) rfl rfl fun _ => ?_
  conv => whnf
  have hq0 : max (IntKind.i64.wrap (((0 + (l.map Stp.cells).length : Nat) : Int).tdiv 2)) 1 = ((max (l.length / 2) 1 : Nat) : Int) := by
    rw [hlm, Nat.zero_add, quo2 l.length (by omega)]; omega
  refine ⟨rfl, rfl, rfl, Nat.zero_le _, (by show (0 + (l.map Stp.cells).length) * 16 ≤ _; rw [hlm]; omega), (fun q hq => by cases hq), ?_⟩
  conv => whnf
  refine ⟨by decide, ?_⟩
  conv => whnf
  rw [hq0]
  refine LoopL.by (fun x : List Stp × Nat => ⟨[(2, .tr (prT p)), (3, .ptr 0 0), (11, .tr (stepsT x.1)), (12, .tr (ti x.2))], [(0, .cells 25 [.tr (intsT memory), .tr (ti shared), .tr (ti locks), .tr (ti buffer), .tr (coresT cores)])], 10⟩) (fun x => x.1.length ≤ 1024 ∧ 1 ≤ x.2 ∧ x.2 ≤ 1024 ∧ SI F x.2 x.1) (fun x => x.2 + x.1.length) (l, max (l.length / 2) 1) [0] []
    (Sub.mk' rfl ⟨.inl rfl, ⟨rfl, rfl⟩, ⟨rfl, by simp, by simp [List.take_of_length_le]⟩, .inl rfl, trivial⟩ ⟨⟨rfl, .inl rfl, .inl rfl, .inl rfl, .inl rfl, .inl rfl, trivial⟩, trivial⟩ rfl rfl) ⟨g2, by show 1 ≤ max (l.length / 2) 1; omega, by show max (l.length / 2) 1 ≤ 1024; omega, hS⟩ ?_
  clear hS hq0
  rintro ⟨L, n⟩ ⟨hL, hn1, hn, hS⟩ -
  simp only at hL hn1 hn hS
  have hk := hTn n L g1 (by omega) (by omega) (by omega)
  obtain ⟨hl2, hl3⟩ := hLen n L (by omega)
  have hq : max (IntKind.i64.wrap ((n : Int).tdiv 2)) 1 = ((max (n / 2) 1 : Nat) : Int) := by
    rw [quo2 n (by omega)]; omega
  by_cases h1 : n = 1
  · subst h1
    have hA := hAgain F L hS
    have hB := hLast F L hS
    generalize TR 1 L = S at hk hl2 hl3 hA hB
    obtain ⟨L', any⟩ := S
    simp only at hk hl2 hl3 hA hB
    conv => whnf
    refine acall.pure _ (hk) rfl rfl fun _ => ?_
    conv => whnf
    have e1 : (((1 : Nat) : Int) == 1) = true := rfl
    cases any
    · have := hB rfl
      subst this
      exact ⟨⟨.inl rfl, .inl rfl, trivial⟩, trivial⟩
    · refine ⟨by decide, ?_⟩
      conv => whnf
      rw [hq]
      exact ⟨(L', max (1 / 2) 1), [0], [], Sub.mk' rfl ⟨.inl rfl, ⟨rfl, rfl⟩, .inl rfl, .inl rfl, trivial⟩ ⟨⟨rfl, .inl rfl, .inl rfl, .inl rfl, .inl rfl, .inl rfl, trivial⟩, trivial⟩ rfl rfl, ⟨Nat.le_trans hl2 hL, (show 1 ≤ max (1 / 2) 1 by decide), (show max (1 / 2) 1 ≤ 1024 by decide), hA rfl⟩, by have := hl3 rfl; show max (1 / 2) 1 + L'.length < 1 + L.length; omega⟩
  · have hM := hMore F n L hS (by omega)
    generalize TR n L = S at hk hl2 hl3 hM
    obtain ⟨L', any⟩ := S
    simp only at hk hl2 hl3 hM
    have e1 : ((n : Int) == 1) = false := by rw [beq_eq_false_iff_ne]; omega
    conv => whnf
    refine acall.pure _ (hk) rfl rfl fun _ => ?_
    conv => whnf
    rw [e1]
    conv => whnf
    refine ⟨by decide, ?_⟩
    conv => whnf
    rw [hq]
    exact ⟨(L', max (n / 2) 1), [0], [], Sub.mk' rfl ⟨.inl rfl, ⟨rfl, rfl⟩, .inl rfl, .inl rfl, trivial⟩ ⟨⟨rfl, .inl rfl, .inl rfl, .inl rfl, .inl rfl, .inl rfl, trivial⟩, trivial⟩ rfl rfl, ⟨Nat.le_trans hl2 hL, by show 1 ≤ max (n / 2) 1; omega, by show max (n / 2) 1 ≤ 1024; omega, hM⟩, by show max (n / 2) 1 + L'.length < n + L.length; omega⟩
end Go.Proofs.YtioafhkkkmfkdaaGreatDoor.am

namespace Go.Proofs.YtioafhkkkmfkdaaGreatDoor.am
open Go Go.Proofs
set_option linter.all false

def turnsR (o : Ob) (most : Nat) : Mst × List Stp := turnsG most (most + 1) (newM o) []
structure TuO (most : Nat) (X : Mst × List Stp) (s : Mst) (out : List Stp) (mv : Bool) : Prop where
  inv : VInv s
  prints : s.prints.length ≤ out.length
  len : out.length ≤ most
  fin : (bif mv then turnsG most (most + 1 - out.length) s out else (s, out)) = X
structure TuI (most : Nat) (Y : Mst × List Stp) (C : Nat) (n0 : Nat) (s : Mst) (out : List Stp) (k : Nat) (mv : Bool) : Prop where
  inv : VInv s
  prints : s.prints.length ≤ out.length
  len : out.length ≤ most
  cores : s.cores.length = C
  le : k ≤ C
  mv : mv = decide (n0 < out.length)
  len0 : n0 ≤ out.length
  fin : roundT most (C - k) k s out = Y
theorem TuO.go {most : Nat} {X : Mst × List Stp} {s : Mst} {out : List Stp} {mv : Bool} (h : TuO most X s out mv) (hm : mv = true) (hl : out.length < most) {s' : Mst} {out' : List Stp} {mv' : Bool} (h' : TuI most (roundT most s.cores.length 0 s out) s.cores.length out.length s' out' s.cores.length mv') : TuO most X s' out' mv' := by
  obtain ⟨i1, i2, i3, i4⟩ := h
  obtain ⟨j1, j2, j3, j4, j5, j6, j7, j8⟩ := h'
  subst hm
  rw [cond_true] at i4
  rw [Nat.sub_self] at j8
  have j8 : (s', out') = roundT most s.cores.length 0 s out := j8
  refine ⟨j1, j2, j3, ?_⟩
  have hf : most + 1 - out.length = (most - out.length) + 1 := by omega
  rw [hf] at i4
  unfold turnsG at i4
  rw [decide_eq_true hl, Bool.true_and, ← j8] at i4
  have i4 : (bif !endedB s then turnsG most (most - out.length) s' out' else (s, out)) = X := i4
  cases mv' with
  | false =>
    have j6 := of_decide_eq_false j6.symm
    have hst := round_stuck i1 hl (by rw [← j8]; show out'.length = out.length; omega)
    rw [hst.1] at i4
    have hst := hst.2
    rw [← j8] at hst
    rw [hst]; exact i4
  | true =>
    have j6 := of_decide_eq_true j6.symm
    cases he : endedB s with
    | true =>
      have hst := round_ended (most := most) s.cores.length 0 (out := out) he
      rw [← j8] at hst
      have hst := congrArg (fun q : Mst × List Stp => q.2.length) hst
      have hst : out'.length = out.length := hst
      omega
    | false =>
      rw [he] at i4
      rw [cond_true, ← i4]
      exact turnsG_fuel _ _ j1 j3 (by omega) (by omega)
theorem TuO.out {most : Nat} {X : Mst × List Stp} {s : Mst} {out : List Stp} {mv : Bool} (h : TuO most X s out mv) (hm : (mv && decide (out.length < most)) = false) : X = (s, out) := by
  obtain ⟨i1, i2, i3, i4⟩ := h
  cases mv with
  | false => exact i4.symm
  | true =>
    rw [cond_true] at i4
    rw [← i4]
    refine turnsG_end _ ?_
    have hm : decide (out.length < most) = false := hm
    rw [hm]; rfl
theorem TuI.full {most : Nat} {Y : Mst × List Stp} {C n0 : Nat} {s : Mst} {out : List Stp} {k : Nat} {mv : Bool} (h : TuI most Y C n0 s out k mv) (hf : ¬out.length < most) : TuI most Y C n0 s out C mv := by
  obtain ⟨j1, j2, j3, j4, j5, j6, j7, j8⟩ := h
  refine ⟨j1, j2, j3, j4, Nat.le_refl _, j6, j7, ?_⟩
  rw [Nat.sub_self]
  rw [← j8]
  cases hq : C - k with
  | zero => rfl
  | succ q =>
    unfold roundT
    rw [decide_eq_false hf]; rfl
theorem TuI.skip {most : Nat} {Y : Mst × List Stp} {C n0 : Nat} {s : Mst} {out : List Stp} {k : Nat} {mv : Bool} (h : TuI most Y C n0 s out k mv) (hk : k < C) (hl : out.length < most) (hn : chooseT s k = none) : TuI most Y C n0 s out (k + 1) mv := by
  obtain ⟨j1, j2, j3, j4, j5, j6, j7, j8⟩ := h
  refine ⟨j1, j2, j3, j4, hk, j6, j7, ?_⟩
  rw [← j8, show C - k = (C - (k + 1)) + 1 by omega]
  conv => rhs; unfold roundT
  rw [decide_eq_true hl, hn]; rfl
theorem TuI.step {most : Nat} {Y : Mst × List Stp} {C n0 : Nat} {s : Mst} {out : List Stp} {k : Nat} {mv : Bool} (h : TuI most Y C n0 s out k mv) (hk : k < C) (hl : out.length < most) {x : Stp} (hn : chooseT s k = some x) : TuI most Y C n0 (stepS s x.kind x.core).1 (out ++ [x]) (k + 1) true := by
  obtain ⟨j1, j2, j3, j4, j5, j6, j7, j8⟩ := h
  have hpr := stepS_prints s x.kind x.core
  have hlen : (out ++ [x]).length = out.length + 1 := by rw [List.length_append, List.length_singleton]
  refine ⟨stepS_inv j1 _ _, by omega, by omega, by rw [stepS_len]; exact j4, hk, (decide_eq_true (by omega)).symm, by omega, ?_⟩
  rw [← j8, show C - k = (C - (k + 1)) + 1 by omega]
  conv => rhs; unfold roundT
  rw [decide_eq_true hl, hn]; rfl
set_option maxRecDepth 100000 in
set_option maxHeartbeats 8000000 in
theorem s_turns (o : Ob) (most : Nat) (h0 : (checkO o).1 = 0) (hm : most ≤ 1048576) : K 12 [o.av, .tr (ti most)] [] (.ret (.tup [.tr (stepsT (turnsR o most).2), .tr (tb (endedB (turnsR o most).1)), .tr (ti 0)])) [] := by
  have hn1 := s_begun o most h0 hm
  have hV := VInv.new h0
  have hpr0 : (newM o).prints.length = 0 := rfl
  generalize hX : turnsR o most = X
  unfold turnsR at hX
  clear h0
  generalize newM o = s0 at hn1 hV hpr0 hX
  obtain ⟨memory, shared, locks, buffer, cores⟩ := o
  refine Ctr.cut [15] hT hmix Tryz.func12 rfl (fun _ _ => by kernel_rfl) rfl fun hok => ?_
  clear hok
  conv => whnf
  refine acall.new [] [] _ _ _ _ hn1 rfl rfl rfl rfl aut aut rfl rfl fun _ => ?_
  conv => whnf
  refine LoopL.by (fun x : Mst × List Stp × Bool => ⟨[(1, .tr (ti most)), (7, .ptr 0 0), (9, .sl 4 x.2.1.length), (10, .tr (tb x.2.2))], [(0, maB x.1), (1, csB x.1.cores), (2, meB x.1.mem), (3, prB x.1.prints), (4, stV x.2.1)], 10⟩) (fun x => TuO most X x.1 x.2.1 x.2.2) (fun x => 2 * (most - x.2.1.length) + x.2.2.toNat) (s0, [], true) [_, _, _, _] [4]
    (Sub.mk' rfl ⟨.inl rfl, ⟨rfl, rfl⟩, ⟨rfl, rfl, rfl, rfl⟩, .inl rfl, trivial⟩ ⟨⟨rfl, .inl rfl, .inl rfl, .inl rfl, .inl rfl, .inl rfl, ⟨rfl, rfl⟩, ⟨rfl, rfl⟩, ⟨rfl, rfl⟩, trivial⟩, ⟨rfl, rfl, rfl, rfl, .inl rfl⟩, ⟨rfl, rfl, rfl, rfl⟩, ⟨rfl, rfl, rfl, rfl⟩, ⟨rfl, _, _, _, rfl, by decide⟩, trivial⟩ rfl rfl)
    ⟨hV, by show s0.prints.length ≤ 0; omega, Nat.zero_le _, hX⟩ ?_
  clear hX hV hpr0 hn1
  rintro ⟨s, out, mv⟩ hO -
  simp only at hO
  have hlen := hO.len
  have h16 : ∀ c ∈ s.cores, c.regs.length = 16 := fun c hc => by obtain ⟨k, hk, rfl⟩ := List.mem_iff_getElem.1 hc; obtain ⟨r, hr⟩ := hO.inv.cor (List.getElem?_eq_getElem hk); exact (hO.inv.core k _ r (List.getElem?_eq_getElem hk) hr).regs
  have hend := s_ended s h16
  cases mv
  · have hX := hO.out rfl
    subst hX
    conv => whnf
    refine ⟨fun _ => ?_, fun h => absurd rfl h⟩
    conv => whnf
    refine acall.au [0, 1, 2, 3] [] hend ?_
    intro _
    conv => whnf
    exact ⟨⟨⟨rfl, by rw [List.length_map]; exact Nat.le_refl _, by rw [List.take_of_length_le (by simp)]⟩, .inl rfl, .inl rfl, trivial⟩, trivial⟩
  conv => whnf
  refine csplit (fun g1 => ?_) (fun g1 => ?_)
  case refine_2 =>
    have hge : ¬out.length < most := by have : decide ((out.length : Int) < (most : Int)) = false := g1; have := of_decide_eq_false this; omega
    have hX := hO.out (by rw [decide_eq_false hge]; rfl)
    subst hX
    conv => whnf
    refine ⟨fun _ => ?_, fun h => absurd rfl h⟩
    conv => whnf
    refine acall.au [0, 1, 2, 3] [] hend ?_
    intro _
    conv => whnf
    exact ⟨⟨⟨rfl, by rw [List.length_map]; exact Nat.le_refl _, by rw [List.take_of_length_le (by simp)]⟩, .inl rfl, .inl rfl, trivial⟩, trivial⟩
  have hlt : out.length < most := by have : decide ((out.length : Int) < (most : Int)) = true := g1; have := of_decide_eq_true this; omega
  clear hend h16 g1
  have hk8 : s.cores.length ≤ 8 := by rw [hO.inv.len]; exact (check_good hO.inv.chk).cores
  have hI0 : TuI most (roundT most s.cores.length 0 s out) s.cores.length out.length s out 0 false := ⟨hO.inv, hO.prints, hO.len, rfl, Nat.zero_le _, (decide_eq_false (Nat.lt_irrefl _)).symm, Nat.le_refl _, rfl⟩
  have hGo := fun s' out' mv' h' => hO.go (s' := s') (out' := out') (mv' := mv') rfl hlt h'
  generalize hC : s.cores.length = C at hI0 hGo hk8
  generalize roundT most C 0 s out = Y at hI0 hGo
  clear hC
  have hmv : ∀ {s' : Mst} {out' : List Stp} {k : Nat} {mv' : Bool}, TuI most Y C out.length s' out' k mv' → 2 * (most - out'.length) + mv'.toNat < 2 * (most - out.length) + 1 := by
    intro s' out' k mv' h
    have h1 := h.mv
    have h2 := h.len0
    have h3 := h.len
    cases mv' with
    | true => have := of_decide_eq_true h1.symm; show 2 * (most - out'.length) + 1 < _; omega
    | false => show 2 * (most - out'.length) + 0 < _; omega
  conv => whnf
  refine LoopL.by (fun x : Mst × List Stp × Nat × Bool => ⟨[(1, .tr (ti most)), (7, .ptr 0 0), (9, .sl 4 x.2.1.length), (10, .tr (tb x.2.2.2)), (11, .ptr 5 0)], [(0, maB x.1), (1, csB x.1.cores), (2, meB x.1.mem), (3, prB x.1.prints), (4, stV x.2.1), (5, ceB x.2.2.1)], 10⟩) (fun x => TuI most Y C out.length x.1 x.2.1 x.2.2.1 x.2.2.2) (fun x => C - x.2.2.1) (s, out, 0, false) [0, 1, 2, 3, 4, _] []
    (Sub.mk' rfl ⟨.inl rfl, ⟨rfl, rfl⟩, ⟨rfl, rfl⟩, .inl rfl, ⟨rfl, rfl⟩, trivial⟩ ⟨⟨rfl, .inl rfl, .inl rfl, .inl rfl, .inl rfl, .inl rfl, ⟨rfl, rfl⟩, ⟨rfl, rfl⟩, ⟨rfl, rfl⟩, trivial⟩, ⟨rfl, rfl, rfl, rfl, .inl rfl⟩, ⟨rfl, rfl, rfl, rfl⟩, ⟨rfl, rfl, rfl, rfl⟩, ⟨rfl, rfl, rfl, rfl⟩, ⟨rfl, .inl rfl, trivial⟩, trivial⟩ rfl rfl)
    hI0 ?_
  clear hI0
  rintro ⟨s, o2, k, mv⟩ hI -
  simp only at hI
  have hlen2 := hI.len
  have hco := s_cores s
  rw [hI.cores] at hco
  have hkC := hI.le
  conv => whnf
  refine acall.au [0, 1, 2, 3] [] hco ?_
  by_cases hkC : k < C
  case neg =>
    have hkC : k = C := by omega
    subst hkC
    have c1 : decide ((k : Int) < (k : Int)) = false := decide_eq_false (by omega)
    conv => whnf
    (repeat (refine csplit (fun g => ctf g c1) (fun _ => ?_); conv => whnf))
    refine ⟨by kernel_rfl, fun _ => ?_⟩
    conv => whnf
    (repeat (refine csplit (fun g => ctf g c1) (fun _ => ?_); conv => whnf))
    refine ⟨fun _ => ?_, fun h => absurd rfl h⟩
    conv => whnf
    exact ⟨(s, o2, mv), [0, 1, 2, 3, 4], [], Sub.mk' rfl ⟨.inl rfl, ⟨rfl, rfl⟩, ⟨rfl, rfl⟩, .inl rfl, trivial⟩ ⟨⟨rfl, .inl rfl, .inl rfl, .inl rfl, .inl rfl, .inl rfl, ⟨rfl, rfl⟩, ⟨rfl, rfl⟩, ⟨rfl, rfl⟩, trivial⟩, ⟨rfl, rfl, rfl, rfl, .inl rfl⟩, ⟨rfl, rfl, rfl, rfl⟩, ⟨rfl, rfl, rfl, rfl⟩, ⟨rfl, rfl, rfl, rfl⟩, trivial⟩ rfl rfl, hGo _ _ _ hI, hmv hI⟩
  have c1 : decide ((k : Int) < (C : Int)) = true := decide_eq_true (by omega)
  conv => whnf
  (repeat (refine csplit (fun _ => ?_) (fun g => ctf c1 g); conv => whnf))
  refine ⟨by kernel_rfl, fun _ => ?_⟩
  conv => whnf
  (repeat (refine csplit (fun _ => ?_) (fun g => ctf c1 g); conv => whnf))
  refine csplit (fun g2 => ?_) (fun g2 => ?_)
  case refine_2 =>
    have hge : ¬o2.length < most := by have : decide ((o2.length : Int) < (most : Int)) = false := g2; have := of_decide_eq_false this; omega
    have hI := hI.full hge
    conv => whnf
    refine ⟨fun _ => ?_, fun h => absurd rfl h⟩
    conv => whnf
    exact ⟨(s, o2, mv), [0, 1, 2, 3, 4], [], Sub.mk' rfl ⟨.inl rfl, ⟨rfl, rfl⟩, ⟨rfl, rfl⟩, .inl rfl, trivial⟩ ⟨⟨rfl, .inl rfl, .inl rfl, .inl rfl, .inl rfl, .inl rfl, ⟨rfl, rfl⟩, ⟨rfl, rfl⟩, ⟨rfl, rfl⟩, trivial⟩, ⟨rfl, rfl, rfl, rfl, .inl rfl⟩, ⟨rfl, rfl, rfl, rfl⟩, ⟨rfl, rfl, rfl, rfl⟩, ⟨rfl, rfl, rfl, rfl⟩, trivial⟩ rfl rfl, hGo _ _ _ hI, hmv hI⟩
  have hlt2 : o2.length < most := by have : decide ((o2.length : Int) < (most : Int)) = true := g2; have := of_decide_eq_true this; omega
  clear g2
  have hre := s_ready s hI.inv
  have hfi := ready_find s k
  generalize hL : readyL s = L at hre hfi
  have hix := s_idxStp L k
  have hcase := idxP_find (ofCore k) L 0
  rw [hfi] at hcase
  generalize idxP (ofCore k) L 0 = J at hix hcase
  conv => whnf
  refine acall.au [0, 1, 2, 3] [] hre ?_
  intro _
  conv => whnf
  refine acall.au [5] [] hix ?_
  intro _
  conv => whnf
  rcases hcase with ⟨rfl, hch⟩ | ⟨j, x, rfl, hj, hch⟩
  · have hI2 := hI.skip hkC hlt2 hch
    conv => whnf
    refine ⟨fun _ => ?_, fun h => absurd rfl h⟩
    conv => whnf
    exact ⟨(s, o2, k + 1, mv), [0, 1, 2, 3, 4, _], [], Sub.mk' rfl ⟨.inl rfl, ⟨rfl, rfl⟩, ⟨rfl, rfl⟩, .inl rfl, ⟨rfl, rfl⟩, trivial⟩ ⟨⟨rfl, .inl rfl, .inl rfl, .inl rfl, .inl rfl, .inl rfl, ⟨rfl, rfl⟩, ⟨rfl, rfl⟩, ⟨rfl, rfl⟩, trivial⟩, ⟨rfl, rfl, rfl, rfl, .inl rfl⟩, ⟨rfl, rfl, rfl, rfl⟩, ⟨rfl, rfl, rfl, rfl⟩, ⟨rfl, rfl, rfl, rfl⟩, ⟨rfl, .inl (ti_succ hkC (by omega)), trivial⟩, trivial⟩ rfl rfl, hI2, by show C - (k + 1) < C - k; omega⟩
  · have hI2 := hI.step hkC hlt2 hch
    rw [Nat.zero_add] at hix
    have hjl : j < L.length := (List.getElem?_eq_some_iff.1 hj).1
    obtain ⟨kd, c⟩ := x
    have hda : (o2.map Stp.cells).take o2.length ++ [[tu kd, ti c]] = (o2 ++ [Stp.mk kd c]).map Stp.cells := by rw [List.take_of_length_le (by simp), List.map_append]; rfl
    have hst := k_step s hI.inv (by have := hI.prints; omega) kd c
    simp only at hI2
    generalize stepS s kd c = S at hst hI2
    obtain ⟨s', ⟨dk, dc, da, dd, dw, dp, dn⟩, e⟩ := S
    simp only at hst hI2
    conv => whnf
    refine CutL.by (fun _ : Unit => ⟨[(1, .tr (ti most)), (7, .ptr 0 0), (9, .sl 4 o2.length), (11, .ptr 5 0), (12, .tr (stepsT L)), (13, .tr (ti j))], [(0, maB s'), (1, csB s'.cores), (2, meB s'.mem), (3, prB s'.prints), (4, stV o2), (5, ceB k)], 10⟩) (fun _ => True) ?_ ?_
    · conv => whnf
      refine ⟨rfl, (show (0 : Int) ≤ ((0 + j : Nat) : Int) by omega), (show ((0 + j : Nat) : Int) < ((L.map Stp.cells).length : Int) by rw [List.length_map]; omega), fun row hrow => ?_⟩
      replace hrow : (L.map Stp.cells)[0 + j]? = some row := hrow
      rw [Nat.zero_add, List.getElem?_map, hj] at hrow
      cases hrow
      conv => whnf
      rcases hst with hst | hst
      · refine acall.au [0, 1, 2, 3] [] hst ?_
        intro _
        conv => whnf
        exact ⟨(), [0, 1, 2, 3, 4, 5], [], Sub.mk' rfl ⟨.inl rfl, ⟨rfl, rfl⟩, ⟨rfl, rfl⟩, ⟨rfl, rfl⟩, .inl rfl, .inl (congrArg (fun n : Nat => ti (n : Int)) (Nat.zero_add j)), trivial⟩ ⟨⟨rfl, .inl rfl, .inl rfl, .inl rfl, .inl rfl, .inl rfl, ⟨rfl, rfl⟩, ⟨rfl, rfl⟩, ⟨rfl, rfl⟩, trivial⟩, ⟨rfl, rfl, rfl, rfl, .inl rfl⟩, ⟨rfl, rfl, rfl, rfl⟩, ⟨rfl, rfl, rfl, rfl⟩, ⟨rfl, rfl, rfl, rfl⟩, ⟨rfl, .inl rfl, trivial⟩, trivial⟩ rfl rfl, trivial⟩
      · refine acall.new [0, 1, 2, 3] [] _ _ _ _ hst rfl rfl rfl rfl aut aut rfl rfl fun _ => ?_
        conv => whnf
        exact ⟨(), [0, 1, 2, _, 4, 5], [], Sub.mk' rfl ⟨.inl rfl, ⟨rfl, rfl⟩, ⟨rfl, rfl⟩, ⟨rfl, rfl⟩, .inl rfl, .inl (congrArg (fun n : Nat => ti (n : Int)) (Nat.zero_add j)), trivial⟩ ⟨⟨rfl, .inl rfl, .inl rfl, .inl rfl, .inl rfl, .inl rfl, ⟨rfl, rfl⟩, ⟨rfl, rfl⟩, ⟨rfl, rfl⟩, trivial⟩, ⟨rfl, rfl, rfl, rfl, .inl rfl⟩, ⟨rfl, rfl, rfl, rfl⟩, ⟨rfl, rfl, rfl, rfl⟩, ⟨rfl, rfl, rfl, rfl⟩, ⟨rfl, .inl rfl, trivial⟩, trivial⟩ rfl rfl, trivial⟩
    rintro - - -
    conv => whnf
    refine ⟨rfl, (show (0 : Int) ≤ (j : Int) by omega), (show (j : Int) < ((L.map Stp.cells).length : Int) by rw [List.length_map]; omega), fun row hrow => ?_⟩
    replace hrow : (L.map Stp.cells)[j]? = some row := hrow
    rw [List.getElem?_map, hj] at hrow
    cases hrow
    conv => whnf
    refine ⟨rfl, rfl, rfl, (by rw [List.length_map]; exact Nat.le_refl _), (show (o2.length + 1) * 16 ≤ 150000000000000 by omega), fun q hq => ?_, ?_⟩
    · cases hq with
      | head => exact Nat.ne_of_beq_eq_false rfl
      | tail _ h => cases h
    conv => whnf
    exact ⟨(s', o2 ++ [Stp.mk kd c], k + 1, true), [0, 1, 2, 3, _, _], [], Sub.mk' rfl ⟨.inl rfl, ⟨rfl, rfl⟩, ⟨rfl, by simp⟩, .inl rfl, ⟨rfl, rfl⟩, trivial⟩ ⟨⟨rfl, .inl rfl, .inl rfl, .inl rfl, .inl rfl, .inl rfl, ⟨rfl, rfl⟩, ⟨rfl, rfl⟩, ⟨rfl, rfl⟩, trivial⟩, ⟨rfl, rfl, rfl, rfl, .inl rfl⟩, ⟨rfl, rfl, rfl, rfl⟩, ⟨rfl, rfl, rfl, rfl⟩, ⟨rfl, rfl, rfl, hda⟩, ⟨rfl, .inl (ti_succ hkC (by omega)), trivial⟩, trivial⟩ rfl rfl, hI2, by show C - (k + 1) < C - k; omega⟩
end Go.Proofs.YtioafhkkkmfkdaaGreatDoor.am

namespace Go.Proofs.YtioafhkkkmfkdaaGreatDoor.am
open Go Go.Proofs
set_option linter.all false

theorem str_get {l : List ByteArray} {i : Nat} {row : List Tr} (h : (l.map srow)[i]? = some row) : ∃ x, l[i]? = some x ∧ row = srow x := by
  rw [List.getElem?_map, Option.map_eq_some_iff] at h
  obtain ⟨x, h1, rfl⟩ := h
  exact ⟨x, h1, rfl⟩
theorem parG_drop {W : List ByteArray} {i : Nat} {w : ByteArray} {out : List Stp} {at_ : Int} (h : W[i]? = some w) : parG (W.drop i) out at_ = bif !(wordR w).2.2 || lastIs out (wordR w).1 then ([], errSched, at_) else bif decide ((out.length : Int) + (wordR w).2.1 > 1048576) then ([], 3, 0) else parG (W.drop (i + 1)) (out ++ List.replicate (wordR w).2.1.toNat (wordR w).1) (at_ + w.size + 1) := by
  have hlt := (List.getElem?_eq_some_iff.1 h).1
  rw [List.drop_eq_getElem_cons hlt, (List.getElem?_eq_some_iff.1 h).2]
  rfl
theorem sp_len (s : ByteArray) : (splitBl s).length ≤ s.size + 1 := by
  rw [splitBl_len]
  have := count_size s
  omega
theorem sp_size (s : ByteArray) : ∀ w ∈ splitBl s, w.size ≤ s.size := splitB_size blank _ s
set_option maxRecDepth 100000 in
set_option maxHeartbeats 4000000 in
theorem s_parse (s : ByteArray) (hs : s.size ≤ 4194304) : K 19 [.tr (ts s)] [] (.ret (.tup [.tr (stepsT (parT s).1), .tr (ti (parT s).2.1), .tr (ti (parT s).2.2)])) [] := by
  have hsp := k_split s (by omega)
  have hWl := sp_len s
  have hWz := sp_size s
  generalize hP : parT s = P
  unfold parT at hP
  generalize splitBl s = W at hsp hWl hWz hP
  have hWm : (W.map srow).length = W.length := List.length_map ..
  refine Ctr.of hT hmix Tryz.func19 rfl (fun _ _ => by kernel_rfl) rfl fun hok => ?_
  clear hok
  conv => whnf
  refine csplit (fun h1 => ?_) (fun h1 => ?_)
  · replace h1 : (s.toList == emB.toList) = true := h1
    rw [h1] at hP
    have hP : (([] : List Stp), (0 : Int), (0 : Int)) = P := hP
    subst hP
    conv => whnf
    exact ⟨⟨.inr ⟨rfl, _, _, rfl⟩, .inl rfl, .inl rfl, trivial⟩, trivial⟩
  replace h1 : (s.toList == emB.toList) = false := h1
  rw [h1] at hP
  have hP : parG W [] 0 = P := hP
  conv => whnf
  refine acall.pure _ (hsp) rfl rfl fun _ => ?_
  conv => whnf
  refine LoopL.by (fun x : List Stp × (Nat × Nat) => ⟨[(5, .sl 0 x.1.length), (6, .tr (ti x.2.2)), (15, .tr (strsT W)), (16, .tr (ti W.length)), (17, .tr (ti x.2.1))], [(0, stV x.1)], 10⟩) (fun x => x.2.1 ≤ W.length ∧ x.1.length ≤ 1048576 ∧ x.2.2 ≤ x.2.1 * 4194305 ∧ parG (W.drop x.2.1) x.1 x.2.2 = P) (fun x => W.length - x.2.1) ([], 0, 0) [] [0]
    (Sub.mk' rfl ⟨⟨rfl, rfl, rfl, rfl⟩, .inl rfl, .inl rfl, .inl (by rw [← hWm]), .inl rfl, trivial⟩ ⟨⟨rfl, _, _, _, rfl, by decide⟩, trivial⟩ rfl rfl) ⟨Nat.zero_le _, Nat.zero_le _, Nat.zero_le _, hP⟩ ?_
  rintro ⟨out, i, a⟩ ⟨hi, hol, ha, hS⟩ -
  simp only at hi hol ha hS
  conv => whnf
  refine csplit (fun hlt => ?_) (fun hge => ?_)
  · have hlt : i < W.length := by have : decide ((i : Int) < (W.length : Int)) = true := hlt; have := of_decide_eq_true this; omega
    obtain ⟨w, hw⟩ : ∃ w, W[i]? = some w := ⟨W[i], by simp [hlt]⟩
    have hwz := hWz w (List.mem_of_getElem? hw)
    rw [parG_drop hw] at hS
    have hsw := s_word w (by omega)
    have hbk := @word_backR w
    generalize wordR w = r at hS hsw hbk
    obtain ⟨⟨xk, xc⟩, n, okw⟩ := r
    simp only at hS hsw hbk
    have hai : IntKind.i64.wrap ((a : Int) + IntKind.i64.wrap ((w.size : Int) + 1)) = ((a + w.size + 1 : Nat) : Int) := by
      have h3 : a ≤ 17592194433025 := by omega
      rw [w64 (n := (w.size : Int) + 1) (by omega) (by omega), w64 (by omega) (by omega)]; omega
    have ha' : a + w.size + 1 ≤ (i + 1) * 4194305 := by omega
    conv => whnf
    refine ⟨rfl, (show (0 : Int) ≤ i by omega), (show (i : Int) < (W.map srow).length by rw [hWm]; omega), fun row hr => ?_⟩
    obtain ⟨w', hw', rfl⟩ := str_get hr
    obtain rfl : w = w' := Option.some.inj (hw.symm.trans hw')
    clear hr hw'
    conv => whnf
    refine acall.pure _ (hsw) rfl rfl fun _ => ?_
    conv => whnf
    cases okw
    · have hS : (([] : List Stp), errSched, (a : Int)) = P := hS
      subst hS
      conv => whnf
      refine ⟨by kernel_rfl, fun _ => ?_⟩
      conv => whnf
      exact ⟨⟨.inr ⟨rfl, _, _, rfl⟩, .inl rfl, .inl rfl, trivial⟩, trivial⟩
    obtain ⟨m, hn, hm1, hm2, _, _⟩ := hbk rfl
    subst hn
    have hS : (bif lastIs out ⟨xk, xc⟩ then ([], errSched, (a : Int)) else bif decide ((out.length : Int) + (m : Int) > 1048576) then ([], 3, 0) else parG (W.drop (i + 1)) (out ++ List.replicate (m : Int).toNat ⟨xk, xc⟩) (a + w.size + 1)) = P := hS
    rw [Int.toNat_natCast] at hS
    have hom : IntKind.i64.wrap ((out.length : Int) + (m : Int)) = ((out.length + m : Nat) : Int) := by rw [w64 (by omega) (by omega)]; omega
    cases hd : decide ((out.length : Int) > 0) with
    | false =>
      have h0 : out = [] := List.eq_nil_of_length_eq_zero (by have := of_decide_eq_false hd; omega)
      rw [show lastIs out ⟨xk, xc⟩ = false by rw [h0]; rfl, cond_false] at hS
      clear h0
      conv => whnf
      rw [hd]
      conv => whnf
      refine ⟨by kernel_rfl, fun _ => ?_⟩
      conv => whnf
      rw [hom]
      cases hg : decide (((out.length + m : Nat) : Int) > 1048576) with
      | true =>
        have hg' := of_decide_eq_true hg
        rw [decide_eq_true (show (out.length : Int) + (m : Int) > 1048576 by omega)] at hS
        have hS : (([] : List Stp), (3 : Int), (0 : Int)) = P := hS
        subst hS
        conv => whnf
        exact ⟨⟨.inr ⟨rfl, _, _, rfl⟩, .inl rfl, .inl rfl, trivial⟩, trivial⟩
      | false =>
        have hg' := of_decide_eq_false hg
        rw [decide_eq_false (show ¬ ((out.length : Int) + (m : Int) > 1048576) by omega)] at hS
        have hS : parG (W.drop (i + 1)) (out ++ List.replicate m ⟨xk, xc⟩) (a + w.size + 1) = P := hS
        conv => whnf
        refine LoopL.by (fun j : Nat => ⟨[(5, .sl 0 (out.length + j)), (6, .tr (ti a)), (8, .tr (ts w)), (9, .ptr 1 0), (15, .tr (strsT W)), (16, .tr (ti W.length)), (17, .tr (ti i)), (50, .tr (ti m)), (51, .tr (ti j))], [(0, stV (out ++ List.replicate j ⟨xk, xc⟩)), (1, .cells 51 [.tr (tu xk), .tr (ti xc)])], 10⟩) (fun j => j ≤ m) (fun j => m - j) 0 [0, _] []
          (Sub.mk' rfl ⟨⟨rfl, rfl⟩, .inl rfl, .inl rfl, ⟨rfl, rfl⟩, .inl rfl, .inl rfl, .inl rfl, .inl rfl, .inl rfl, trivial⟩ ⟨⟨rfl, rfl, rfl, by rw [List.replicate_zero, List.append_nil]⟩, ⟨rfl, .inl rfl, .inl rfl, trivial⟩, trivial⟩ rfl rfl) (Nat.zero_le _) ?_
        rintro j hj -
        have hjl : (out ++ List.replicate j (Stp.mk xk xc)).length = out.length + j := by simp
        have hda : ((out ++ List.replicate j (Stp.mk xk xc)).map Stp.cells).take (out.length + j) ++ [[tu xk, ti xc]] = (out ++ List.replicate (j + 1) (Stp.mk xk xc)).map Stp.cells := by
          rw [List.take_of_length_le (by rw [List.length_map, hjl]; exact Nat.le_refl _), List.replicate_succ', ← List.append_assoc, List.map_append (l₁ := out ++ _)]; rfl
        conv => whnf
        refine csplit (fun hjlt => ?_) (fun hjge => ?_)
        · have hjlt : j < m := by have : decide ((j : Int) < (m : Int)) = true := hjlt; have := of_decide_eq_true this; omega
          conv => whnf
          refine ⟨rfl, rfl, rfl, (by rw [List.length_map, hjl]; exact Nat.le_refl _), (show (out.length + j + 1) * 16 ≤ 150000000000000 by omega), fun q hq => ?_, ?_⟩
          · cases hq with
            | head => exact Nat.ne_of_beq_eq_false rfl
            | tail _ h => cases h
          conv => whnf
          exact ⟨j + 1, [_, 1], [], Sub.mk' rfl ⟨⟨rfl, rfl⟩, .inl rfl, .inl rfl, ⟨rfl, rfl⟩, .inl rfl, .inl rfl, .inl rfl, .inl rfl, .inl (ti_succ hjlt (by omega)), trivial⟩ ⟨⟨rfl, rfl, rfl, hda⟩, ⟨rfl, .inl rfl, .inl rfl, trivial⟩, trivial⟩ rfl rfl, hjlt, by omega⟩
        · have hjge : j = m := by have : decide ((j : Int) < (m : Int)) = false := hjge; have := of_decide_eq_false this; omega
          subst hjge
          conv => whnf
          refine ⟨fun _ => ?_, fun h => absurd rfl h⟩
          conv => whnf
          exact ⟨(out ++ List.replicate j ⟨xk, xc⟩, i + 1, a + w.size + 1), [0], [], Sub.mk' rfl ⟨⟨rfl, hjl.symm⟩, .inl (congrArg ti hai), .inl rfl, .inl rfl, .inl (ti_succ hlt (by omega)), trivial⟩ ⟨⟨rfl, rfl, rfl, rfl⟩, trivial⟩ rfl rfl, ⟨hlt, by show (out ++ _).length ≤ 1048576; rw [hjl]; omega, ha', by exact_mod_cast hS⟩, by show W.length - (i + 1) < W.length - i; omega⟩
    | true =>
      have h0 := of_decide_eq_true hd
      obtain ⟨⟨yk, yc⟩, hy⟩ : ∃ y, out[out.length - 1]? = some y := ⟨_, List.getElem?_eq_getElem (by omega)⟩
      have hla : lastIs out ⟨xk, xc⟩ = ((yk == xk) && ((yc == xc) && true)) := by
        unfold lastIs
        rw [List.getLast?_eq_getElem?, hy]
        by_cases e1 : yk = xk <;> by_cases e2 : yc = xc <;> simp [e1, e2]
      have hwl : IntKind.i64.wrap ((out.length : Int) - 1) = ((out.length - 1 : Nat) : Int) := by rw [w64 (by omega) (by omega)]; omega
      have yget : ∀ row, (out.map Stp.cells)[out.length - 1]? = some row → row = [tu yk, ti yc] := fun row hr => by
        obtain ⟨d', hd', rfl⟩ := stp_get hr
        rw [Option.some.inj (hd'.symm.trans hy)]; rfl
      rw [hla] at hS
      conv => whnf
      rw [hd]
      conv => whnf
      rw [hwl]
      refine ⟨rfl, (show (0 : Int) ≤ ((out.length - 1 : Nat) : Int) by omega), (show ((out.length - 1 : Nat) : Int) < (out.length : Int) by omega), ?_⟩
      conv => whnf
      refine ⟨rfl, (by rw [List.length_map]; show out.length - 1 < out.length; omega), fun row hrow => ?_⟩
      obtain rfl := yget row hrow
      clear hrow
      refine ⟨Nat.le_of_ble_eq_true rfl, ?_⟩
      conv => whnf
      refine ⟨by kernel_rfl, fun _ => ?_⟩
      conv => whnf
      generalize ((yk == xk) && ((yc == xc) && true)) = B at hS ⊢
      clear hla
      cases B
      · rw [cond_false] at hS
        conv => whnf
        rw [hom]
        cases hg : decide (((out.length + m : Nat) : Int) > 1048576) with
        | true =>
          have hg' := of_decide_eq_true hg
          rw [decide_eq_true (show (out.length : Int) + (m : Int) > 1048576 by omega)] at hS
          have hS : (([] : List Stp), (3 : Int), (0 : Int)) = P := hS
          subst hS
          conv => whnf
          exact ⟨⟨.inr ⟨rfl, _, _, rfl⟩, .inl rfl, .inl rfl, trivial⟩, trivial⟩
        | false =>
          have hg' := of_decide_eq_false hg
          rw [decide_eq_false (show ¬ ((out.length : Int) + (m : Int) > 1048576) by omega)] at hS
          have hS : parG (W.drop (i + 1)) (out ++ List.replicate m ⟨xk, xc⟩) (a + w.size + 1) = P := hS
          conv => whnf
          refine LoopL.by (fun j : Nat => ⟨[(5, .sl 0 (out.length + j)), (6, .tr (ti a)), (8, .tr (ts w)), (9, .ptr 1 0), (15, .tr (strsT W)), (16, .tr (ti W.length)), (17, .tr (ti i)), (50, .tr (ti m)), (51, .tr (ti j))], [(0, stV (out ++ List.replicate j ⟨xk, xc⟩)), (1, .cells 51 [.tr (tu xk), .tr (ti xc)])], 10⟩) (fun j => j ≤ m) (fun j => m - j) 0 [0, _] []
            (Sub.mk' rfl ⟨⟨rfl, rfl⟩, .inl rfl, .inl rfl, ⟨rfl, rfl⟩, .inl rfl, .inl rfl, .inl rfl, .inl rfl, .inl rfl, trivial⟩ ⟨⟨rfl, rfl, rfl, by rw [List.replicate_zero, List.append_nil]⟩, ⟨rfl, .inl rfl, .inl rfl, trivial⟩, trivial⟩ rfl rfl) (Nat.zero_le _) ?_
          rintro j hj -
          have hjl : (out ++ List.replicate j (Stp.mk xk xc)).length = out.length + j := by simp
          have hda : ((out ++ List.replicate j (Stp.mk xk xc)).map Stp.cells).take (out.length + j) ++ [[tu xk, ti xc]] = (out ++ List.replicate (j + 1) (Stp.mk xk xc)).map Stp.cells := by
            rw [List.take_of_length_le (by rw [List.length_map, hjl]; exact Nat.le_refl _), List.replicate_succ', ← List.append_assoc, List.map_append (l₁ := out ++ _)]; rfl
          conv => whnf
          refine csplit (fun hjlt => ?_) (fun hjge => ?_)
          · have hjlt : j < m := by have : decide ((j : Int) < (m : Int)) = true := hjlt; have := of_decide_eq_true this; omega
            conv => whnf
            refine ⟨rfl, rfl, rfl, (by rw [List.length_map, hjl]; exact Nat.le_refl _), (show (out.length + j + 1) * 16 ≤ 150000000000000 by omega), fun q hq => ?_, ?_⟩
            · cases hq with
              | head => exact Nat.ne_of_beq_eq_false rfl
              | tail _ h => cases h
            conv => whnf
            exact ⟨j + 1, [_, 1], [], Sub.mk' rfl ⟨⟨rfl, rfl⟩, .inl rfl, .inl rfl, ⟨rfl, rfl⟩, .inl rfl, .inl rfl, .inl rfl, .inl rfl, .inl (ti_succ hjlt (by omega)), trivial⟩ ⟨⟨rfl, rfl, rfl, hda⟩, ⟨rfl, .inl rfl, .inl rfl, trivial⟩, trivial⟩ rfl rfl, hjlt, by omega⟩
          · have hjge : j = m := by have : decide ((j : Int) < (m : Int)) = false := hjge; have := of_decide_eq_false this; omega
            subst hjge
            conv => whnf
            refine ⟨fun _ => ?_, fun h => absurd rfl h⟩
            conv => whnf
            exact ⟨(out ++ List.replicate j ⟨xk, xc⟩, i + 1, a + w.size + 1), [0], [], Sub.mk' rfl ⟨⟨rfl, hjl.symm⟩, .inl (congrArg ti hai), .inl rfl, .inl rfl, .inl (ti_succ hlt (by omega)), trivial⟩ ⟨⟨rfl, rfl, rfl, rfl⟩, trivial⟩ rfl rfl, ⟨hlt, by show (out ++ _).length ≤ 1048576; rw [hjl]; omega, ha', by exact_mod_cast hS⟩, by show W.length - (i + 1) < W.length - i; omega⟩
      · have hS : (([] : List Stp), errSched, (a : Int)) = P := hS
        subst hS
        conv => whnf
        exact ⟨⟨.inr ⟨rfl, _, _, rfl⟩, .inl rfl, .inl rfl, trivial⟩, trivial⟩
  · have hge : i = W.length := by have : decide ((i : Int) < (W.length : Int)) = false := hge; have := of_decide_eq_false this; omega
    subst hge
    rw [List.drop_length] at hS
    have hS : (out, (0 : Int), (0 : Int)) = P := hS
    subst hS
    conv => whnf
    refine ⟨fun _ => ?_, fun h => absurd rfl h⟩
    conv => whnf
    exact ⟨⟨⟨rfl, by rw [List.length_map]; exact Nat.le_refl _, by rw [List.take_of_length_le (by simp)]⟩, .inl rfl, .inl rfl, trivial⟩, trivial⟩
end Go.Proofs.YtioafhkkkmfkdaaGreatDoor.am

namespace Go.Proofs.YtioafhkkkmfkdaaGreatDoor.am
open Go Go.Proofs
set_option linter.all false

set_option maxRecDepth 100000 in
theorem z_sameSt (l : List Stp) : K 14 [.tr (stepsT l), .tr (stepsT l)] [] (.ret (.tr (tb true))) [] := by
  refine Ctr.of hT hmix Tryz.func14 rfl (fun _ _ => by kernel_rfl) rfl fun hok => ?_
  have hl := (hok.slot 0 rfl).tr.lst.2.1
  have hlm : (l.map Stp.cells).length = l.length := List.length_map ..
  rw [hlm] at hl
  clear hok
  conv => whnf
  refine csplit (fun h => absurd h (by simp)) (fun _ => ?_)
  conv => whnf
  refine LoopL.by (fun i : Nat => ⟨[(0, .tr (stepsT l)), (1, .tr (stepsT l)), (5, .tr (ti i))], [], 10⟩) (fun i => i ≤ l.length) (fun i => l.length - i) 0 [] [] (Sub.mk' rfl ⟨.inl rfl, .inl rfl, .inl rfl, trivial⟩ trivial rfl rfl) (Nat.zero_le _) ?_
  rintro i hi -
  conv => whnf
  refine csplit (fun hlt => ?_) (fun hge => ?_)
  · have hlt : i < l.length := by
      have hlt : decide ((i : Int) < ((l.map Stp.cells).length : Int)) = true := hlt
      have := of_decide_eq_true hlt
      omega
    obtain ⟨d, hd⟩ : ∃ d, l[i]? = some d := ⟨l[i], by simp [hlt]⟩
    conv => whnf
    refine ⟨rfl, (show (0 : Int) ≤ i by omega), (show (i : Int) < (l.map Stp.cells).length by rw [hlm]; omega), fun row hr => ?_⟩
    obtain ⟨d', hd', rfl⟩ := stp_get hr
    obtain rfl : d = d' := Option.some.inj (hd.symm.trans hd')
    clear hr hd'
    obtain ⟨k1, k2⟩ := d
    conv => whnf
    refine ⟨rfl, (show (0 : Int) ≤ i by omega), (show (i : Int) < (l.map Stp.cells).length by rw [hlm]; omega), fun row hr => ?_⟩
    obtain ⟨d', hd', rfl⟩ := stp_get hr
    obtain rfl := Option.some.inj (hd.symm.trans hd')
    clear hr hd'
    conv => whnf
    refine ⟨by kernel_rfl, fun _ => ?_⟩
    conv => whnf
    refine csplit (fun h => absurd h (by simp)) (fun _ => ?_)
    conv => whnf
    exact ⟨i + 1, [], [], Sub.mk' rfl ⟨.inl rfl, .inl rfl, .inl (ti_succ hlt hl), trivial⟩ trivial rfl rfl, hlt, by omega⟩
  · have hge : i = l.length := by
      have hge : decide ((i : Int) < ((l.map Stp.cells).length : Int)) = false := hge
      have := of_decide_eq_false hge
      omega
    conv => whnf
    refine ⟨fun _ => ?_, fun h => absurd rfl h⟩
    conv => whnf
    exact ⟨.inl rfl, trivial⟩

def oneI : List Ins := [⟨1, 0, 0, 0, 0, 0, 0, 1, 0⟩, ⟨4, 0, 0, 0, 0, 0, 0, 0, 0⟩, ⟨10, 0, 0, 0, 0, 0, 0, 0, 0⟩]
def oneO : Ob := ⟨[0], 0, 0, 1, [⟨⟨#[65]⟩, oneI⟩]⟩
def oneL : List Stp := [⟨1, 0⟩, ⟨1, 0⟩, ⟨1, 0⟩, ⟨2, 0⟩]
theorem oneO_check : (checkO oneO).1 = 0 := by kernel_rfl
theorem one_timed : (timedR oneO [⟨2, 5⟩] 99).2.2 = oneL := by kernel_rfl
theorem one_timed1 : ((timedR oneO [⟨2, 5⟩] 99).2.1.length == 0) = true := by kernel_rfl
theorem one_turns : (turnsR oneO 9).2 = oneL := by kernel_rfl
theorem one_turns1 : endedB (turnsR oneO 9).1 = true := by kernel_rfl
theorem one_print : prtT oneL = (⟨#[114, 48, 120, 51, 32, 100, 48]⟩, 0) := by kernel_rfl
theorem one_parse : parT ⟨#[114, 48, 120, 51, 32, 100, 48]⟩ = (oneL, 0, 0) := by kernel_rfl
theorem one_over : (parT ⟨#[114, 48, 32, 114, 48]⟩).2 = (260, 3) := by kernel_rfl
theorem oneI_leaf : leafR (oneI.map Ins.cells) := code_leaf0 oneI
set_option maxRecDepth 100000 in
theorem s_one : K 40 [] [] (.ret oneO.av) [] := by
  refine Ctr.pk [] hT hmix Tryz.func40 rfl (fun _ _ => by kernel_rfl) rfl fun hok => ?_
  clear hok
  conv => whnf
  refine ⟨[7], ?_⟩
  conv => whnf
  refine ⟨rfl, rfl, by decide, oneI_leaf, ?_⟩
  exact ⟨[], rfl, rfl, ⟨⟨rfl, by decide, rfl⟩, .inl rfl, .inl rfl, .inl rfl, ⟨rfl, by decide, rfl⟩, trivial⟩, trivial⟩
/-- a call that is shown a slice of one's own, as its second argument -/
theorem acall.sn2 {P : Program} {m : Mem} {nh f h n : Nat} {x : AV} {xs : List AV} {K : EE} (ars : List AV) (res : AE) (hc : Ctr P f ars [] res [])
    (h5 : cvL m [] [] (seenS [] [h]) (x :: .sl h n :: xs) ars) (h7 : (m h).isSome = true) (h8 : res.lowH 0 = true)
    (hK : K (res.out []) (rdOf m [h]) (callUp [] [h] res [])) : acall P m nh f (x :: .sl h n :: xs) K :=
  acall.gen [] [h] ars [] res [] hc rfl rfl rfl rfl h5 trivial (by simp [h7]) h8 hK
set_option maxRecDepth 100000 in
theorem s_begins : K 15 [] [] (.ret (.tr (tb true))) [] := by
  have h1 := s_one
  have hti := s_timed oneO [⟨2, 5⟩] 99 oneO_check rfl (by decide) (by decide)
  rw [one_timed, one_timed1] at hti
  have htu := s_turns oneO 9 oneO_check (by decide)
  rw [one_turns, one_turns1] at htu
  have hpr := s_print oneL
  rw [one_print] at hpr
  obtain ⟨S, hS⟩ : ∃ S : ByteArray, S = ⟨#[114, 48, 120, 51, 32, 100, 48]⟩ := ⟨_, rfl⟩
  replace hpr : K 18 [.tr (stepsT oneL)] [] (.ret (.tup [.tr (ts S), .tr (ti 0)])) [] := by rw [hS]; exact hpr
  have e : (S.toList == ByteArray.toList ⟨#[114, 48, 120, 51, 32, 100, 48]⟩) = true := by rw [hS]; exact beq_self_eq_true _
  clear hS
  have hpa := s_parse ⟨#[114, 48, 120, 51, 32, 100, 48]⟩ (by decide)
  rw [one_parse] at hpa
  have hov := s_parse ⟨#[114, 48, 32, 114, 48]⟩ (by decide)
  have hsa := z_sameSt oneL
  rw [one_over] at hov
  generalize (parT ⟨#[114, 48, 32, 114, 48]⟩).1 = ov at hov
  refine Ctr.of hT hmix Tryz.func15 rfl (fun _ _ => by kernel_rfl) rfl fun hok => ?_
  clear hok
  conv => whnf
  refine acall.pure _ (h1) rfl rfl fun _ => ?_
  conv => whnf
  refine acall.sn2 _ _ hti ⟨⟨.inl rfl, .inl rfl, .inl rfl, .inl rfl, .inl rfl, trivial⟩, ⟨rfl, by decide, rfl⟩, .inl rfl, trivial⟩ rfl rfl fun _ => ?_
  conv => whnf
  refine acall.pure _ (hpr) rfl rfl fun _ => ?_
  conv => whnf
  refine acall.pure _ (hpa) rfl rfl fun _ => ?_
  conv => whnf
  refine acall.pure _ (hov) rfl rfl fun _ => ?_
  conv => whnf
  refine acall.pure _ (h1) rfl rfl fun _ => ?_
  conv => whnf
  refine acall.pure _ (htu) rfl rfl fun _ => ?_
  conv => whnf
  (repeat (refine csplit (fun _ => ?_) (fun g => ctf e g); conv => whnf))
  refine acall.pure _ (hsa) rfl rfl fun _ => ?_
  conv => whnf
  refine acall.pure _ (hsa) rfl rfl fun _ => ?_
  conv => whnf
  exact ⟨.inl rfl, trivial⟩
end Go.Proofs.YtioafhkkkmfkdaaGreatDoor.am

namespace Go.Proofs.YtioafhkkkmfkdaaGreatDoor.am
open Go Go.Proofs
set_option linter.all false

set_option maxRecDepth 100000 in
theorem kShrinks (o : Ob) (l : List Stp) (p : List Prn) : K 10 [o.av, .tr (stepsT l), .tr (prT p)] [] (.ret (.tr (tb true))) [] := by
  have hb := s_begins
  have h1 := s_shows o l p
  have h2 := z_shows o l p
  have h3 := s_shrink o l p
  have h4 := z_shrink o l p
  generalize showsR o l p = A at h1 h2
  generalize shrinkR o l p = B at h3 h4
  have hsa := z_sameSt B.1
  obtain ⟨A1, A2⟩ := A
  obtain ⟨L, e⟩ := B
  simp only at h1 h2 h3 h4 hsa
  refine Ctr.of hT hmix Tryz.func10 rfl (fun _ _ => by kernel_rfl) rfl fun hok => ?_
  clear hok
  obtain ⟨memory, shared, locks, buffer, cores⟩ := o
  conv => whnf
  refine acall.pure _ (h1) rfl rfl fun _ => ?_
  conv => whnf
  refine acall.pure _ (h2) rfl rfl fun _ => ?_
  conv => whnf
  refine acall.pure _ (h3) rfl rfl fun _ => ?_
  conv => whnf
  refine acall.pure _ (h4) rfl rfl fun _ => ?_
  conv => whnf
  have e1 : (A1 == A1) = true := beq_self_eq_true _
  have e2 : (A2 == A2) = true := beq_self_eq_true _
  have e3 : (e == e) = true := beq_self_eq_true _
  (repeat (refine csplit (fun _ => ?_) (fun g => ctf e1 g); conv => whnf))
  (repeat (refine csplit (fun _ => ?_) (fun g => ctf e2 g); conv => whnf))
  refine acall.pure _ (hsa) rfl rfl fun _ => ?_
  conv => whnf
  (repeat (refine csplit (fun _ => ?_) (fun g => ctf e3 g); conv => whnf))
  refine acall.pure _ (hb) rfl rfl fun _ => ?_
  conv => whnf
  exact ⟨.inl rfl, trivial⟩
end Go.Proofs.YtioafhkkkmfkdaaGreatDoor.am

namespace Go.Proofs.YtioafhkkkmfkdaaGreatDoor.am
open Go Go.Proofs
set_option linter.all false

theorem sub_head {x y : Stp} {r l : List Stp} (h : (x :: r).Sublist (y :: l)) : (y = x → r.Sublist l) ∧ (y ≠ x → (x :: r).Sublist l) := by
  constructor
  · rintro rfl
    exact List.cons_sublist_cons.1 h
  · intro e
    cases h with
    | cons _ h => exact h
    | cons_cons _ h => exact absurd rfl e
set_option maxRecDepth 100000 in
set_option maxHeartbeats 2000000 in
theorem kLeast (o : Ob) (l : List Stp) (p : List Prn) : K 11 [o.av, .tr (stepsT l), .tr (prT p)] [] (.ret (.tr (tb true))) [] := by
  have hb := s_begins
  have h3 := s_shrink o l p
  have hlm : (l.map Stp.cells).length = l.length := List.length_map ..
  have hsW := fun L => s_shows o L p
  have hR : ∀ L, (checkO o).1 = 0 → L.length ≤ 1048576 → showsR o L p = (showB o L p, 0) := fun L g h => by
    unfold showsR
    rw [show ((checkO o).1 != 0) = false by rw [g]; rfl, cond_false, decide_eq_false (by omega), cond_false]
  have hP := fun h => shrL_prop o p (l := l) h
  rcases shrinkR_cases o l p with ⟨g1, e⟩ | ⟨g1, g2, e⟩ | ⟨g1, g2, _, e⟩ | ⟨g1, g2, g3, e⟩
  case inr.inr.inr =>
    obtain ⟨hsub, hsF, hno⟩ := hP g3
    rw [e] at h3
    generalize shrL o p l = F at hsub hsF hno h3
    have hFl := hsub.length_le
    have hw1 := hsW F
    rw [hR F g1 (by omega), hsF] at hw1
    have hw2 : ∀ i, i < F.length → K 26 [o.av, .tr (stepsT (F.take i ++ F.drop (i + 1))), .tr (prT p)] [] (.ret (.tup [.tr (tb false), .tr (ti 0)])) [] := fun i hi => by
      have := hsW (F.take i ++ F.drop (i + 1))
      rwa [hR _ g1 (by rw [List.length_append, List.length_take, List.length_drop]; omega), hno i hi] at this
    have hwo := fun i hi => z_without F i hi (by omega)
    clear hsW hR hP hsF hno g3 e
    have hFm : (F.map Stp.cells).length = F.length := List.length_map ..
    refine Ctr.of hT hmix Tryz.func11 rfl (fun _ _ => by kernel_rfl) rfl fun hok => ?_
    clear hok
    obtain ⟨memory, shared, locks, buffer, cores⟩ := o
    conv => whnf
    refine acall.pure _ (hb) rfl rfl fun _ => ?_
    conv => whnf
    refine acall.pure _ (h3) rfl rfl fun _ => ?_
    conv => whnf
    refine acall.pure _ (hw1) rfl rfl fun _ => ?_
    conv => whnf
    refine LoopL.by (fun x : Nat × Nat => ⟨[(1, .tr (stepsT l)), (2, .tr (prT p)), (3, .ptr 0 0), (7, .tr (stepsT F)), (11, .tr (ti x.1)), (12, .tr (ti x.2))], [(0, .cells 25 [.tr (intsT memory), .tr (ti shared), .tr (ti locks), .tr (ti buffer), .tr (coresT cores)])], 10⟩) (fun x => x.1 ≤ l.length ∧ x.2 ≤ F.length ∧ (F.drop x.2).Sublist (l.drop x.1)) (fun x => F.length - x.2) (0, 0) [0] []
      (Sub.mk' rfl ⟨.inl rfl, .inl rfl, ⟨rfl, rfl⟩, .inl rfl, .inl rfl, .inl rfl, trivial⟩ ⟨⟨rfl, .inl rfl, .inl rfl, .inl rfl, .inl rfl, .inl rfl, trivial⟩, trivial⟩ rfl rfl) ⟨Nat.zero_le _, Nat.zero_le _, hsub⟩ ?_
    clear hsub
    rintro ⟨a, i⟩ ⟨ha, hi, hsub⟩ -
    simp only at ha hi hsub
    conv => whnf
    refine csplit (fun hlt => ?_) (fun hge => ?_)
    · have hlt : i < F.length := by have : decide ((i : Int) < ((F.map Stp.cells).length : Int)) = true := hlt; have := of_decide_eq_true this; omega
      obtain ⟨x, hx⟩ : ∃ x, F[i]? = some x := ⟨_, List.getElem?_eq_getElem hlt⟩
      rw [List.drop_eq_getElem_cons hlt, (List.getElem?_eq_some_iff.1 hx).2] at hsub
      have hw2 := hw2 i hlt
      have hwo := hwo i hlt
      obtain ⟨xk, xc⟩ := x
      conv => whnf
      refine LoopL.by (fun b : Nat => ⟨[(1, .tr (stepsT l)), (2, .tr (prT p)), (3, .ptr 0 0), (7, .tr (stepsT F)), (11, .tr (ti b)), (12, .tr (ti i))], [(0, .cells 25 [.tr (intsT memory), .tr (ti shared), .tr (ti locks), .tr (ti buffer), .tr (coresT cores)])], 10⟩) (fun b => b ≤ l.length ∧ ((Stp.mk xk xc) :: F.drop (i + 1)).Sublist (l.drop b)) (fun b => l.length - b) a [0] []
        (Sub.mk' rfl ⟨.inl rfl, .inl rfl, ⟨rfl, rfl⟩, .inl rfl, .inl rfl, .inl rfl, trivial⟩ ⟨⟨rfl, .inl rfl, .inl rfl, .inl rfl, .inl rfl, .inl rfl, trivial⟩, trivial⟩ rfl rfl) ⟨ha, hsub⟩ ?_
      clear hsub ha
      rintro b ⟨hbl, hsub⟩ -
      have hbt : b < l.length := by
        have := hsub.length_le
        rw [List.length_cons, List.length_drop, List.length_drop] at this
        omega
      obtain ⟨y, hy⟩ : ∃ y, l[b]? = some y := ⟨_, List.getElem?_eq_getElem hbt⟩
      rw [List.drop_eq_getElem_cons hbt, (List.getElem?_eq_some_iff.1 hy).2] at hsub
      obtain ⟨s1, s2⟩ := sub_head hsub
      have e1 : decide ((b : Int) < ((l.map Stp.cells).length : Int)) = true := decide_eq_true (by omega)
      have hbw : IntKind.i64.wrap ((b : Int) + 1) = ((b + 1 : Nat) : Int) := by rw [w64 (by omega) (by omega)]; omega
      obtain ⟨yk, yc⟩ := y
      conv => whnf
      (repeat (refine csplit (fun _ => ?_) (fun g => ctf e1 g); conv => whnf))
      refine ⟨rfl, (show (0 : Int) ≤ b by omega), (show (b : Int) < ((l.map Stp.cells).length : Int) by omega), fun row hrow => ?_⟩
      obtain ⟨d, hd, rfl⟩ := stp_get hrow
      obtain rfl := Option.some.inj (hy.symm.trans hd)
      clear hrow hd
      conv => whnf
      (repeat (refine csplit (fun _ => ?_) (fun g => ctf e1 g); conv => whnf))
      refine ⟨rfl, (show (0 : Int) ≤ i by omega), (show (i : Int) < ((F.map Stp.cells).length : Int) by omega), fun row hrow => ?_⟩
      obtain ⟨d, hd, rfl⟩ := stp_get hrow
      obtain rfl := Option.some.inj (hx.symm.trans hd)
      clear hrow hd
      conv => whnf
      (repeat (refine csplit (fun _ => ?_) (fun g => ctf e1 g); conv => whnf))
      refine ⟨by kernel_rfl, fun _ => ?_⟩
      conv => whnf
      have hB : (yk == xk && (yc == xc && true)) = decide (Stp.mk yk yc = Stp.mk xk xc) := by
        rw [Bool.and_true]
        by_cases e1 : yk = xk <;> by_cases e2 : yc = xc <;> simp [e1, e2]
      refine csplit (fun g => ?_) (fun g => ?_)
      · replace g : (!(yk == xk && (yc == xc && true))) = true := g
        rw [hB] at g
        have hne : Stp.mk yk yc ≠ Stp.mk xk xc := fun w => by rw [decide_eq_true w] at g; cases g
        conv => whnf
        rw [hbw]
        exact ⟨b + 1, [0], [], Sub.mk' rfl ⟨.inl rfl, .inl rfl, ⟨rfl, rfl⟩, .inl rfl, .inl rfl, .inl rfl, trivial⟩ ⟨⟨rfl, .inl rfl, .inl rfl, .inl rfl, .inl rfl, .inl rfl, trivial⟩, trivial⟩ rfl rfl, ⟨hbt, s2 hne⟩, by show l.length - (b + 1) < l.length - b; omega⟩
      · replace g : (!(yk == xk && (yc == xc && true))) = false := g
        rw [hB] at g
        have he : Stp.mk yk yc = Stp.mk xk xc := Classical.byContradiction fun w => by rw [decide_eq_false w] at g; cases g
        have s1 := s1 he
        have e2 : ((b : Int) == ((l.map Stp.cells).length : Int)) = false := by rw [beq_eq_false_iff_ne]; omega
        have hiw : IntKind.i64.wrap ((i : Int) + 1) = ((i + 1 : Nat) : Int) := by rw [w64 (by omega) (by omega)]; omega
        conv => whnf
        refine ⟨fun _ => ?_, fun h => absurd rfl h⟩
        conv => whnf
        rw [e2]
        conv => whnf
        refine acall.pure _ (hwo) rfl rfl ?_
        conv => whnf
        refine acall.pure _ (hw2) rfl rfl ?_
        conv => whnf
        refine ⟨by kernel_rfl, fun _ => ?_⟩
        conv => whnf
        rw [hbw, hiw]
        exact ⟨(b + 1, i + 1), [0], [], Sub.mk' rfl ⟨.inl rfl, .inl rfl, ⟨rfl, rfl⟩, .inl rfl, .inl rfl, .inl rfl, trivial⟩ ⟨⟨rfl, .inl rfl, .inl rfl, .inl rfl, .inl rfl, .inl rfl, trivial⟩, trivial⟩ rfl rfl, ⟨hbt, hlt, s1⟩, by show F.length - (i + 1) < F.length - i; omega⟩
    · have hge : F.length ≤ i := by have : decide ((i : Int) < ((F.map Stp.cells).length : Int)) = false := hge; have := of_decide_eq_false this; omega
      conv => whnf
      refine ⟨fun _ => ?_, fun h => absurd rfl h⟩
      conv => whnf
      exact ⟨.inl rfl, trivial⟩
  all_goals
    rw [e] at h3
    clear hsW hR hP e
    refine Ctr.of hT hmix Tryz.func11 rfl (fun _ _ => by kernel_rfl) rfl fun hok => ?_
    clear hok
    obtain ⟨memory, shared, locks, buffer, cores⟩ := o
    conv => whnf
    refine acall.pure _ (hb) rfl rfl fun _ => ?_
    conv => whnf
    refine acall.pure _ (h3) rfl rfl fun _ => ?_
    conv => whnf
  · have e1 : ((checkO ⟨memory, shared, locks, buffer, cores⟩).1 != 0) = true := by simpa using g1
    refine csplit (fun _ => ?_) (fun g => ctf e1 g)
    conv => whnf
    exact ⟨.inl rfl, trivial⟩
  · exact ⟨.inl rfl, trivial⟩
  · exact ⟨.inl rfl, trivial⟩
end Go.Proofs.YtioafhkkkmfkdaaGreatDoor.am

/- The law Own. -/
import Derived.Test.YtcpolpbeimhgfaaGreatQ11
set_option linter.all false

namespace Go.Proofs.YtcpolpbeimhgfaaGreat.am
open Go Go.Proofs
theorem evL_len (o : Ob) : ∀ (l : List Did) (i : Nat), (evL o l i).length ≤ l.length
  | [], _ => Nat.le_refl _
  | d :: l, i => by
    show (evD o d i ++ evL o l (i + 1)).length ≤ l.length + 1
    have h1 := evL_len o l (i + 1)
    have h2 : (evD o d i).length ≤ 1 := by rw [evD_R]; cases ((evOf o d i).kind != 0) <;> simp
    rw [List.length_append]
    omega
theorem did_set (l : List Did) (i : Nat) (w : Did) {row : List Tr} (h : row.length = 7) : (l.map Did.cells).set i (row.take 0 ++ w.cells ++ row.drop (0 + 7)) = (l.set i w).map Did.cells := by
  rw [List.map_set, List.drop_of_length_le (by omega), List.append_nil]; rfl
theorem stp_set (l : List Stp) (i : Nat) (w : Stp) {row : List Tr} (h : row.length = 2) : (l.map Stp.cells).set i (row.take 0 ++ w.cells ++ row.drop (0 + 2)) = (l.set i w).map Stp.cells := by
  rw [List.map_set, List.drop_of_length_le (by omega), List.append_nil]; rfl
theorem evt_set (l : List Evt) (i : Nat) (w : Evt) {row : List Tr} (h : row.length = 7) : (l.map Evt.cells).set i (row.take 0 ++ w.cells ++ row.drop (0 + 7)) = (l.set i w).map Evt.cells := by
  rw [List.map_set, List.drop_of_length_le (by omega), List.append_nil]; rfl
set_option maxRecDepth 100000 in
set_option maxHeartbeats 4000000 in
theorem kTOwn0 (o : Ob) (l : List Stp) (h : (checkO o).1 = 0) (hlen : l.length ≤ 1048576) : K 4 [o.av, .tr (stepsT l)] [] (.ret (.tr (tb true))) [] := by
  have hlv := k_lives
  have h1 := k_ofV o l h hlen
  have h2 := k_of o l h hlen
  have hr : (ofS o l).all rightD = true := ofP_right (VInv.new h) l
  have hDl : (ofS o l).length ≤ 1048576 := by
    have := ofP_len (playL (newM o) l)
    rw [playL_len] at this
    exact Nat.le_trans this hlen
  have h3 := t_stepsV (ofS o l) hr
  have h4 := t_EventsV o (ofS o l) h hr
  have h5 := z_of o l h hlen
  have h6 := z_same (ofS o l)
  have h7 := kEvents o (ofS o l)
  have h8 := k_same2 o
  have hsl : ((ofS o l).map stepD).length = (ofS o l).length := List.length_map ..
  generalize ofS o l = D at h1 h2 hr hDl h3 h4 h5 h6 h7 hsl
  generalize D.map stepD = S at h3 hsl
  have hEl : (evL o D 0).length ≤ 1048576 := by
    have := evL_len o D 0
    omega
  generalize evL o D 0 = E at h4 hEl
  rw [← hsl] at h3
  have hSl : S.length ≤ 1048576 := by omega
  clear hr h hlen hsl
  obtain ⟨memory, shared, locks, buffer, cores⟩ := o
  refine Ctr.new [] hT hmix Tryz.func4 rfl (fun _ _ => by kernel_rfl) rfl fun hok => ?_
  clear hok
  conv => whnf
  refine acall.pure _ (hlv) rfl rfl fun _ => ?_
  conv => whnf
  refine acall.new [] [] _ _ _ _ h1 rfl rfl rfl rfl aut trivial rfl rfl fun _ => ?_
  conv => whnf
  refine acall.pure _ (h2) rfl rfl fun _ => ?_
  conv => whnf
  refine acall.new [] [] _ _ _ _ h3 rfl rfl rfl rfl aut trivial rfl rfl fun _ => ?_
  conv => whnf
  refine acall.new [] [] _ _ _ _ h4 rfl rfl rfl rfl aut trivial rfl rfl fun _ => ?_
  conv => whnf
  refine LoopL.by (fun x : List Did × Nat => ⟨[(1, .tr (stepsT l)), (2, .ptr 0 0), (7, .tr (didsT D)), (5, .sl 1 D.length), (9, .sl 2 S.length), (11, .sl 3 E.length), (45, .tr (ti (D.length : Int))), (46, .tr (ti x.2))], [(0, .cells 25 [.tr (intsT memory), .tr (ti shared), .tr (ti locks), .tr (ti buffer), .tr (coresT cores)]), (1, diV x.1), (2, .vec 44 2 16 (S.map Stp.cells)), (3, evV E)], 10⟩) (fun x => x.1.length = D.length ∧ x.2 ≤ D.length) (fun x => D.length - x.2) (D, 0) [_, _, _, _] [] (Sub.mk' rfl ⟨.inl rfl, ⟨rfl, rfl⟩, .inl rfl, ⟨rfl, rfl⟩, ⟨rfl, rfl⟩, ⟨rfl, rfl⟩, .inl rfl, .inl rfl, trivial⟩ ⟨⟨rfl, .inl rfl, .inl rfl, .inl rfl, .inl rfl, .inl rfl, trivial⟩, ⟨rfl, rfl, rfl, rfl⟩, ⟨rfl, rfl, rfl, rfl⟩, ⟨rfl, rfl, rfl, rfl⟩, trivial⟩ rfl rfl) ⟨rfl, Nat.zero_le _⟩ ?_
  rintro ⟨X, i⟩ ⟨hX, hi⟩ -
  simp only at hX hi
  conv => whnf
  refine csplit (fun hlt => ?_) (fun hge => ?_)
  · have hlt : i < D.length := by have := of_decide_eq_true hlt; omega
    conv => whnf
    refine ⟨rfl, (show (0 : Int) ≤ i by omega), (show (i : Int) < (D.length : Int) by omega), ?_⟩
    conv => whnf
    refine ⟨rfl, rfl, by rw [List.length_map]; show i < X.length; omega, fun row hrow => ?_⟩
    obtain ⟨y, _, rfl⟩ := did_get hrow
    refine ⟨Nat.le_refl _, ?_⟩
    clear hrow
    conv => whnf
    exact ⟨(X.set i zeroD, i + 1), [0, 1, 2, 3], [], Sub.mk' rfl ⟨.inl rfl, ⟨rfl, rfl⟩, .inl rfl, ⟨rfl, rfl⟩, ⟨rfl, rfl⟩, ⟨rfl, rfl⟩, .inl rfl, .inl (ti_succ hlt (by omega)), trivial⟩ ⟨⟨rfl, .inl rfl, .inl rfl, .inl rfl, .inl rfl, .inl rfl, trivial⟩, ⟨rfl, rfl, rfl, did_set X i zeroD rfl⟩, ⟨rfl, rfl, rfl, rfl⟩, ⟨rfl, rfl, rfl, rfl⟩, trivial⟩ rfl rfl, ⟨by rw [List.length_set]; exact hX, hlt⟩, by show D.length - (i + 1) < D.length - i; omega⟩
  have hge : i = D.length := by have := of_decide_eq_false hge; omega
  clear hge hX hi
  conv => whnf
  refine ⟨fun _ => ?_, fun h => absurd rfl h⟩
  conv => whnf
  refine LoopL.by (fun x : List Stp × Nat => ⟨[(1, .tr (stepsT l)), (2, .ptr 0 0), (7, .tr (didsT D)), (9, .sl 1 S.length), (11, .sl 2 E.length), (55, .tr (ti (S.length : Int))), (56, .tr (ti x.2))], [(0, .cells 25 [.tr (intsT memory), .tr (ti shared), .tr (ti locks), .tr (ti buffer), .tr (coresT cores)]), (1, .vec 44 2 16 (x.1.map Stp.cells)), (2, evV E)], 10⟩) (fun x => x.1.length = S.length ∧ x.2 ≤ S.length) (fun x => S.length - x.2) (S, 0) [_, _, _] [] (Sub.mk' rfl ⟨.inl rfl, ⟨rfl, rfl⟩, .inl rfl, ⟨rfl, rfl⟩, ⟨rfl, rfl⟩, .inl rfl, .inl rfl, trivial⟩ ⟨⟨rfl, .inl rfl, .inl rfl, .inl rfl, .inl rfl, .inl rfl, trivial⟩, ⟨rfl, rfl, rfl, rfl⟩, ⟨rfl, rfl, rfl, rfl⟩, trivial⟩ rfl rfl) ⟨rfl, Nat.zero_le _⟩ ?_
  rintro ⟨X, i⟩ ⟨hX, hi⟩ -
  simp only at hX hi
  conv => whnf
  refine csplit (fun hlt => ?_) (fun hge => ?_)
  · have hlt : i < S.length := by have := of_decide_eq_true hlt; omega
    conv => whnf
    refine ⟨rfl, (show (0 : Int) ≤ i by omega), (show (i : Int) < (S.length : Int) by omega), ?_⟩
    conv => whnf
    refine ⟨rfl, rfl, by rw [List.length_map]; show i < X.length; omega, fun row hrow => ?_⟩
    obtain ⟨y, _, rfl⟩ := stp_get hrow
    refine ⟨Nat.le_refl _, ?_⟩
    clear hrow
    conv => whnf
    exact ⟨(X.set i (Stp.mk 0 0), i + 1), [0, 1, 2], [], Sub.mk' rfl ⟨.inl rfl, ⟨rfl, rfl⟩, .inl rfl, ⟨rfl, rfl⟩, ⟨rfl, rfl⟩, .inl rfl, .inl (ti_succ hlt (by omega)), trivial⟩ ⟨⟨rfl, .inl rfl, .inl rfl, .inl rfl, .inl rfl, .inl rfl, trivial⟩, ⟨rfl, rfl, rfl, stp_set X i (Stp.mk 0 0) rfl⟩, ⟨rfl, rfl, rfl, rfl⟩, trivial⟩ rfl rfl, ⟨by rw [List.length_set]; exact hX, hlt⟩, by show S.length - (i + 1) < S.length - i; omega⟩
  have hge : i = S.length := by have := of_decide_eq_false hge; omega
  clear hge hX hi
  conv => whnf
  refine ⟨fun _ => ?_, fun h => absurd rfl h⟩
  conv => whnf
  refine LoopL.by (fun x : List Evt × Nat => ⟨[(1, .tr (stepsT l)), (2, .ptr 0 0), (7, .tr (didsT D)), (11, .sl 1 E.length), (65, .tr (ti (E.length : Int))), (66, .tr (ti x.2))], [(0, .cells 25 [.tr (intsT memory), .tr (ti shared), .tr (ti locks), .tr (ti buffer), .tr (coresT cores)]), (1, evV x.1)], 10⟩) (fun x => x.1.length = E.length ∧ x.2 ≤ E.length) (fun x => E.length - x.2) (E, 0) [_, _] [] (Sub.mk' rfl ⟨.inl rfl, ⟨rfl, rfl⟩, .inl rfl, ⟨rfl, rfl⟩, .inl rfl, .inl rfl, trivial⟩ ⟨⟨rfl, .inl rfl, .inl rfl, .inl rfl, .inl rfl, .inl rfl, trivial⟩, ⟨rfl, rfl, rfl, rfl⟩, trivial⟩ rfl rfl) ⟨rfl, Nat.zero_le _⟩ ?_
  rintro ⟨X, i⟩ ⟨hX, hi⟩ -
  simp only at hX hi
  conv => whnf
  refine csplit (fun hlt => ?_) (fun hge => ?_)
  · have hlt : i < E.length := by have := of_decide_eq_true hlt; omega
    conv => whnf
    refine ⟨rfl, (show (0 : Int) ≤ i by omega), (show (i : Int) < (E.length : Int) by omega), ?_⟩
    conv => whnf
    refine ⟨rfl, rfl, by rw [List.length_map]; show i < X.length; omega, fun row hrow => ?_⟩
    obtain ⟨y, _, rfl⟩ := evt_get hrow
    refine ⟨Nat.le_refl _, ?_⟩
    clear hrow
    conv => whnf
    exact ⟨(X.set i (Evt.mk 0 0 0 0 0 false 0), i + 1), [0, 1], [], Sub.mk' rfl ⟨.inl rfl, ⟨rfl, rfl⟩, .inl rfl, ⟨rfl, rfl⟩, .inl rfl, .inl (ti_succ hlt (by omega)), trivial⟩ ⟨⟨rfl, .inl rfl, .inl rfl, .inl rfl, .inl rfl, .inl rfl, trivial⟩, ⟨rfl, rfl, rfl, evt_set X i (Evt.mk 0 0 0 0 0 false 0) rfl⟩, trivial⟩ rfl rfl, ⟨by rw [List.length_set]; exact hX, hlt⟩, by show E.length - (i + 1) < E.length - i; omega⟩
  have hge : i = E.length := by have := of_decide_eq_false hge; omega
  clear hge hX hi
  conv => whnf
  refine ⟨fun _ => ?_, fun h => absurd rfl h⟩
  conv => whnf
  refine acall.pure _ (h5) rfl rfl fun _ => ?_
  conv => whnf
  refine acall.pure _ (h6) rfl rfl fun _ => ?_
  conv => whnf
  refine acall.pure _ (h7) rfl rfl fun _ => ?_
  conv => whnf
  refine acall.pure _ (h8) rfl rfl fun _ => ?_
  conv => whnf
  exact ⟨[], rfl, rfl, .inl rfl, trivial⟩
set_option maxRecDepth 100000 in
set_option maxHeartbeats 4000000 in
theorem kTOwnE (o : Ob) (l : List Stp) (h : playE o l ≠ 0) : K 4 [o.av, .tr (stepsT l)] [] (.ret (.tr (tb true))) [] := by
  have hlv := k_lives
  have h1 := k_ofE o l h
  have h3 := t_steps [] rfl
  have h4 : ∃ a, (a = .v (.slice none 0 0) ∨ a = evtsT []) ∧ ∃ e, K 6 [o.av, .tr (didsT [])] [] (.ret (.tup [.tr a, .tr (ti e)])) [] := by
    by_cases hc : (checkO o).1 = 0
    · exact ⟨_, .inr rfl, _, t_Events o [] hc rfl⟩
    · exact ⟨_, .inl rfl, _, t_EventsC o [] hc⟩
  have h5 := z_ofE o l h
  have h6 := z_same []
  have h7 := kEvents o []
  have h8 := k_same2 o
  generalize playE o l = e0 at h1 h5
  obtain ⟨a, ha, e, h4⟩ := h4
  obtain ⟨memory, shared, locks, buffer, cores⟩ := o
  refine Ctr.of hT hmix Tryz.func4 rfl (fun _ _ => by kernel_rfl) rfl fun hok => ?_
  clear hok
  rcases ha with rfl | rfl
  · conv => whnf
    refine acall.pure _ (hlv) rfl rfl fun _ => ?_
    conv => whnf
    refine acall.pure _ (h1) rfl rfl fun _ => ?_
    conv => whnf
    refine acall.pure _ (h1) rfl rfl fun _ => ?_
    conv => whnf
    refine acall.gen [] [] _ _ _ _ h3 rfl rfl rfl rfl ⟨.inr ⟨rfl, _, _, rfl⟩, trivial⟩ trivial rfl rfl fun _ => ?_
    conv => whnf
    refine acall.gen [] [] _ _ _ _ h4 rfl rfl rfl rfl ⟨⟨.inl rfl, .inl rfl, .inl rfl, .inl rfl, .inl rfl, trivial⟩, .inr ⟨rfl, _, _, rfl⟩, trivial⟩ trivial rfl rfl fun _ => ?_
    conv => whnf
    refine LoopL.by (fun _ : Unit => ⟨[(1, .tr (stepsT l)), (2, .ptr 0 0), (7, .tr (.v (.slice none 0 0))), (9, .tr (stepsT [])), (11, .tr (.v (.slice none 0 0))), (45, .tr (ti 0)), (46, .tr (ti 0))], [(0, .cells 25 [.tr (intsT memory), .tr (ti shared), .tr (ti locks), .tr (ti buffer), .tr (coresT cores)])], 10⟩) (fun _ => True) (fun _ => 0) () [_] [] (Sub.mk' rfl ⟨.inl rfl, ⟨rfl, rfl⟩, .inl rfl, .inl rfl, .inl rfl, .inl rfl, .inl rfl, trivial⟩ ⟨⟨rfl, .inl rfl, .inl rfl, .inl rfl, .inl rfl, .inl rfl, trivial⟩, trivial⟩ rfl rfl) trivial ?_
    rintro - - -
    conv => whnf
    refine ⟨fun _ => ?_, fun h => absurd rfl h⟩
    conv => whnf
    refine LoopL.by (fun _ : Unit => ⟨[(1, .tr (stepsT l)), (2, .ptr 0 0), (7, .tr (.v (.slice none 0 0))), (11, .tr (.v (.slice none 0 0))), (55, .tr (ti 0)), (56, .tr (ti 0))], [(0, .cells 25 [.tr (intsT memory), .tr (ti shared), .tr (ti locks), .tr (ti buffer), .tr (coresT cores)])], 10⟩) (fun _ => True) (fun _ => 0) () [_] [] (Sub.mk' rfl ⟨.inl rfl, ⟨rfl, rfl⟩, .inl rfl, .inl rfl, .inl rfl, .inl rfl, trivial⟩ ⟨⟨rfl, .inl rfl, .inl rfl, .inl rfl, .inl rfl, .inl rfl, trivial⟩, trivial⟩ rfl rfl) trivial ?_
    rintro - - -
    conv => whnf
    refine ⟨fun _ => ?_, fun h => absurd rfl h⟩
    conv => whnf
    refine LoopL.by (fun _ : Unit => ⟨[(1, .tr (stepsT l)), (2, .ptr 0 0), (7, .tr (.v (.slice none 0 0))), (65, .tr (ti 0)), (66, .tr (ti 0))], [(0, .cells 25 [.tr (intsT memory), .tr (ti shared), .tr (ti locks), .tr (ti buffer), .tr (coresT cores)])], 10⟩) (fun _ => True) (fun _ => 0) () [_] [] (Sub.mk' rfl ⟨.inl rfl, ⟨rfl, rfl⟩, .inl rfl, .inl rfl, .inl rfl, trivial⟩ ⟨⟨rfl, .inl rfl, .inl rfl, .inl rfl, .inl rfl, .inl rfl, trivial⟩, trivial⟩ rfl rfl) trivial ?_
    rintro - - -
    conv => whnf
    refine ⟨fun _ => ?_, fun h => absurd rfl h⟩
    conv => whnf
    refine acall.pure _ (h5) rfl rfl fun _ => ?_
    conv => whnf
    refine acall.gen [] [] _ _ _ _ h6 rfl rfl rfl rfl ⟨.inr ⟨rfl, _, _, rfl⟩, .inr ⟨rfl, _, _, rfl⟩, trivial⟩ trivial rfl rfl fun _ => ?_
    conv => whnf
    refine acall.gen [] [] _ _ _ _ h7 rfl rfl rfl rfl ⟨⟨.inl rfl, .inl rfl, .inl rfl, .inl rfl, .inl rfl, trivial⟩, .inr ⟨rfl, _, _, rfl⟩, trivial⟩ trivial rfl rfl fun _ => ?_
    conv => whnf
    refine acall.pure _ (h8) rfl rfl fun _ => ?_
    conv => whnf
    exact ⟨.inl rfl, trivial⟩
  · conv => whnf
    refine acall.pure _ (hlv) rfl rfl fun _ => ?_
    conv => whnf
    refine acall.pure _ (h1) rfl rfl fun _ => ?_
    conv => whnf
    refine acall.pure _ (h1) rfl rfl fun _ => ?_
    conv => whnf
    refine acall.gen [] [] _ _ _ _ h3 rfl rfl rfl rfl ⟨.inr ⟨rfl, _, _, rfl⟩, trivial⟩ trivial rfl rfl fun _ => ?_
    conv => whnf
    refine acall.gen [] [] _ _ _ _ h4 rfl rfl rfl rfl ⟨⟨.inl rfl, .inl rfl, .inl rfl, .inl rfl, .inl rfl, trivial⟩, .inr ⟨rfl, _, _, rfl⟩, trivial⟩ trivial rfl rfl fun _ => ?_
    conv => whnf
    refine LoopL.by (fun _ : Unit => ⟨[(1, .tr (stepsT l)), (2, .ptr 0 0), (7, .tr (.v (.slice none 0 0))), (9, .tr (stepsT [])), (11, .tr (evtsT [])), (45, .tr (ti 0)), (46, .tr (ti 0))], [(0, .cells 25 [.tr (intsT memory), .tr (ti shared), .tr (ti locks), .tr (ti buffer), .tr (coresT cores)])], 10⟩) (fun _ => True) (fun _ => 0) () [_] [] (Sub.mk' rfl ⟨.inl rfl, ⟨rfl, rfl⟩, .inl rfl, .inl rfl, .inl rfl, .inl rfl, .inl rfl, trivial⟩ ⟨⟨rfl, .inl rfl, .inl rfl, .inl rfl, .inl rfl, .inl rfl, trivial⟩, trivial⟩ rfl rfl) trivial ?_
    rintro - - -
    conv => whnf
    refine ⟨fun _ => ?_, fun h => absurd rfl h⟩
    conv => whnf
    refine LoopL.by (fun _ : Unit => ⟨[(1, .tr (stepsT l)), (2, .ptr 0 0), (7, .tr (.v (.slice none 0 0))), (11, .tr (evtsT [])), (55, .tr (ti 0)), (56, .tr (ti 0))], [(0, .cells 25 [.tr (intsT memory), .tr (ti shared), .tr (ti locks), .tr (ti buffer), .tr (coresT cores)])], 10⟩) (fun _ => True) (fun _ => 0) () [_] [] (Sub.mk' rfl ⟨.inl rfl, ⟨rfl, rfl⟩, .inl rfl, .inl rfl, .inl rfl, .inl rfl, trivial⟩ ⟨⟨rfl, .inl rfl, .inl rfl, .inl rfl, .inl rfl, .inl rfl, trivial⟩, trivial⟩ rfl rfl) trivial ?_
    rintro - - -
    conv => whnf
    refine ⟨fun _ => ?_, fun h => absurd rfl h⟩
    conv => whnf
    refine LoopL.by (fun _ : Unit => ⟨[(1, .tr (stepsT l)), (2, .ptr 0 0), (7, .tr (.v (.slice none 0 0))), (65, .tr (ti 0)), (66, .tr (ti 0))], [(0, .cells 25 [.tr (intsT memory), .tr (ti shared), .tr (ti locks), .tr (ti buffer), .tr (coresT cores)])], 10⟩) (fun _ => True) (fun _ => 0) () [_] [] (Sub.mk' rfl ⟨.inl rfl, ⟨rfl, rfl⟩, .inl rfl, .inl rfl, .inl rfl, trivial⟩ ⟨⟨rfl, .inl rfl, .inl rfl, .inl rfl, .inl rfl, .inl rfl, trivial⟩, trivial⟩ rfl rfl) trivial ?_
    rintro - - -
    conv => whnf
    refine ⟨fun _ => ?_, fun h => absurd rfl h⟩
    conv => whnf
    refine acall.pure _ (h5) rfl rfl fun _ => ?_
    conv => whnf
    refine acall.gen [] [] _ _ _ _ h6 rfl rfl rfl rfl ⟨.inr ⟨rfl, _, _, rfl⟩, .inr ⟨rfl, _, _, rfl⟩, trivial⟩ trivial rfl rfl fun _ => ?_
    conv => whnf
    refine acall.gen [] [] _ _ _ _ h7 rfl rfl rfl rfl ⟨⟨.inl rfl, .inl rfl, .inl rfl, .inl rfl, .inl rfl, trivial⟩, .inr ⟨rfl, _, _, rfl⟩, trivial⟩ trivial rfl rfl fun _ => ?_
    conv => whnf
    refine acall.pure _ (h8) rfl rfl fun _ => ?_
    conv => whnf
    exact ⟨.inl rfl, trivial⟩
theorem kTOwn (o : Ob) (l : List Stp) : K 4 [o.av, .tr (stepsT l)] [] (.ret (.tr (tb true))) [] := by
  by_cases h : playE o l = 0
  · have hc : (checkO o).1 = 0 := by
      unfold playE at h
      cases hq : ((checkO o).1 == 0) && decide ((l.length : Int) > 1048576) with
      | true => rw [hq] at h; cases h
      | false => rw [hq] at h; exact h
    have hl : l.length ≤ 1048576 := by
      unfold playE at h
      rw [hc] at h
      cases hq : decide ((l.length : Int) > 1048576) with
      | true => rw [hq] at h; cases h
      | false => have := of_decide_eq_false hq; omega
    exact kTOwn0 o l hc hl
  · exact kTOwnE o l h
end Go.Proofs.YtcpolpbeimhgfaaGreat.am

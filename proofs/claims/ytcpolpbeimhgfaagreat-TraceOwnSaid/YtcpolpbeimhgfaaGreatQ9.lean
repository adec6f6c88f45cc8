/- Contracts of the reference's machine: Run. Contracts of the reference's machine: Copy, as one sees it; Drain. Contracts of the reference's machine: Run, Step, in one. Contracts of trace: Events. Contracts of the reference: right objects. Contracts of the reference of trace: right Dids. Contracts of the reference of trace: Rights. Contracts of the reference of trace: event, Events, SameEvents. Print, of the package and of the reference. Contracts of the reference of trace: step. -/
import Derived.Test.YtcpolpbeimhgfaaGreatQ8
import Derived.Test.YtcpolpbeimhgfaaGreatQ5
import Derived.Test.YtcpolpbeimhgfaaGreatQ7
import Derived.Test.YtcpolpbeimhgfaaGreatProg
import Derived.WalkLawsBesides
import Derived.Deep.WholeRow
import Derived.Lib.Hide
import Derived.Below
import Derived.ShutString
set_option linter.all false

namespace Go.Proofs.YtcpolpbeimhgfaaGreat.am
open Go Go.Proofs
theorem row_lf {c : Cst} (h : c.regs.length = 16) : ∀ (k : Nat) (t : Tr), 0 ≤ k → k < 0 + 19 → k ≠ 18 → c.row[k]? = some t → ∃ x, t = .v x := by
  intro k t _ h1 h2 h3
  match k with
  | 0 => cases h3; exact ⟨_, rfl⟩
  | 1 => cases h3; exact ⟨_, rfl⟩
  | k + 2 =>
    have h3 : (c.regs.map ti ++ [bufT c.buf])[k]? = some t := h3
    rw [List.getElem?_append_left (by rw [List.length_map]; omega), List.getElem?_map, Option.map_eq_some_iff] at h3
    obtain ⟨x, _, rfl⟩ := h3
    exact ⟨_, rfl⟩
/-- a core's own row -/
abbrev rowX (c : Cst) : List Tr := ti c.at_ :: tb c.halted :: (c.regs.map ti ++ [.v (.slice none 0 0)])
theorem rowX_reg {c : Cst} (h : c.regs.length = 16) {d : Int} (h0 : 0 ≤ d) (h1 : d < 16) {t : Tr} (ht : (rowX c)[0 + 2 + d.toNat * 1]? = some t) : t = ti (c.reg d) := by
  have e : (ti c.at_ :: tb c.halted :: (c.regs.map ti ++ [Tr.v (.slice none 0 0)]))[2 + d.toNat]? = some t := by
    rw [show 2 + d.toNat = 0 + 2 + d.toNat * 1 by omega]; exact ht
  rw [Nat.add_comm, List.getElem?_cons_succ, List.getElem?_cons_succ, List.getElem?_append_left (by rw [List.length_map]; omega), List.getElem?_map, Option.map_eq_some_iff] at e
  obtain ⟨x, h2, rfl⟩ := e
  unfold Cst.reg
  rw [List.getD_eq_getElem?_getD, h2]
  rfl
theorem rowX_len {c : Cst} (h : c.regs.length = 16) : (rowX c).length = 19 := by simp [rowX, h]
theorem rowX_set {c : Cst} (h : c.regs.length = 16) {d : Int} (h0 : 0 ≤ d) (h1 : d < 16) (w : Int) : (rowX c).take (0 + 2 + d.toNat * 1) ++ [ti w] ++ (rowX c).drop (0 + 2 + d.toNat * 1 + 1) = rowX (c.setReg d w) := by
  obtain ⟨n, rfl⟩ := Int.eq_ofNat_of_zero_le h0
  have hn : n < 16 := by omega
  show (ti c.at_ :: tb c.halted :: (c.regs.map ti ++ [Tr.v (.slice none 0 0)])).take (0 + 2 + n * 1) ++ [ti w] ++ (ti c.at_ :: tb c.halted :: (c.regs.map ti ++ [Tr.v (.slice none 0 0)])).drop (0 + 2 + n * 1 + 1) = ti c.at_ :: tb c.halted :: ((c.regs.set n w).map ti ++ [Tr.v (.slice none 0 0)])
  rw [show 0 + 2 + n * 1 + 1 = (n + 1) + 1 + 1 by omega, show 0 + 2 + n * 1 = n + 1 + 1 by omega, List.take_succ_cons, List.take_succ_cons, List.drop_succ_cons, List.drop_succ_cons, List.cons_append, List.cons_append, List.cons_append, List.cons_append]
  rw [List.take_append_of_le_length (by rw [List.length_map]; omega), List.drop_append_of_le_length (by rw [List.length_map]; omega), List.map_set, ← List.append_assoc]
  congr 3
  rw [List.set_eq_take_append_cons_drop, if_pos (by rw [List.length_map]; omega), List.append_assoc]; rfl
theorem lnk_lo {p : Nat × Nat} {d : Int} (h1 : d < 16) : lnk [((0, 18), p)] 0 (0 + 2 + d.toNat * 1) = none := by
  show (bif Nat.beq 18 _ && Nat.beq 0 0 then _ else _) = _
  rw [show Nat.beq 18 (0 + 2 + d.toNat * 1) = false by
    rw [Bool.eq_false_iff]; intro h; have := Nat.eq_of_beq_eq_true h; omega]
  rfl
theorem vleaf (l : List Value) {j : Nat} {t : Tr} (h : (l.map Tr.v)[j]? = some t) : ∃ x, t = .v x := by
  rw [List.getElem?_map, Option.map_eq_some_iff] at h
  obtain ⟨x, _, h⟩ := h
  exact ⟨x, h.symm⟩
theorem lnCut_lo {p : Nat × Nat} {d : Int} (h1 : d < 16) : lnCut (0 + 2 + d.toNat * 1) 1 [((0, 18), p)] = [((0, 18), p)] := by
  show (bif Nat.ble _ 18 && Nat.blt 18 _ then _ else _) = _
  rw [show Nat.blt 18 (0 + 2 + d.toNat * 1 + 1) = false by
    rw [Bool.eq_false_iff]; intro h; have := Nat.le_of_ble_eq_true h; omega, Bool.and_false]
  rfl
theorem rowX_nil {c : Cst} (h : c.regs.length = 16) : (rowX c).take (0 + 18) ++ [Tr.v (.slice none 0 0)] ++ (rowX c).drop (0 + 18 + 1) = rowX c := by
  obtain ⟨ca, ch, cr, cb⟩ := c
  obtain ⟨r0, r1, r2, r3, r4, r5, r6, r7, r8, r9, r10, r11, r12, r13, r14, r15, rfl⟩ := regs16 h
  rfl
theorem setC_len {rows : List (List Tr)} {i j : Nat} {t : Tr} : (setC rows i j t).length = rows.length := by
  simp [setC]
theorem csX {cores : List Cst} {k n : Nat} {r : List Tr} {t : Tr} {c : Cst} (hk : k < cores.length) (hn : n = cores.length) (e : r.set 18 t = c.row) : csT (cores.set k c) = .lst 19 168 ((setC ((cores.map Cst.row).set k r) k 18 t).take n) := by
  rw [setC_set (by rw [List.length_map]; exact hk), e, cores_set, List.take_of_length_le (by rw [List.length_map, List.length_set, hn]; exact Nat.le_refl _)]
theorem rowX_off {c : Cst} (h : c.regs.length = 16) {d : Int} (h1 : d < 16) : 0 + 2 + d.toNat * 1 < (rowX c).length := by rw [rowX_len h]; omega
theorem rowX_off1 {c : Cst} (h : c.regs.length = 16) {d : Int} (h1 : d < 16) : 0 + 2 + d.toNat * 1 + 1 ≤ (rowX c).length := by rw [rowX_len h]; omega
set_option maxRecDepth 100000 in
set_option maxHeartbeats 8000000 in
theorem z_run (s : Mst) (hI : VInv s) (hp : s.prints.length ≤ 1048577) (k : Nat) {c : Cst} {i : Ins} {r : Cor} (hc : s.cores[k]? = some c) (hr : s.o.cores[k]? = some r) (hi : r.code[c.at_.toNat]? = some i) (hh : c.halted = false) (hst : stallB s c i = false) :
    K 46 [stA s, .tr (ti k)] [] (.ret (.tup [stA (runS s k c i).1, (runS s k c i).2.av, .tr (ti 0)])) [] := by
  have hIc := hI.core k c r hc hr
  have hg := check_good hI.chk
  have hR := right_i (hg.right r (List.mem_of_getElem? hr) i (List.mem_of_getElem? hi))
  have h16 := hIc.regs
  have hw := z_waits s k hc h16 hr hIc.at0 hi
  rw [hst] at hw
  have hml : s.mem.length ≤ 4096 := by rw [hI.mem]; exact hg.mem
  have hkl8 : s.cores.length ≤ 8 := by rw [hI.len]; exact hg.cores
  have h16a : ∀ c ∈ s.cores, c.regs.length = 16 := fun c hc => by
    obtain ⟨j, hj⟩ := List.mem_iff_getElem?.1 hc
    obtain ⟨r', hr'⟩ := hI.cor hj
    exact (hI.core j c r' hj hr').regs
  have hba : ∀ c ∈ s.cores, c.buf.length ≤ 64 := fun c hc => by
    obtain ⟨j, hj⟩ := List.mem_iff_getElem?.1 hc
    obtain ⟨r', hr'⟩ := hI.cor hj
    have := (hI.core j c r' hj hr').buf
    have := hg.buffer
    omega
  have hcp := z_copy s h16a hba hml hkl8 (by omega)
  have hbc := hba c (List.mem_of_getElem? hc)
  have hsee := fun ha0 ha1 => z_seen s k c i.addr h16 hbc ha0 ha1
  have hadr := hR.addr
  have hmemI := hI.mem
  generalize hRes : runS s k c i = RS
  have hk0 := hR.kind
  have hD := hR.d
  have hA := hR.a
  have hBB := hR.b
  have hop := hR.op
  have hat := hIc.at0
  have hat1 := hIc.at1
  have hcode := (hg.code r (List.mem_of_getElem? hr)).2
  clear hI hIc hg hR h16a hba hst
  obtain ⟨o, cores, mem, prints⟩ := s
  obtain ⟨memory, shared, locks, buffer, ocores⟩ := o
  simp only at hc hr hp hml hkl8 hadr hmemI
  have hkl : k < cores.length := (List.getElem?_eq_some_iff.1 hc).1
  have hkr : k < ocores.length := (List.getElem?_eq_some_iff.1 hr).1
  have hci : c.at_ < (r.code.length : Int) := hat1
  have hcl : (cores.map Cst.row).length = cores.length := List.length_map ..
  obtain ⟨ca, ch, cr, cb⟩ := c
  simp only at hh hbc hat hci hat1
  subst hh
  obtain ⟨r0, r1, r2, r3, r4, r5, r6, r7, r8, r9, r10, r11, r12, r13, r14, r15, rfl⟩ := regs16 h16
  have hw1 : IntKind.i64.wrap (ca + 1) = ca + 1 := by rw [w64 (by omega) (by omega)]
  refine Ctr.pk [8, 11, 46] hT hmix Tryz.func46 rfl (fun _ _ => by kernel_rfl) rfl fun hok => ?_
  clear hok
  conv => whnf
  refine ⟨rfl, (show (0 : Int) ≤ k by omega), (show (k : Int) < ((cores.map Cst.row).length : Int) by rw [hcl]; omega), fun row hrow => ?_⟩
  obtain rfl := row_of hc hrow
  clear hrow
  conv => whnf
  refine acall.pure _ (hw) rfl rfl fun _ => ?_
  conv => whnf
  refine acall.new [] [] _ _ _ _ hcp rfl rfl rfl rfl aut aut rfl rfl fun _ => ?_
  conv => whnf
  refine CutL.by (fun _ : Unit => ⟨[(1, .tr (ti k)), (2, .ptr 0 0), (4, .ptr 1 0), (5, .ptr 2 0), (8, .vpt 6 19 0 0)], [(0, .cells 72 [.tr (intsT memory), .tr (ti shared), .tr (ti locks), .tr (ti buffer), .tr (coresT ocores), .sl 3 cores.length, .sl 4 mem.length, .sl 5 prints.length]), (1, .cells 72 [.tr (.v (.slice none 0 0)), .tr (ti 0), .tr (ti 0), .tr (ti 0), .tr (.v (.slice none 0 0)), .tr (.v (.slice none 0 0)), .tr (.v (.slice none 0 0)), .tr (.v (.slice none 0 0))]), (2, diB zeroD), (3, .own 19 168 (cores.map Cst.row) [((k, 18), (7, cb.length))]), (4, meB mem), (5, prB prints), (6, .own 19 168 [[ti ca, tb false, ti r0, ti r1, ti r2, ti r3, ti r4, ti r5, ti r6, ti r7, ti r8, ti r9, ti r10, ti r11, ti r12, ti r13, ti r14, ti r15, .v (.slice none 0 0)]] [((0, 18), (7, cb.length))]), (7, .own 3 24 (cb.map Sto.row) [])], 10⟩) (fun _ => True) ?_ ?_
  · conv => whnf
    refine ⟨rfl, (show (0 : Int) ≤ k by omega), (show (k : Int) < (cores.length : Int) by omega), ?_⟩
    conv => whnf
    refine ⟨rfl, (by rw [hcl]; exact hkl), fun row hrow => ?_⟩
    obtain rfl := row_of hc hrow
    clear hrow
    refine ⟨Nat.le_refl _, .inr ⟨18, 3, 24, cb.map Sto.row, by decide, by decide, rfl, by decide, fun _ _ _ => rfl, row_lf h16, ?_⟩⟩
    conv => whnf
    refine .inr ?_
    conv => whnf
    refine ⟨rfl, rfl, rfl, Nat.le_of_ble_eq_true rfl, trivial, fun row hrow => ?_⟩
    cases hrow
    refine ⟨Nat.le_of_ble_eq_true rfl, ?_⟩
    conv => whnf
    exact ⟨(), [_, _, _, _, _, _, _, 22], [], Sub.mk' rfl ⟨.inl rfl, ⟨rfl, rfl⟩, ⟨rfl, rfl⟩, ⟨rfl, rfl⟩, ⟨rfl, rfl, rfl, rfl⟩, trivial⟩ ⟨⟨rfl, .inl rfl, .inl rfl, .inl rfl, .inl rfl, .inl rfl, ⟨rfl, rfl⟩, ⟨rfl, rfl⟩, ⟨rfl, rfl⟩, trivial⟩, ⟨rfl, .inl rfl, .inl rfl, .inl rfl, .inl rfl, .inl rfl, .inl rfl, .inl rfl, .inl rfl, trivial⟩, ⟨rfl, .inl rfl, .inl rfl, .inl rfl, .inl rfl, .inl rfl, .inl rfl, .inl rfl, trivial⟩, ⟨rfl, rfl, (by rw [List.length_map]; rfl), rfl, .inl rfl⟩, ⟨rfl, rfl, rfl, rfl⟩, ⟨rfl, rfl, rfl, rfl⟩, ⟨rfl, rfl, (by rw [List.length_map]; rfl), rfl, .inl rfl⟩, ⟨rfl, rfl, rfl, rfl, .inl rfl⟩, trivial⟩ rfl rfl, trivial⟩
  rintro - - -
  conv => whnf
  refine ⟨rfl, (show (0 : Int) ≤ k by omega), (show (k : Int) < ((ocores.map Cor.cells).length : Int) by rw [List.length_map]; omega), fun row hrow => ?_⟩
  obtain ⟨r', hr', rfl⟩ := cor_get hrow
  obtain rfl : r = r' := Option.some.inj (hr.symm.trans hr')
  clear hrow hr'
  conv => whnf
  refine ⟨rfl, Nat.le_of_ble_eq_true rfl, fun row hrow => ?_⟩
  cases hrow
  refine ⟨Nat.le_of_ble_eq_true rfl, fun t ht => ?_⟩
  cases ht
  conv => whnf
  refine ⟨rfl, hat, (show ca < ((r.code.map Ins.cells).length : Int) by rw [List.length_map]; exact hci), fun row hrow => ?_⟩
  obtain ⟨i', hi', rfl⟩ := ins_get hrow
  obtain rfl : i = i' := Option.some.inj (hi.symm.trans hi')
  clear hrow hi'
  obtain ⟨kind, op, D, a, b, addr, to_, word, from_⟩ := i
  simp only at hk0 hD hA hBB hop hadr hsee
  conv => whnf
  refine ⟨by kernel_rfl, fun _ => ?_⟩
  conv => whnf
  refine ⟨rfl, Nat.le_of_ble_eq_true rfl, fun row hrow => ?_⟩
  cases hrow
  refine ⟨Nat.le_of_ble_eq_true rfl, fun t ht => ?_⟩
  cases ht
  conv => whnf
  obtain ⟨C, hC⟩ : ∃ C : Cst, C = ⟨ca, false, [r0, r1, r2, r3, r4, r5, r6, r7, r8, r9, r10, r11, r12, r13, r14, r15], cb⟩ := ⟨_, rfl⟩
  have hCr : rowX C = [ti ca, tb false, ti r0, ti r1, ti r2, ti r3, ti r4, ti r5, ti r6, ti r7, ti r8, ti r9, ti r10, ti r11, ti r12, ti r13, ti r14, ti r15, .v (.slice none 0 0)] := by rw [hC]; rfl
  have hC16 : C.regs.length = 16 := by rw [hC]; rfl
  refine CutL.by (fun _ : Unit => ⟨[(1, .tr (ti k)), (2, .ptr 0 0), (4, .ptr 1 0), (5, .ptr 2 0), (8, .vpt 6 19 0 0), (9, .ptr 7 0), (10, .ptr 8 0), (11, .tr (ti (ca + 1)))], [(0, .cells 72 [.tr (intsT memory), .tr (ti shared), .tr (ti locks), .tr (ti buffer), .tr (coresT ocores), .sl 3 cores.length, .sl 4 mem.length, .sl 5 prints.length]), (1, .cells 72 [.tr (.v (.slice none 0 0)), .tr (ti 0), .tr (ti 0), .tr (ti 0), .tr (.v (.slice none 0 0)), .tr (.v (.slice none 0 0)), .tr (.v (.slice none 0 0)), .tr (.v (.slice none 0 0))]), (2, diB zeroD), (3, .own 19 168 (cores.map Cst.row) [((k, 18), (9, cb.length))]), (4, meB mem), (5, prB prints), (6, .own 19 168 [rowX C] [((0, 18), (9, cb.length))]), (7, .cells 82 [.tr (tu kind), .tr (tu op), .tr (ti D), .tr (ti a), .tr (ti b), .tr (ti addr), .tr (ti to_), .tr (ti word), .tr (ti from_)]), (8, diB ⟨1, k, ca, 0, 0, 0, false⟩), (9, .own 3 24 (cb.map Sto.row) [])], 10⟩) (fun _ => True) ?_ ?_
  · conv => whnf
    refine ⟨rfl, Nat.le_of_ble_eq_true rfl, fun row hrow => ?_⟩
    cases hrow
    refine ⟨Nat.le_of_ble_eq_true rfl, fun t ht => ?_⟩
    cases ht
    conv => whnf
    exact ⟨(), [_, _, _, _, _, _, _, _, _, 7], [], Sub.mk' rfl ⟨.inl rfl, ⟨rfl, rfl⟩, ⟨rfl, rfl⟩, ⟨rfl, rfl⟩, ⟨rfl, rfl, rfl, rfl⟩, ⟨rfl, rfl⟩, ⟨rfl, rfl⟩, .inl (congrArg ti hw1), trivial⟩ ⟨⟨rfl, .inl rfl, .inl rfl, .inl rfl, .inl rfl, .inl rfl, ⟨rfl, rfl⟩, ⟨rfl, rfl⟩, ⟨rfl, rfl⟩, trivial⟩, ⟨rfl, .inl rfl, .inl rfl, .inl rfl, .inl rfl, .inl rfl, .inl rfl, .inl rfl, .inl rfl, trivial⟩, ⟨rfl, .inl rfl, .inl rfl, .inl rfl, .inl rfl, .inl rfl, .inl rfl, .inl rfl, trivial⟩, ⟨rfl, rfl, rfl, rfl, .inl rfl⟩, ⟨rfl, rfl, rfl, rfl⟩, ⟨rfl, rfl, rfl, rfl⟩, ⟨rfl, rfl, rfl, rfl, .inl (by rw [hCr])⟩, ⟨rfl, .inl rfl, .inl rfl, .inl rfl, .inl rfl, .inl rfl, .inl rfl, .inl rfl, .inl rfl, .inl rfl, trivial⟩, ⟨rfl, .inl rfl, .inl rfl, .inl rfl, .inl rfl, .inl rfl, .inl rfl, .inl rfl, trivial⟩, ⟨rfl, rfl, rfl, rfl, .inl rfl⟩, trivial⟩ rfl rfl, trivial⟩
  rintro - - -
  have hkk : kind = 1 ∨ kind = 2 ∨ kind = 3 ∨ kind = 4 ∨ kind = 5 ∨ kind = 6 ∨ kind = 7 ∨ kind = 8 ∨ kind = 9 ∨ kind = 10 := by omega
  have hmm : ∀ m : List Int, m = mem → mem.length = m.length := fun m h => by rw [h]
  refine CutL.by (fun t : Cst × (Int × (Did × (List Int × (List Prn × (List Sto × Nat))))) => ⟨[(1, .tr (ti k)), (2, .ptr 0 0), (4, .ptr 1 0), (5, .ptr 2 0), (8, .vpt 6 19 0 0), (10, .ptr 7 0), (11, .tr (ti t.2.1))], [(0, .cells 72 [.tr (intsT memory), .tr (ti shared), .tr (ti locks), .tr (ti buffer), .tr (coresT ocores), .sl 3 cores.length, .sl 4 t.2.2.2.1.length, .sl 5 t.2.2.2.2.1.length]), (1, .cells 72 [.tr (.v (.slice none 0 0)), .tr (ti 0), .tr (ti 0), .tr (ti 0), .tr (.v (.slice none 0 0)), .tr (.v (.slice none 0 0)), .tr (.v (.slice none 0 0)), .tr (.v (.slice none 0 0))]), (2, diB zeroD), (3, .own 19 168 (cores.map Cst.row) [((k, 18), (t.2.2.2.2.2.2, cb.length))]), (4, meB t.2.2.2.1), (5, prB t.2.2.2.2.1), (6, .own 19 168 [rowX t.1] [((0, 18), (8, t.2.2.2.2.2.1.length))]), (7, diB t.2.2.1), (8, .own 3 24 (t.2.2.2.2.2.1.map Sto.row) [])], 10⟩) (fun t => RS = (⟨⟨memory, shared, locks, buffer, ocores⟩, cores.set k { t.1 with at_ := t.2.1 }, t.2.2.2.1, t.2.2.2.2.1⟩, t.2.2.1) ∧ t.1.regs.length = 16 ∧ t.1.buf = t.2.2.2.2.2.1) ?_ ?_
  rcases hkk with rfl | rfl | rfl | rfl | rfl | rfl | rfl | rfl | rfl | rfl
  · conv => whnf
    refine ⟨hD.1, hD.2, ?_⟩
    conv => whnf
    refine ⟨rfl, rfl, rfl, Nat.one_pos, ⟨fun _ => rfl, trivial⟩, fun row hrow => ?_⟩
    cases hrow
    refine ⟨rowX_off1 hC16 hD.2, ?_⟩
    conv => whnf
    exact ⟨(C.setReg D word, ca + 1, ⟨1, k, ca, 0, 0, 0, false⟩, mem, prints, cb, 8), [_, _, _, _, _, _, _, _, 9, 7], [], Sub.mk' rfl ⟨.inl rfl, ⟨rfl, rfl⟩, ⟨rfl, rfl⟩, ⟨rfl, rfl⟩, ⟨rfl, rfl, rfl, rfl⟩, ⟨rfl, rfl⟩, .inl rfl, trivial⟩ ⟨⟨rfl, .inl rfl, .inl rfl, .inl rfl, .inl rfl, .inl rfl, ⟨rfl, rfl⟩, ⟨rfl, rfl⟩, ⟨rfl, rfl⟩, trivial⟩, ⟨rfl, .inl rfl, .inl rfl, .inl rfl, .inl rfl, .inl rfl, .inl rfl, .inl rfl, .inl rfl, trivial⟩, ⟨rfl, .inl rfl, .inl rfl, .inl rfl, .inl rfl, .inl rfl, .inl rfl, .inl rfl, trivial⟩, ⟨rfl, rfl, rfl, rfl, .inl rfl⟩, ⟨rfl, rfl, rfl, rfl⟩, ⟨rfl, rfl, rfl, rfl⟩, ⟨rfl, rfl, (congrArg some (lnCut_lo hD.2).symm), ((congrArg List.length (lnCut_lo (p := (9, cb.length)) hD.2)).trans rfl), .inl (congrArg (fun r => [r]) (rowX_set hC16 hD.1 hD.2 _))⟩, ⟨rfl, .inl rfl, .inl rfl, .inl rfl, .inl rfl, .inl rfl, .inl rfl, .inl rfl, trivial⟩, ⟨rfl, rfl, rfl, rfl, .inl rfl⟩, trivial⟩ rfl rfl, (by subst hC; exact hRes.symm), (by exact (List.length_set ..).trans hC16), (by subst hC; rfl)⟩
  · conv => whnf
    refine ⟨hA.1, hA.2, ?_⟩
    conv => whnf
    refine ⟨rfl, Nat.one_pos, fun row hrow => ?_⟩
    cases hrow
    refine ⟨rowX_off hC16 hA.2, fun t ht => ?_⟩
    obtain rfl := rowX_reg hC16 hA.1 hA.2 ht
    clear ht
    conv => whnf
    conv in (lnk _ 0 _) => (change lnk [((0, 18), (_, _))] 0 (0 + 2 + _ * 1); rw [lnk_lo hA.2])
    conv => whnf
    rcases hop rfl with h2 | h2
    · have ho := z_oneN op (C.reg a) h2
      have ht := k_rtwo op
      rw [h2] at ht
      have hd := z_do op (C.reg a) (C.reg b) h2
      have hal : opW op (C.reg a) (C.reg b) = aluW op (C.reg a) (C.reg b) := by unfold aluW; rw [h2]; rfl
      rw [hal] at hd
      refine acall.pure _ (ho) rfl rfl ?_
      conv => whnf
      refine ⟨by kernel_rfl, fun _ => ?_⟩
      conv => whnf
      refine acall.pure _ (ht) rfl rfl fun _ => ?_
      conv => whnf
      refine ⟨hA.1, hA.2, ?_⟩
      conv => whnf
      refine ⟨rfl, Nat.one_pos, fun row hrow => ?_⟩
      cases hrow
      refine ⟨rowX_off hC16 hA.2, fun t ht => ?_⟩
      obtain rfl := rowX_reg hC16 hA.1 hA.2 ht
      clear ht
      conv => whnf
      conv in (lnk _ 0 _) => (change lnk [((0, 18), (_, _))] 0 (0 + 2 + _ * 1); rw [lnk_lo hA.2])
      conv => whnf
      refine ⟨hBB.1, hBB.2, ?_⟩
      conv => whnf
      refine ⟨rfl, Nat.one_pos, fun row hrow => ?_⟩
      cases hrow
      refine ⟨rowX_off hC16 hBB.2, fun t ht => ?_⟩
      obtain rfl := rowX_reg hC16 hBB.1 hBB.2 ht
      clear ht
      conv => whnf
      conv in (lnk _ 0 _) => (change lnk [((0, 18), (_, _))] 0 (0 + 2 + _ * 1); rw [lnk_lo hBB.2])
      conv => whnf
      refine acall.pure _ (hd) rfl rfl ?_
      conv => whnf
      refine ⟨by kernel_rfl, fun _ => ?_⟩
      conv => whnf
      refine ⟨hD.1, hD.2, ?_⟩
      conv => whnf
      refine ⟨rfl, rfl, rfl, Nat.one_pos, ⟨fun _ => rfl, trivial⟩, fun row hrow => ?_⟩
      cases hrow
      refine ⟨rowX_off1 hC16 hD.2, ?_⟩
      conv => whnf
      exact ⟨(C.setReg D (aluW op (C.reg a) (C.reg b)), ca + 1, ⟨1, k, ca, 0, 0, 0, false⟩, mem, prints, cb, 8), [_, _, _, _, _, _, _, _, 9, 7], [], Sub.mk' rfl ⟨.inl rfl, ⟨rfl, rfl⟩, ⟨rfl, rfl⟩, ⟨rfl, rfl⟩, ⟨rfl, rfl, rfl, rfl⟩, ⟨rfl, rfl⟩, .inl rfl, trivial⟩ ⟨⟨rfl, .inl rfl, .inl rfl, .inl rfl, .inl rfl, .inl rfl, ⟨rfl, rfl⟩, ⟨rfl, rfl⟩, ⟨rfl, rfl⟩, trivial⟩, ⟨rfl, .inl rfl, .inl rfl, .inl rfl, .inl rfl, .inl rfl, .inl rfl, .inl rfl, .inl rfl, trivial⟩, ⟨rfl, .inl rfl, .inl rfl, .inl rfl, .inl rfl, .inl rfl, .inl rfl, .inl rfl, trivial⟩, ⟨rfl, rfl, rfl, rfl, .inl rfl⟩, ⟨rfl, rfl, rfl, rfl⟩, ⟨rfl, rfl, rfl, rfl⟩, ⟨rfl, rfl, (congrArg some (lnCut_lo hD.2).symm), ((congrArg List.length (lnCut_lo (p := (9, cb.length)) hD.2)).trans rfl), .inl (congrArg (fun r => [r]) (rowX_set hC16 hD.1 hD.2 _))⟩, ⟨rfl, .inl rfl, .inl rfl, .inl rfl, .inl rfl, .inl rfl, .inl rfl, .inl rfl, trivial⟩, ⟨rfl, rfl, rfl, rfl, .inl rfl⟩, trivial⟩ rfl rfl, (by subst hC; exact hRes.symm), (by exact (List.length_set ..).trans hC16), (by subst hC; rfl)⟩
    · have ho : K 72 [.tr (tu op), .tr (ti (C.reg a))] [] (.ret (.tup [.tr (ti (oneW op (C.reg a))), .tr (ti 0)])) [] := by
        rcases h2 with rfl | rfl
        · exact z_one17 _
        · exact z_one18 _
      have h3 : two op = false := by unfold two; simp; omega
      have ht := k_rtwo op
      rw [h3] at ht
      have hal : oneW op (C.reg a) = aluW op (C.reg a) (C.reg b) := by unfold aluW; rw [h3]; rfl
      rw [hal] at ho
      refine acall.pure _ (ho) rfl rfl ?_
      conv => whnf
      refine ⟨by kernel_rfl, fun _ => ?_⟩
      conv => whnf
      refine acall.pure _ (ht) rfl rfl fun _ => ?_
      conv => whnf
      refine ⟨hD.1, hD.2, ?_⟩
      conv => whnf
      refine ⟨rfl, rfl, rfl, Nat.one_pos, ⟨fun _ => rfl, trivial⟩, fun row hrow => ?_⟩
      cases hrow
      refine ⟨rowX_off1 hC16 hD.2, ?_⟩
      conv => whnf
      exact ⟨(C.setReg D (aluW op (C.reg a) (C.reg b)), ca + 1, ⟨1, k, ca, 0, 0, 0, false⟩, mem, prints, cb, 8), [_, _, _, _, _, _, _, _, 9, 7], [], Sub.mk' rfl ⟨.inl rfl, ⟨rfl, rfl⟩, ⟨rfl, rfl⟩, ⟨rfl, rfl⟩, ⟨rfl, rfl, rfl, rfl⟩, ⟨rfl, rfl⟩, .inl rfl, trivial⟩ ⟨⟨rfl, .inl rfl, .inl rfl, .inl rfl, .inl rfl, .inl rfl, ⟨rfl, rfl⟩, ⟨rfl, rfl⟩, ⟨rfl, rfl⟩, trivial⟩, ⟨rfl, .inl rfl, .inl rfl, .inl rfl, .inl rfl, .inl rfl, .inl rfl, .inl rfl, .inl rfl, trivial⟩, ⟨rfl, .inl rfl, .inl rfl, .inl rfl, .inl rfl, .inl rfl, .inl rfl, .inl rfl, trivial⟩, ⟨rfl, rfl, rfl, rfl, .inl rfl⟩, ⟨rfl, rfl, rfl, rfl⟩, ⟨rfl, rfl, rfl, rfl⟩, ⟨rfl, rfl, (congrArg some (lnCut_lo hD.2).symm), ((congrArg List.length (lnCut_lo (p := (9, cb.length)) hD.2)).trans rfl), .inl (congrArg (fun r => [r]) (rowX_set hC16 hD.1 hD.2 _))⟩, ⟨rfl, .inl rfl, .inl rfl, .inl rfl, .inl rfl, .inl rfl, .inl rfl, .inl rfl, trivial⟩, ⟨rfl, rfl, rfl, rfl, .inl rfl⟩, trivial⟩ rfl rfl, (by subst hC; exact hRes.symm), (by exact (List.length_set ..).trans hC16), (by subst hC; rfl)⟩
  · have hs := hsee (hadr (.inl rfl)).1 (by rw [hmemI]; exact (hadr (.inl rfl)).2)
    subst hC
    conv => whnf
    refine ⟨rfl, Nat.one_pos, fun row hrow => ?_⟩
    cases hrow
    refine ⟨Nat.le_of_ble_eq_true rfl, .inl ⟨fun j t _ _ ht _ => vleaf [_, _, _, _, _, _, _, _, _, _, _, _, _, _, _, _, _, _, _] ht, ?_⟩⟩
    conv => whnf
    refine acall.gen [3, 9] [4, 5] _ _ _ _ hs rfl rfl rfl rfl ⟨⟨.inl rfl, .inl rfl, .inl rfl, .inl rfl, .inl rfl, ⟨rfl, rfl⟩, ⟨rfl, by simp, by rw [List.take_of_length_le (by simp)]⟩, ⟨rfl, by simp, by rw [List.take_of_length_le (by simp)]⟩, trivial⟩, ⟨.inl rfl, .inl rfl, .inl rfl, .inl rfl, .inl rfl, .inl rfl, .inl rfl, .inl rfl, .inl rfl, .inl rfl, .inl rfl, .inl rfl, .inl rfl, .inl rfl, .inl rfl, .inl rfl, .inl rfl, .inl rfl, ⟨rfl, rfl⟩, trivial⟩, .inl rfl, trivial⟩ ⟨⟨rfl, rfl, rfl, rfl, .inl rfl⟩, ⟨rfl, rfl, rfl, rfl, .inl rfl⟩, trivial⟩ rfl rfl fun _ => ?_
    conv => whnf
    refine ⟨hD.1, hD.2, ?_⟩
    conv => whnf
    refine ⟨rfl, rfl, rfl, Nat.one_pos, ⟨fun _ => rfl, trivial⟩, fun row hrow => ?_⟩
    cases hrow
    refine ⟨rowX_off1 hC16 hD.2, ?_⟩
    conv => whnf
    refine ⟨rfl, Nat.one_pos, fun row hrow => ?_⟩
    replace hrow : some ((rowX (Cst.mk ca false [r0, r1, r2, r3, r4, r5, r6, r7, r8, r9, r10, r11, r12, r13, r14, r15] cb)).take (0 + 2 + D.toNat * 1) ++ [ti (seeB cb addr (mem.getD addr.toNat 0, false)).1] ++ (rowX (Cst.mk ca false [r0, r1, r2, r3, r4, r5, r6, r7, r8, r9, r10, r11, r12, r13, r14, r15] cb)).drop (0 + 2 + D.toNat * 1 + 1)) = some row := hrow
    rw [rowX_set hC16 hD.1 hD.2] at hrow
    cases hrow
    refine ⟨by rw [rowX_len (c := (Cst.mk ca false [r0, r1, r2, r3, r4, r5, r6, r7, r8, r9, r10, r11, r12, r13, r14, r15] cb).setReg D _) ((List.length_set ..).trans hC16)]; decide, fun t ht => ?_⟩
    cases ht
    conv => whnf
    conv in (lnk _ 0 _) => (change lnk (lnCut (0 + 2 + _ * 1) 1 [((0, 18), (_, _))]) 0 0; rw [lnCut_lo hD.2])
    conv => whnf
    exact ⟨((Cst.mk ca false [r0, r1, r2, r3, r4, r5, r6, r7, r8, r9, r10, r11, r12, r13, r14, r15] cb).setReg D (seeB cb addr (mem.getD addr.toNat 0, false)).1, ca + 1, ⟨2, k, ca, addr, (seeB cb addr (mem.getD addr.toNat 0, false)).1, 0, (seeB cb addr (mem.getD addr.toNat 0, false)).2⟩, mem, prints, cb, 8), [_, _, _, _, _, _, _, _, 9, 7], [], Sub.mk' rfl ⟨.inl rfl, ⟨rfl, rfl⟩, ⟨rfl, rfl⟩, ⟨rfl, rfl⟩, ⟨rfl, rfl, rfl, rfl⟩, ⟨rfl, rfl⟩, .inl rfl, trivial⟩ ⟨⟨rfl, .inl rfl, .inl rfl, .inl rfl, .inl rfl, .inl rfl, ⟨rfl, rfl⟩, ⟨rfl, rfl⟩, ⟨rfl, rfl⟩, trivial⟩, ⟨rfl, .inl rfl, .inl rfl, .inl rfl, .inl rfl, .inl rfl, .inl rfl, .inl rfl, .inl rfl, trivial⟩, ⟨rfl, .inl rfl, .inl rfl, .inl rfl, .inl rfl, .inl rfl, .inl rfl, .inl rfl, trivial⟩, ⟨rfl, rfl, rfl, rfl, .inl rfl⟩, ⟨rfl, rfl, rfl, rfl⟩, ⟨rfl, rfl, rfl, rfl⟩, ⟨rfl, rfl, (congrArg some (lnCut_lo hD.2).symm), ((congrArg List.length (lnCut_lo (p := (9, cb.length)) hD.2)).trans rfl), .inl (congrArg (fun r => [r]) (rowX_set hC16 hD.1 hD.2 _))⟩, ⟨rfl, .inl rfl, .inl rfl, .inl rfl, .inl rfl, .inl rfl, .inl rfl, .inl rfl, trivial⟩, ⟨rfl, rfl, rfl, rfl, .inl rfl⟩, trivial⟩ rfl rfl, (by exact hRes.symm), (by exact (List.length_set ..).trans hC16), (by rfl)⟩
  · conv => whnf
    refine ⟨rfl, Nat.one_pos, fun row hrow => ?_⟩
    cases hrow
    refine ⟨(by rw [rowX_len hC16]; decide), fun t _ => ?_⟩
    conv => whnf
    refine ⟨rfl, Nat.one_pos, fun row hrow => ?_⟩
    cases hrow
    refine ⟨(by rw [rowX_len hC16]; decide), fun t ht => ?_⟩
    cases ht
    conv => whnf
    refine ⟨hA.1, hA.2, ?_⟩
    conv => whnf
    refine ⟨rfl, Nat.one_pos, fun row hrow => ?_⟩
    cases hrow
    refine ⟨rowX_off hC16 hA.2, fun t ht => ?_⟩
    obtain rfl := rowX_reg hC16 hA.1 hA.2 ht
    clear ht
    conv => whnf
    conv in (lnk _ 0 _) => (change lnk [((0, 18), (_, _))] 0 (0 + 2 + _ * 1); rw [lnk_lo hA.2])
    conv => whnf
    refine ⟨by simp, rfl, Nat.le_refl _, (show (cb.length + 1) * 24 ≤ 150000000000000 by omega), trivial, new_leaf3 _ _ _, trivial, ?_⟩
    conv => whnf
    refine ⟨rfl, rfl, rfl, Nat.one_pos, ⟨fun _ => rfl, trivial⟩, fun row hrow => ?_⟩
    cases hrow
    refine ⟨(by rw [rowX_len hC16]; exact Nat.le_of_ble_eq_true rfl), ?_⟩
    conv => whnf
    refine ⟨by kernel_rfl, fun _ => ?_⟩
    conv => whnf
    refine ⟨rfl, Nat.one_pos, fun row hrow => ?_⟩
    replace hrow : some ((rowX C).take (0 + 18) ++ [Tr.v (.slice none 0 0)] ++ (rowX C).drop (0 + 18 + 1)) = some row := hrow
    rw [rowX_nil hC16] at hrow
    cases hrow
    refine ⟨(by rw [rowX_len hC16]; decide), fun t ht => ?_⟩
    cases ht
    conv => whnf
    refine ⟨hA.1, hA.2, ?_⟩
    conv => whnf
    refine ⟨rfl, Nat.one_pos, fun row hrow => ?_⟩
    replace hrow : some ((rowX C).take (0 + 18) ++ [Tr.v (.slice none 0 0)] ++ (rowX C).drop (0 + 18 + 1)) = some row := hrow
    rw [rowX_nil hC16] at hrow
    cases hrow
    refine ⟨rowX_off hC16 hA.2, fun t ht => ?_⟩
    obtain rfl := rowX_reg hC16 hA.1 hA.2 ht
    clear ht
    conv => whnf
    conv in (lnk _ 0 _) => (change lnk [((0, 18), (_, _))] 0 (0 + 2 + _ * 1); rw [lnk_lo hA.2])
    conv => whnf
    refine ⟨by kernel_rfl, fun _ => ?_⟩
    conv => whnf
    exact ⟨({ C with buf := cb ++ [Sto.mk C.at_ addr (C.reg a)] }, ca + 1, ⟨3, k, C.at_, addr, C.reg a, 0, false⟩, mem, prints, cb ++ [Sto.mk C.at_ addr (C.reg a)], 9), [_, _, _, _, _, _, _, _, 33, 9], [], Sub.mk' rfl ⟨.inl rfl, ⟨rfl, rfl⟩, ⟨rfl, rfl⟩, ⟨rfl, rfl⟩, ⟨rfl, rfl, rfl, rfl⟩, ⟨rfl, rfl⟩, .inl rfl, trivial⟩ ⟨⟨rfl, .inl rfl, .inl rfl, .inl rfl, .inl rfl, .inl rfl, ⟨rfl, rfl⟩, ⟨rfl, rfl⟩, ⟨rfl, rfl⟩, trivial⟩, ⟨rfl, .inl rfl, .inl rfl, .inl rfl, .inl rfl, .inl rfl, .inl rfl, .inl rfl, .inl rfl, trivial⟩, ⟨rfl, .inl rfl, .inl rfl, .inl rfl, .inl rfl, .inl rfl, .inl rfl, .inl rfl, trivial⟩, ⟨rfl, rfl, rfl, rfl, .inl rfl⟩, ⟨rfl, rfl, rfl, rfl⟩, ⟨rfl, rfl, rfl, rfl⟩, ⟨rfl, rfl, (congrArg (fun n : Nat => some [((0, 18), ((33 : Nat), n))]) (List.length_append ..)), rfl, .inl (congrArg (fun r => [r]) (rowX_nil hC16))⟩, ⟨rfl, .inl rfl, .inl rfl, .inl rfl, .inl rfl, .inl rfl, .inl rfl, .inl rfl, trivial⟩, ⟨rfl, rfl, rfl, rfl, .inl (by rw [List.map_append]; rfl)⟩, trivial⟩ rfl rfl, (by subst hC; exact hRes.symm), (by exact hC16), (by subst hC; rfl)⟩
  · have hm0 := (hadr (.inr (.inr rfl))).1
    have hm1 : addr < (mem.length : Int) := by rw [hmemI]; exact (hadr (.inr (.inr rfl))).2
    conv => whnf
    refine ⟨rfl, hm0, (show addr < (mem.length : Int) from hm1), ?_⟩
    conv => whnf
    refine ⟨rfl, by rw [List.length_map]; show addr.toNat < mem.length; omega, fun row hrow => ?_⟩
    obtain ⟨x, hx, rfl⟩ := mem_get hrow
    obtain rfl : x = mem.getD addr.toNat 0 := by rw [List.getD_eq_getElem?_getD, show mem[addr.toNat]? = some x from hx]; rfl
    refine ⟨Nat.zero_lt_one, fun t ht => ?_⟩
    obtain rfl : t = ti (mem.getD addr.toNat 0) := (Option.some.inj ht).symm
    clear hrow ht hx
    conv => whnf
    refine ⟨hD.1, hD.2, ?_⟩
    conv => whnf
    refine ⟨rfl, Nat.one_pos, fun row hrow => ?_⟩
    cases hrow
    refine ⟨rowX_off hC16 hD.2, fun t ht => ?_⟩
    obtain rfl := rowX_reg hC16 hD.1 hD.2 ht
    clear ht
    conv => whnf
    conv in (lnk _ 0 _) => (change lnk [((0, 18), (_, _))] 0 (0 + 2 + _ * 1); rw [lnk_lo hD.2])
    conv => whnf
    refine ⟨rfl, hm0, (show addr < (mem.length : Int) from hm1), ?_⟩
    conv => whnf
    refine ⟨rfl, rfl, by rw [List.length_map]; show addr.toNat < mem.length; omega, fun row hrow => ?_⟩
    obtain ⟨y, _, rfl⟩ := mem_get hrow
    refine ⟨Nat.le_refl _, ?_⟩
    clear hrow
    conv => whnf
    refine ⟨by kernel_rfl, fun _ => ?_⟩
    conv => whnf
    refine ⟨rfl, Nat.one_pos, fun row hrow => ?_⟩
    cases hrow
    refine ⟨(by rw [rowX_len hC16]; decide), fun t ht => ?_⟩
    cases ht
    conv => whnf
    refine ⟨hD.1, hD.2, ?_⟩
    conv => whnf
    refine ⟨rfl, Nat.one_pos, fun row hrow => ?_⟩
    cases hrow
    refine ⟨rowX_off hC16 hD.2, fun t ht => ?_⟩
    obtain rfl := rowX_reg hC16 hD.1 hD.2 ht
    clear ht
    conv => whnf
    conv in (lnk _ 0 _) => (change lnk [((0, 18), (_, _))] 0 (0 + 2 + _ * 1); rw [lnk_lo hD.2])
    conv => whnf
    refine ⟨by kernel_rfl, fun _ => ?_⟩
    conv => whnf
    refine ⟨hD.1, hD.2, ?_⟩
    conv => whnf
    refine ⟨rfl, rfl, rfl, Nat.one_pos, ⟨fun _ => rfl, trivial⟩, fun row hrow => ?_⟩
    cases hrow
    refine ⟨rowX_off1 hC16 hD.2, ?_⟩
    conv => whnf
    exact ⟨(C.setReg D (mem.getD addr.toNat 0), ca + 1, ⟨4, k, C.at_, addr, mem.getD addr.toNat 0, C.reg D, false⟩, mem.set addr.toNat (C.reg D), prints, cb, 8), [_, _, _, _, _, _, _, _, 9, 7], [], Sub.mk' rfl ⟨.inl rfl, ⟨rfl, rfl⟩, ⟨rfl, rfl⟩, ⟨rfl, rfl⟩, ⟨rfl, rfl, rfl, rfl⟩, ⟨rfl, rfl⟩, .inl rfl, trivial⟩ ⟨⟨rfl, .inl rfl, .inl rfl, .inl rfl, .inl rfl, .inl rfl, ⟨rfl, rfl⟩, ⟨rfl, (List.length_set ..).symm⟩, ⟨rfl, rfl⟩, trivial⟩, ⟨rfl, .inl rfl, .inl rfl, .inl rfl, .inl rfl, .inl rfl, .inl rfl, .inl rfl, .inl rfl, trivial⟩, ⟨rfl, .inl rfl, .inl rfl, .inl rfl, .inl rfl, .inl rfl, .inl rfl, .inl rfl, trivial⟩, ⟨rfl, rfl, rfl, rfl, .inl rfl⟩, ⟨rfl, rfl, rfl, mem_set mem addr.toNat _ rfl⟩, ⟨rfl, rfl, rfl, rfl⟩, ⟨rfl, rfl, (congrArg some (lnCut_lo hD.2).symm), ((congrArg List.length (lnCut_lo (p := (9, cb.length)) hD.2)).trans rfl), .inl (congrArg (fun r => [r]) (rowX_set hC16 hD.1 hD.2 _))⟩, ⟨rfl, .inl rfl, .inl rfl, .inl rfl, .inl rfl, .inl rfl, .inl rfl, .inl rfl, trivial⟩, ⟨rfl, rfl, rfl, rfl, .inl rfl⟩, trivial⟩ rfl rfl, (by subst hC; exact hRes.symm), (by exact (List.length_set ..).trans hC16), (by subst hC; rfl)⟩
  · conv => whnf
    exact ⟨(C, ca + 1, ⟨5, k, ca, 0, 0, 0, false⟩, mem, prints, cb, 8), [_, _, _, _, _, _, _, _, 9, 7], [], Sub.mk' rfl ⟨.inl rfl, ⟨rfl, rfl⟩, ⟨rfl, rfl⟩, ⟨rfl, rfl⟩, ⟨rfl, rfl, rfl, rfl⟩, ⟨rfl, rfl⟩, .inl rfl, trivial⟩ ⟨⟨rfl, .inl rfl, .inl rfl, .inl rfl, .inl rfl, .inl rfl, ⟨rfl, rfl⟩, ⟨rfl, rfl⟩, ⟨rfl, rfl⟩, trivial⟩, ⟨rfl, .inl rfl, .inl rfl, .inl rfl, .inl rfl, .inl rfl, .inl rfl, .inl rfl, .inl rfl, trivial⟩, ⟨rfl, .inl rfl, .inl rfl, .inl rfl, .inl rfl, .inl rfl, .inl rfl, .inl rfl, trivial⟩, ⟨rfl, rfl, rfl, rfl, .inl rfl⟩, ⟨rfl, rfl, rfl, rfl⟩, ⟨rfl, rfl, rfl, rfl⟩, ⟨rfl, rfl, rfl, rfl, .inl (rfl)⟩, ⟨rfl, .inl rfl, .inl rfl, .inl rfl, .inl rfl, .inl rfl, .inl rfl, .inl rfl, trivial⟩, ⟨rfl, rfl, rfl, rfl, .inl rfl⟩, trivial⟩ rfl rfl, (by subst hC; exact hRes.symm), (by exact hC16), (by subst hC; rfl)⟩
  · conv => whnf
    refine ⟨hA.1, hA.2, ?_⟩
    conv => whnf
    refine ⟨rfl, Nat.one_pos, fun row hrow => ?_⟩
    cases hrow
    refine ⟨rowX_off hC16 hA.2, fun t ht => ?_⟩
    obtain rfl := rowX_reg hC16 hA.1 hA.2 ht
    clear ht
    conv => whnf
    conv in (lnk _ 0 _) => (change lnk [((0, 18), (_, _))] 0 (0 + 2 + _ * 1); rw [lnk_lo hA.2])
    conv => whnf
    refine ⟨rfl, rfl, rfl, by simp, by simp; omega, fun q hq => by simp at hq; subst hq; simp, ?_⟩
    conv => whnf
    exact ⟨(C, ca + 1, ⟨6, k, ca, 0, C.reg a, 0, false⟩, mem, prints ++ [Prn.mk k (C.reg a)], cb, 8), [_, _, _, _, _, _, _, _, 9, 7], [], Sub.mk' rfl ⟨.inl rfl, ⟨rfl, rfl⟩, ⟨rfl, rfl⟩, ⟨rfl, rfl⟩, ⟨rfl, rfl, rfl, rfl⟩, ⟨rfl, rfl⟩, .inl rfl, trivial⟩ ⟨⟨rfl, .inl rfl, .inl rfl, .inl rfl, .inl rfl, .inl rfl, ⟨rfl, rfl⟩, ⟨rfl, rfl⟩, ⟨rfl, by simp⟩, trivial⟩, ⟨rfl, .inl rfl, .inl rfl, .inl rfl, .inl rfl, .inl rfl, .inl rfl, .inl rfl, .inl rfl, trivial⟩, ⟨rfl, .inl rfl, .inl rfl, .inl rfl, .inl rfl, .inl rfl, .inl rfl, .inl rfl, trivial⟩, ⟨rfl, rfl, rfl, rfl, .inl rfl⟩, ⟨rfl, rfl, rfl, rfl⟩, ⟨rfl, rfl, rfl, by rw [List.take_of_length_le (by simp), List.map_append]; rfl⟩, ⟨rfl, rfl, rfl, rfl, .inl (rfl)⟩, ⟨rfl, .inl rfl, .inl rfl, .inl rfl, .inl rfl, .inl rfl, .inl rfl, .inl rfl, trivial⟩, ⟨rfl, rfl, rfl, rfl, .inl rfl⟩, trivial⟩ rfl rfl, (by subst hC; exact hRes.symm), (by exact hC16), (by subst hC; rfl)⟩
  · conv => whnf
    exact ⟨(C, to_, ⟨1, k, ca, 0, 0, 0, false⟩, mem, prints, cb, 8), [_, _, _, _, _, _, _, _, 9, 7], [], Sub.mk' rfl ⟨.inl rfl, ⟨rfl, rfl⟩, ⟨rfl, rfl⟩, ⟨rfl, rfl⟩, ⟨rfl, rfl, rfl, rfl⟩, ⟨rfl, rfl⟩, .inl rfl, trivial⟩ ⟨⟨rfl, .inl rfl, .inl rfl, .inl rfl, .inl rfl, .inl rfl, ⟨rfl, rfl⟩, ⟨rfl, rfl⟩, ⟨rfl, rfl⟩, trivial⟩, ⟨rfl, .inl rfl, .inl rfl, .inl rfl, .inl rfl, .inl rfl, .inl rfl, .inl rfl, .inl rfl, trivial⟩, ⟨rfl, .inl rfl, .inl rfl, .inl rfl, .inl rfl, .inl rfl, .inl rfl, .inl rfl, trivial⟩, ⟨rfl, rfl, rfl, rfl, .inl rfl⟩, ⟨rfl, rfl, rfl, rfl⟩, ⟨rfl, rfl, rfl, rfl⟩, ⟨rfl, rfl, rfl, rfl, .inl (rfl)⟩, ⟨rfl, .inl rfl, .inl rfl, .inl rfl, .inl rfl, .inl rfl, .inl rfl, .inl rfl, trivial⟩, ⟨rfl, rfl, rfl, rfl, .inl rfl⟩, trivial⟩ rfl rfl, (by subst hC; exact hRes.symm), (by exact hC16), (by subst hC; rfl)⟩
  · conv => whnf
    refine ⟨hA.1, hA.2, ?_⟩
    conv => whnf
    refine ⟨rfl, Nat.one_pos, fun row hrow => ?_⟩
    cases hrow
    refine ⟨rowX_off hC16 hA.2, fun t ht => ?_⟩
    obtain rfl := rowX_reg hC16 hA.1 hA.2 ht
    clear ht
    conv => whnf
    conv in (lnk _ 0 _) => (change lnk [((0, 18), (_, _))] 0 (0 + 2 + _ * 1); rw [lnk_lo hA.2])
    conv => whnf
    refine csplit (fun h => ?_) (fun h => ?_)
    · replace h : (C.reg a == 0) = true := h
      conv => whnf
      exact ⟨(C, to_, ⟨1, k, ca, 0, 0, 0, false⟩, mem, prints, cb, 8), [_, _, _, _, _, _, _, _, 9, 7], [], Sub.mk' rfl ⟨.inl rfl, ⟨rfl, rfl⟩, ⟨rfl, rfl⟩, ⟨rfl, rfl⟩, ⟨rfl, rfl, rfl, rfl⟩, ⟨rfl, rfl⟩, .inl rfl, trivial⟩ ⟨⟨rfl, .inl rfl, .inl rfl, .inl rfl, .inl rfl, .inl rfl, ⟨rfl, rfl⟩, ⟨rfl, rfl⟩, ⟨rfl, rfl⟩, trivial⟩, ⟨rfl, .inl rfl, .inl rfl, .inl rfl, .inl rfl, .inl rfl, .inl rfl, .inl rfl, .inl rfl, trivial⟩, ⟨rfl, .inl rfl, .inl rfl, .inl rfl, .inl rfl, .inl rfl, .inl rfl, .inl rfl, trivial⟩, ⟨rfl, rfl, rfl, rfl, .inl rfl⟩, ⟨rfl, rfl, rfl, rfl⟩, ⟨rfl, rfl, rfl, rfl⟩, ⟨rfl, rfl, rfl, rfl, .inl (rfl)⟩, ⟨rfl, .inl rfl, .inl rfl, .inl rfl, .inl rfl, .inl rfl, .inl rfl, .inl rfl, trivial⟩, ⟨rfl, rfl, rfl, rfl, .inl rfl⟩, trivial⟩ rfl rfl, (by rw [← hRes]; subst hC; show (_, _) = _; rw [h]; rfl), (by exact hC16), (by subst hC; rfl)⟩
    · replace h : (C.reg a == 0) = false := h
      conv => whnf
      exact ⟨(C, ca + 1, ⟨1, k, ca, 0, 0, 0, false⟩, mem, prints, cb, 8), [_, _, _, _, _, _, _, _, 9, 7], [], Sub.mk' rfl ⟨.inl rfl, ⟨rfl, rfl⟩, ⟨rfl, rfl⟩, ⟨rfl, rfl⟩, ⟨rfl, rfl, rfl, rfl⟩, ⟨rfl, rfl⟩, .inl rfl, trivial⟩ ⟨⟨rfl, .inl rfl, .inl rfl, .inl rfl, .inl rfl, .inl rfl, ⟨rfl, rfl⟩, ⟨rfl, rfl⟩, ⟨rfl, rfl⟩, trivial⟩, ⟨rfl, .inl rfl, .inl rfl, .inl rfl, .inl rfl, .inl rfl, .inl rfl, .inl rfl, .inl rfl, trivial⟩, ⟨rfl, .inl rfl, .inl rfl, .inl rfl, .inl rfl, .inl rfl, .inl rfl, .inl rfl, trivial⟩, ⟨rfl, rfl, rfl, rfl, .inl rfl⟩, ⟨rfl, rfl, rfl, rfl⟩, ⟨rfl, rfl, rfl, rfl⟩, ⟨rfl, rfl, rfl, rfl, .inl (rfl)⟩, ⟨rfl, .inl rfl, .inl rfl, .inl rfl, .inl rfl, .inl rfl, .inl rfl, .inl rfl, trivial⟩, ⟨rfl, rfl, rfl, rfl, .inl rfl⟩, trivial⟩ rfl rfl, (by rw [← hRes]; subst hC; show (_, _) = _; rw [h]; rfl), (by exact hC16), (by subst hC; rfl)⟩
  · conv => whnf
    refine ⟨rfl, rfl, rfl, Nat.one_pos, ⟨fun _ => rfl, trivial⟩, fun row hrow => ?_⟩
    cases hrow
    refine ⟨by rw [rowX_len hC16]; decide, ?_⟩
    conv => whnf
    refine ⟨rfl, Nat.one_pos, fun row hrow => ?_⟩
    cases hrow
    refine ⟨by simp, fun t ht => ?_⟩
    cases ht
    conv => whnf
    exact ⟨({ C with halted := true }, C.at_, ⟨7, k, ca, 0, 0, 0, false⟩, mem, prints, cb, 8), [_, _, _, _, _, _, _, _, 9, 7], [], Sub.mk' rfl ⟨.inl rfl, ⟨rfl, rfl⟩, ⟨rfl, rfl⟩, ⟨rfl, rfl⟩, ⟨rfl, rfl, rfl, rfl⟩, ⟨rfl, rfl⟩, .inl rfl, trivial⟩ ⟨⟨rfl, .inl rfl, .inl rfl, .inl rfl, .inl rfl, .inl rfl, ⟨rfl, rfl⟩, ⟨rfl, rfl⟩, ⟨rfl, rfl⟩, trivial⟩, ⟨rfl, .inl rfl, .inl rfl, .inl rfl, .inl rfl, .inl rfl, .inl rfl, .inl rfl, .inl rfl, trivial⟩, ⟨rfl, .inl rfl, .inl rfl, .inl rfl, .inl rfl, .inl rfl, .inl rfl, .inl rfl, trivial⟩, ⟨rfl, rfl, rfl, rfl, .inl rfl⟩, ⟨rfl, rfl, rfl, rfl⟩, ⟨rfl, rfl, rfl, rfl⟩, ⟨rfl, rfl, rfl, rfl, .inl (rfl)⟩, ⟨rfl, .inl rfl, .inl rfl, .inl rfl, .inl rfl, .inl rfl, .inl rfl, .inl rfl, trivial⟩, ⟨rfl, rfl, rfl, rfl, .inl rfl⟩, trivial⟩ rfl rfl, (by subst hC; exact hRes.symm), (by exact hC16), (by subst hC; rfl)⟩
  rintro ⟨⟨qa, qh, qr, qb⟩, nxt, dd, mem', pr', bf, lh⟩ ⟨hRS, hq, hqb⟩ -
  simp only at hRS hq hqb
  subst hRS hqb
  obtain ⟨q0, q1, q2, q3, q4, q5, q6, q7, q8, q9, q10, q11, q12, q13, q14, q15, rfl⟩ := regs16 hq
  conv => whnf
  refine ⟨rfl, rfl, rfl, Nat.one_pos, ⟨fun _ => rfl, trivial⟩, fun row hrow => ?_⟩
  cases hrow
  refine ⟨Nat.le_of_ble_eq_true rfl, ?_⟩
  conv => whnf
  refine ⟨rfl, Nat.one_pos, fun row hrow => ?_⟩
  cases hrow
  refine ⟨Nat.le_of_ble_eq_true rfl, .inl ⟨fun j t _ _ ht _ => vleaf [_, _, _, _, _, _, _, _, _, _, _, _, _, _, _, _, _, _, _] ht, ?_⟩⟩
  conv => whnf
  refine ⟨rfl, (show (0 : Int) ≤ k by omega), (show (k : Int) < (cores.length : Int) by omega), ?_⟩
  conv => whnf
  refine ⟨rfl, rfl, rfl, (by rw [hcl]; exact hkl), ⟨fun _ => rfl, trivial⟩, fun row hrow => ?_⟩
  obtain rfl := row_of hc hrow
  clear hrow
  refine ⟨Nat.le_of_ble_eq_true rfl, ?_⟩
  conv => whnf
  refine ⟨by kernel_rfl, fun _ => ?_⟩
  conv => whnf
  refine ⟨[3], ?_⟩
  conv => whnf
  refine ⟨rfl, rfl, (show qb.length ≤ (qb.map Sto.row).length by simp), ?_⟩
  refine ⟨[], rfl, rfl, ⟨⟨.inl rfl, .inl rfl, .inl rfl, .inl rfl, .inl rfl, ⟨rfl, ?_, ?_⟩, ⟨rfl, by simp, by rw [List.take_of_length_le (by simp)]⟩, ⟨rfl, by simp, by rw [List.take_of_length_le (by simp)]⟩, trivial⟩, ⟨.inl rfl, .inl rfl, .inl rfl, .inl rfl, .inl rfl, .inl rfl, .inl rfl, trivial⟩, .inl rfl, trivial⟩, trivial⟩
  · show cores.length ≤ (setC _ k 18 _).length
    rw [setC_len, List.length_set, hcl]
    exact Nat.le_refl _
  · exact csX (c := ⟨nxt, qh, [q0, q1, q2, q3, q4, q5, q6, q7, q8, q9, q10, q11, q12, q13, q14, q15], qb⟩) hkl rfl (by rw [List.take_of_length_le (l := qb.map Sto.row) (by simp)]; rfl)
end Go.Proofs.YtcpolpbeimhgfaaGreat.am

namespace Go.Proofs.YtcpolpbeimhgfaaGreat.am
open Go Go.Proofs
abbrev csV (l : List Cst) : Blk := .vec 139 19 168 (l.map Cst.row)
set_option maxRecDepth 100000 in
set_option maxHeartbeats 2000000 in
theorem z_copyV (s : Mst) (h16 : ∀ c ∈ s.cores, c.regs.length = 16) (hbf : ∀ c ∈ s.cores, c.buf.length ≤ 64) (hm : s.mem.length ≤ 4096) (hk : s.cores.length ≤ 8) (hp : s.prints.length ≤ 2000000) :
    K 71 [stA s] [] (.ret (stX s.o (.sl 0 s.cores.length) (.sl 1 s.mem.length) (.sl 2 s.prints.length))) [some (csV s.cores), some (meB s.mem), some (prB s.prints)] := by
  obtain ⟨o, cores, mem, prints⟩ := s
  obtain ⟨memory, shared, locks, buffer, ocores⟩ := o
  simp only at h16 hbf hm hk hp
  have hcl : (cores.map Cst.row).length = cores.length := List.length_map ..
  refine Ctr.new [9] hT hmix Tryz.func71 rfl (fun _ _ => by kernel_rfl) rfl fun hok => ?_
  clear hok
  conv => whnf
  refine ⟨rfl, rfl, rfl, by simp, (show (0 + (mem.map irow).length) * 8 ≤ 150000000000000 by rw [List.length_map]; omega), fun q hq => (by cases hq), ?_⟩
  conv => whnf
  refine ⟨rfl, rfl, rfl, by simp, (show (0 + (prints.map Prn.row).length) * 16 ≤ 150000000000000 by rw [List.length_map]; omega), fun q hq => (by cases hq), ?_⟩
  conv => whnf
  refine LoopL.by (fun j : Nat => ⟨[(1, .ptr 0 0), (2, .ptr 1 0), (3, .sl 4 j), (4, .tr (ti j))], [(0, .cells 72 [.tr (intsT memory), .tr (ti shared), .tr (ti locks), .tr (ti buffer), .tr (coresT ocores), .tr (csT cores), .sl 2 mem.length, .sl 3 prints.length]), (1, .cells 72 [.tr (.v (.slice none 0 0)), .tr (ti 0), .tr (ti 0), .tr (ti 0), .tr (.v (.slice none 0 0)), .tr (.v (.slice none 0 0)), .tr (.v (.slice none 0 0)), .tr (.v (.slice none 0 0))]), (2, meB mem), (3, prB prints), (4, csV (cores.take j))], 10⟩)
    (fun j => j ≤ cores.length) (fun j => cores.length - j) 0 [_, _, _, _] [4]
    (Sub.mk' rfl ⟨⟨rfl, rfl⟩, ⟨rfl, rfl⟩, ⟨rfl, rfl, rfl, rfl⟩, .inl rfl, trivial⟩ ⟨⟨rfl, .inl rfl, .inl rfl, .inl rfl, .inl rfl, .inl rfl, .inl rfl, ⟨rfl, by simp⟩, ⟨rfl, by simp⟩, trivial⟩, ⟨rfl, .inl rfl, .inl rfl, .inl rfl, .inl rfl, .inl rfl, .inl rfl, .inl rfl, .inl rfl, trivial⟩, ⟨rfl, rfl, rfl, by simp⟩, ⟨rfl, rfl, rfl, by simp⟩, ⟨rfl, _, _, _, rfl, by decide⟩, trivial⟩ rfl rfl) (Nat.zero_le _) ?_
  rintro j hj -
  have hj1 : IntKind.i64.wrap ((j : Int) + 1) = ((j + 1 : Nat) : Int) := by rw [w64 (by omega) (by omega)]; omega
  conv => whnf
  refine csplit (fun h1 => ?_) (fun h1 => ?_)
  · have hjl : j < cores.length := by
      have : decide ((j : Int) < ((cores.map Cst.row).length : Int)) = true := h1
      have := of_decide_eq_true this
      omega
    obtain ⟨c, hc⟩ : ∃ c, cores[j]? = some c := ⟨cores[j], by simp [hjl]⟩
    have hmem := List.mem_of_getElem? hc
    have h16c := h16 c hmem
    have hbc := hbf c hmem
    have hsn := take_succ' hc
    obtain ⟨ca, ch, cr, cb⟩ := c
    simp only at hbc
    obtain ⟨r0, r1, r2, r3, r4, r5, r6, r7, r8, r9, r10, r11, r12, r13, r14, r15, rfl⟩ := regs16 h16c
    conv => whnf
    refine ⟨rfl, (show (0 : Int) ≤ (j : Int) by omega), (show (j : Int) < ((cores.map Cst.row).length : Int) by rw [hcl]; omega), fun row hrow => ?_⟩
    obtain rfl := row_of hc hrow
    clear hrow
    conv => whnf
    refine .inl ?_
    conv => whnf
    refine CutL.by (fun _ : Unit => ⟨[(1, .ptr 0 0), (2, .ptr 1 0), (3, .sl 4 j), (4, .tr (ti j)), (5, .ptr 5 0)], [(0, .cells 72 [.tr (intsT memory), .tr (ti shared), .tr (ti locks), .tr (ti buffer), .tr (coresT ocores), .tr (csT cores), .sl 2 mem.length, .sl 3 prints.length]), (1, .cells 72 [.tr (.v (.slice none 0 0)), .tr (ti 0), .tr (ti 0), .tr (ti 0), .tr (.v (.slice none 0 0)), .tr (.v (.slice none 0 0)), .tr (.v (.slice none 0 0)), .tr (.v (.slice none 0 0))]), (2, meB mem), (3, prB prints), (4, csV (cores.take j)), (5, .cells 139 [.tr (ti ca), .tr (tb ch), .tr (ti r0), .tr (ti r1), .tr (ti r2), .tr (ti r3), .tr (ti r4), .tr (ti r5), .tr (ti r6), .tr (ti r7), .tr (ti r8), .tr (ti r9), .tr (ti r10), .tr (ti r11), .tr (ti r12), .tr (ti r13), .tr (ti r14), .tr (ti r15), .tr (bufT cb)])], 10⟩) (fun _ => True) ?_ ?_
    · conv => whnf
      refine ⟨rfl, rfl, rfl, by simp, (show (0 + (cb.map Sto.row).length) * 24 ≤ 150000000000000 by rw [List.length_map]; omega), fun q hq => (by cases hq), ?_⟩
      conv => whnf
      exact ⟨(), [_, _, _, _, _, _], [], Sub.mk' rfl ⟨⟨rfl, rfl⟩, ⟨rfl, rfl⟩, ⟨rfl, rfl⟩, .inl rfl, ⟨rfl, rfl⟩, trivial⟩ ⟨⟨rfl, .inl rfl, .inl rfl, .inl rfl, .inl rfl, .inl rfl, .inl rfl, ⟨rfl, rfl⟩, ⟨rfl, rfl⟩, trivial⟩, ⟨rfl, .inl rfl, .inl rfl, .inl rfl, .inl rfl, .inl rfl, .inl rfl, .inl rfl, .inl rfl, trivial⟩, ⟨rfl, rfl, rfl, rfl⟩, ⟨rfl, rfl, rfl, rfl⟩, ⟨rfl, rfl, rfl, rfl⟩, ⟨rfl, .inl rfl, .inl rfl, .inl rfl, .inl rfl, .inl rfl, .inl rfl, .inl rfl, .inl rfl, .inl rfl, .inl rfl, .inl rfl, .inl rfl, .inl rfl, .inl rfl, .inl rfl, .inl rfl, .inl rfl, .inl rfl, ⟨rfl, by simp, by show bufT cb = Tr.lst 3 24 (List.take (0 + (cb.map Sto.row).length) (cb.map Sto.row)); rw [Nat.zero_add, List.take_length]⟩, trivial⟩, trivial⟩ rfl rfl, trivial⟩
    rintro - - -
    conv => whnf
    refine ⟨rfl, rfl, rfl, by simp; omega, (show (j + 1) * 168 ≤ 150000000000000 by omega), fun q hq => (by simp at hq; subst hq; simp), ?_⟩
    conv => whnf
    refine ⟨j + 1, [0, 1, 2, 3, _], [], Sub.mk' rfl ⟨⟨rfl, rfl⟩, ⟨rfl, rfl⟩, ⟨rfl, rfl⟩, .inl (congrArg ti hj1), trivial⟩ ⟨⟨rfl, .inl rfl, .inl rfl, .inl rfl, .inl rfl, .inl rfl, .inl rfl, ⟨rfl, rfl⟩, ⟨rfl, rfl⟩, trivial⟩, ⟨rfl, .inl rfl, .inl rfl, .inl rfl, .inl rfl, .inl rfl, .inl rfl, .inl rfl, .inl rfl, trivial⟩, ⟨rfl, rfl, rfl, rfl⟩, ⟨rfl, rfl, rfl, rfl⟩, ⟨rfl, rfl, rfl, ?_⟩, trivial⟩ rfl rfl, hjl, by omega⟩
    rw [hsn, List.map_append, List.take_of_length_le (by simp; omega)]
    rfl
  · have hjl : j = cores.length := by
      have : decide ((j : Int) < ((cores.map Cst.row).length : Int)) = false := h1
      have := of_decide_eq_false this
      omega
    subst hjl
    conv => whnf
    refine ⟨fun _ => ?_, fun h => absurd rfl h⟩
    conv => whnf
    exact ⟨[4, 2, 3], rfl, rfl, ⟨.inl rfl, .inl rfl, .inl rfl, .inl rfl, .inl rfl, ⟨rfl, rfl⟩, ⟨rfl, rfl⟩, ⟨rfl, rfl⟩, trivial⟩, ⟨rfl, rfl, rfl, by rw [List.take_of_length_le (Nat.le_refl _)]⟩, ⟨rfl, rfl, rfl, rfl⟩, ⟨rfl, rfl, rfl, rfl⟩, trivial⟩
theorem meV (l : List Int) (i : Nat) (w : Int) {row : List Tr} (h : row.length = 1) : intsT (l.set i w) = .lst 1 8 (((l.map irow).set i (row.take 0 ++ [ti w] ++ row.drop (0 + 1))).take l.length) := by
  rw [mem_set l i w h, List.take_of_length_le (by simp)]
theorem csY {cores : List Cst} {k n : Nat} {r : List Tr} {c : Cst} (hk : k < cores.length) (hn : n = cores.length) (e : r = c.row) : csT (cores.set k c) = .lst 19 168 (((cores.map Cst.row).set k r).take n) := by
  rw [e, cores_set, List.take_of_length_le (by rw [List.length_map, List.length_set, hn]; exact Nat.le_refl _)]
set_option maxRecDepth 100000 in
set_option maxHeartbeats 2000000 in
theorem z_drain0 (s : Mst) (k : Nat) {c : Cst} (hc : s.cores[k]? = some c) (h16 : c.regs.length = 16) (hb : c.buf = []) :
    K 47 [stA s, .tr (ti k)] [] (.ret (.tup [stA s, zeroD.av, .tr (ti 0)])) [] := by
  obtain ⟨o, cores, mem, prints⟩ := s
  obtain ⟨memory, shared, locks, buffer, ocores⟩ := o
  simp only at hc
  have hkl : k < cores.length := (List.getElem?_eq_some_iff.1 hc).1
  have hcl : (cores.map Cst.row).length = cores.length := List.length_map ..
  obtain ⟨ca, ch, cr, cb⟩ := c
  simp only at hb
  subst hb
  obtain ⟨r0, r1, r2, r3, r4, r5, r6, r7, r8, r9, r10, r11, r12, r13, r14, r15, rfl⟩ := regs16 h16
  refine Ctr.of hT hmix Tryz.func47 rfl (fun _ _ => by kernel_rfl) rfl fun hok => ?_
  clear hok
  conv => whnf
  refine ⟨rfl, (show (0 : Int) ≤ k by omega), (show (k : Int) < ((cores.map Cst.row).length : Int) by rw [hcl]; omega), fun row hrow => ?_⟩
  obtain rfl := row_of hc hrow
  clear hrow
  conv => whnf
  exact ⟨⟨⟨.inl rfl, .inl rfl, .inl rfl, .inl rfl, .inl rfl, .inl rfl, .inl rfl, .inl rfl, trivial⟩, ⟨.inl rfl, .inl rfl, .inl rfl, .inl rfl, .inl rfl, .inl rfl, .inl rfl, trivial⟩, .inl rfl, trivial⟩, trivial⟩
set_option maxRecDepth 100000 in
set_option maxHeartbeats 2000000 in
theorem z_drain (s : Mst) (hI : VInv s) (hp : s.prints.length ≤ 2000000) (k : Nat) {c : Cst} {x : Sto} {l : List Sto} (hc : s.cores[k]? = some c) (hb : c.buf = x :: l) :
    K 47 [stA s, .tr (ti k)] [] (.ret (.tup [stA { s.setCore k { c with buf := l } with mem := s.mem.set x.addr.toNat x.word }, (⟨8, k, x.at_, x.addr, x.word, 0, false⟩ : Did).av, .tr (ti 0)])) [] := by
  obtain ⟨r, hr⟩ := hI.cor hc
  have hIc := hI.core k c r hc hr
  have hg := check_good hI.chk
  have h16 := hIc.regs
  have hml : s.mem.length ≤ 4096 := by rw [hI.mem]; exact hg.mem
  have hkl8 : s.cores.length ≤ 8 := by rw [hI.len]; exact hg.cores
  have h16a : ∀ c ∈ s.cores, c.regs.length = 16 := fun c hc => by
    obtain ⟨j, hj⟩ := List.mem_iff_getElem?.1 hc
    obtain ⟨r', hr'⟩ := hI.cor hj
    exact (hI.core j c r' hj hr').regs
  have hba : ∀ c ∈ s.cores, c.buf.length ≤ 64 := fun c hc => by
    obtain ⟨j, hj⟩ := List.mem_iff_getElem?.1 hc
    obtain ⟨r', hr'⟩ := hI.cor hj
    have := (hI.core j c r' hj hr').buf
    have := hg.buffer
    omega
  have hcp := z_copyV s h16a hba hml hkl8 hp
  have hadr := (hIc.adr x (by rw [hb]; exact List.mem_cons_self ..)).1
  rw [← hI.mem] at hadr
  clear hI hIc hg h16a hba hr
  obtain ⟨o, cores, mem, prints⟩ := s
  obtain ⟨memory, shared, locks, buffer, ocores⟩ := o
  simp only at hc hadr hml hkl8 hp
  have hkl : k < cores.length := (List.getElem?_eq_some_iff.1 hc).1
  have hcl : (cores.map Cst.row).length = cores.length := List.length_map ..
  have hm0 := hadr.1
  have hm1 := hadr.2
  obtain ⟨ca, ch, cr, cb⟩ := c
  simp only at hb
  subst hb
  obtain ⟨r0, r1, r2, r3, r4, r5, r6, r7, r8, r9, r10, r11, r12, r13, r14, r15, rfl⟩ := regs16 h16
  have key : (List.take ((((x :: l).map Sto.row).length : Int)).toNat ((x :: l).map Sto.row)).drop 1 = l.map Sto.row := by rw [Int.toNat_natCast, List.take_length]; rfl
  refine Ctr.pk [] hT hmix Tryz.func47 rfl (fun _ _ => by kernel_rfl) rfl fun hok => ?_
  clear hok
  conv => whnf
  refine ⟨rfl, (show (0 : Int) ≤ k by omega), (show (k : Int) < ((cores.map Cst.row).length : Int) by rw [hcl]; omega), fun row hrow => ?_⟩
  obtain rfl := row_of hc hrow
  clear hrow
  conv => whnf
  refine acall.new [] [] _ _ _ _ hcp rfl rfl rfl rfl aut aut rfl rfl fun _ => ?_
  conv => whnf
  refine ⟨rfl, (show (0 : Int) ≤ k by omega), (show (k : Int) < (cores.length : Int) by omega), ?_⟩
  conv => whnf
  refine ⟨rfl, (by rw [hcl]; exact hkl), fun row hrow => ?_⟩
  obtain rfl := row_of hc hrow
  clear hrow
  refine ⟨Nat.le_of_ble_eq_true rfl, fun t ht => ?_⟩
  cases ht
  conv => whnf
  refine ⟨rfl, Int.le_refl _, (show (0 : Int) < (((x :: l).map Sto.row).length : Int) by simp), fun row hrow => ?_⟩
  cases hrow
  conv => whnf
  refine ⟨rfl, (show (0 : Int) ≤ k by omega), (show (k : Int) < (cores.length : Int) by omega), ?_⟩
  refine ⟨rfl, (by rw [hcl]; exact hkl), fun row hrow => ?_⟩
  obtain rfl := row_of hc hrow
  clear hrow
  refine ⟨Nat.le_of_ble_eq_true rfl, fun t ht => ?_⟩
  cases ht
  refine ⟨rfl, (by decide), (show (1 : Int) ≤ (((x :: l).map Sto.row).length : Int) by simp; omega), Int.le_refl _, ?_⟩
  conv => whnf
  refine ⟨rfl, (show (0 : Int) ≤ k by omega), (show (k : Int) < (cores.length : Int) by omega), ?_⟩
  conv => whnf
  refine ⟨rfl, rfl, (by rw [hcl]; exact hkl), fun row hrow => ?_⟩
  obtain rfl := row_of hc hrow
  clear hrow
  refine ⟨Nat.le_of_ble_eq_true rfl, ?_⟩
  conv => whnf
  refine ⟨by kernel_rfl, fun _ => ?_⟩
  conv => whnf
  refine ⟨rfl, hm0, (show x.addr < (mem.length : Int) from hm1), ?_⟩
  conv => whnf
  refine ⟨rfl, rfl, by rw [List.length_map]; show x.addr.toNat < mem.length; omega, fun row hrow => ?_⟩
  obtain ⟨y, _, rfl⟩ := mem_get hrow
  refine ⟨Nat.le_refl _, ?_⟩
  clear hrow
  conv => whnf
  refine ⟨by kernel_rfl, fun _ => ?_⟩
  conv => whnf
  refine ⟨[], ?_⟩
  refine ⟨[], rfl, rfl, ⟨⟨.inl rfl, .inl rfl, .inl rfl, .inl rfl, .inl rfl, ⟨rfl, ?_, ?_⟩, ⟨rfl, by simp, meV mem _ _ rfl⟩, ⟨rfl, by simp, (show prT prints = .lst 2 16 ((prints.map Prn.row).take prints.length) by rw [List.take_of_length_le (by simp)])⟩, trivial⟩, ⟨.inl rfl, .inl rfl, .inl rfl, .inl rfl, .inl rfl, .inl rfl, .inl rfl, trivial⟩, .inl rfl, trivial⟩, trivial⟩
  · show cores.length ≤ ((cores.map Cst.row).set k _).length
    rw [List.length_set, hcl]
    exact Nat.le_refl _
  · exact csY (c := ⟨ca, ch, [r0, r1, r2, r3, r4, r5, r6, r7, r8, r9, r10, r11, r12, r13, r14, r15], l⟩) hkl rfl (congrArg (fun q => [ti ca, tb ch, ti r0, ti r1, ti r2, ti r3, ti r4, ti r5, ti r6, ti r7, ti r8, ti r9, ti r10, ti r11, ti r12, ti r13, ti r14, ti r15, Tr.lst 3 24 q]) key)
end Go.Proofs.YtcpolpbeimhgfaaGreat.am

namespace Go.Proofs.YtcpolpbeimhgfaaGreat.am
open Go Go.Proofs
abbrev runK (f : Nat) (s s' : Mst) (k : Int) (d : Did) (e : Int) : Prop := K f [stA s, .tr (ti k)] [] (.ret (.tup [stA s', d.av, .tr (ti e)])) []
set_option maxRecDepth 100000 in
set_option maxHeartbeats 2000000 in
theorem z_runH (s : Mst) (k : Nat) {c : Cst} (hc : s.cores[k]? = some c) (h16 : c.regs.length = 16) (hh : c.halted = true) : runK 46 s s k zeroD 0 := by
  obtain ⟨o, cores, mem, prints⟩ := s
  obtain ⟨memory, shared, locks, buffer, ocores⟩ := o
  simp only at hc
  have hkl : k < cores.length := (List.getElem?_eq_some_iff.1 hc).1
  obtain ⟨ca, ch, cr, cb⟩ := c
  simp only at hh
  subst hh
  obtain ⟨r0, r1, r2, r3, r4, r5, r6, r7, r8, r9, r10, r11, r12, r13, r14, r15, rfl⟩ := regs16 h16
  refine Ctr.of hT hmix Tryz.func46 rfl (fun _ _ => by kernel_rfl) rfl fun hok => ?_
  clear hok
  conv => whnf
  refine ⟨rfl, (show (0 : Int) ≤ k by omega), (show (k : Int) < ((cores.map Cst.row).length : Int) by rw [List.length_map]; omega), fun row hrow => ?_⟩
  obtain rfl := row_of hc hrow
  clear hrow
  conv => whnf
  exact ⟨⟨⟨.inl rfl, .inl rfl, .inl rfl, .inl rfl, .inl rfl, .inl rfl, .inl rfl, .inl rfl, trivial⟩, ⟨.inl rfl, .inl rfl, .inl rfl, .inl rfl, .inl rfl, .inl rfl, .inl rfl, trivial⟩, .inl rfl, trivial⟩, trivial⟩
set_option maxRecDepth 100000 in
set_option maxHeartbeats 2000000 in
theorem z_runW (s : Mst) (k : Nat) {c : Cst} {i : Ins} {r : Cor} (hc : s.cores[k]? = some c) (h16 : c.regs.length = 16) (hr : s.o.cores[k]? = some r) (h0 : 0 ≤ c.at_) (hi : r.code[c.at_.toNat]? = some i) (hh : c.halted = false) (hst : stallB s c i = true) : runK 46 s s k zeroD 181 := by
  have hw := z_waits s k hc h16 hr h0 hi
  rw [hst] at hw
  clear hst hr hi
  obtain ⟨o, cores, mem, prints⟩ := s
  obtain ⟨memory, shared, locks, buffer, ocores⟩ := o
  simp only at hc
  have hkl : k < cores.length := (List.getElem?_eq_some_iff.1 hc).1
  obtain ⟨ca, ch, cr, cb⟩ := c
  simp only at hh
  subst hh
  obtain ⟨r0, r1, r2, r3, r4, r5, r6, r7, r8, r9, r10, r11, r12, r13, r14, r15, rfl⟩ := regs16 h16
  refine Ctr.of hT hmix Tryz.func46 rfl (fun _ _ => by kernel_rfl) rfl fun hok => ?_
  clear hok
  conv => whnf
  refine ⟨rfl, (show (0 : Int) ≤ k by omega), (show (k : Int) < ((cores.map Cst.row).length : Int) by rw [List.length_map]; omega), fun row hrow => ?_⟩
  obtain rfl := row_of hc hrow
  clear hrow
  conv => whnf
  refine acall.pure _ (hw) rfl rfl fun _ => ?_
  conv => whnf
  exact ⟨⟨⟨.inl rfl, .inl rfl, .inl rfl, .inl rfl, .inl rfl, .inl rfl, .inl rfl, .inl rfl, trivial⟩, ⟨.inl rfl, .inl rfl, .inl rfl, .inl rfl, .inl rfl, .inl rfl, .inl rfl, trivial⟩, .inl rfl, trivial⟩, trivial⟩
abbrev stpK (s s' : Mst) (kd k : Int) (d : Did) (e : Int) : Prop := K 30 [stA s, .agg [.tr (tu kd), .tr (ti k)]] [] (.ret (.tup [stA s', d.av, .tr (ti e)])) []
set_option maxRecDepth 100000 in
theorem z_stepW (s : Mst) (kd k : Int) (h1 : kd ≠ 1) (h2 : kd ≠ 2) : stpK s s kd k zeroD 182 := by
  obtain ⟨o, cores, mem, prints⟩ := s
  obtain ⟨memory, shared, locks, buffer, ocores⟩ := o
  refine Ctr.of hT hmix Tryz.func30 rfl (fun _ _ => by kernel_rfl) rfl fun hok => ?_
  clear hok
  conv => whnf
  (repeat' (refine csplit (fun g => ?_) (fun g => ?_) <;> conv => whnf))
  all_goals first
    | exact ⟨⟨⟨.inl rfl, .inl rfl, .inl rfl, .inl rfl, .inl rfl, .inl rfl, .inl rfl, .inl rfl, trivial⟩, ⟨.inl rfl, .inl rfl, .inl rfl, .inl rfl, .inl rfl, .inl rfl, .inl rfl, trivial⟩, .inl rfl, trivial⟩, trivial⟩
    | (exfalso; simp at *; omega)
set_option maxRecDepth 100000 in
theorem z_stepK (s : Mst) (kd k : Int) (h1 : kd = 1 ∨ kd = 2) (h2 : k < 0 ∨ (s.cores.length : Int) ≤ k) : stpK s s kd k zeroD 180 := by
  obtain ⟨o, cores, mem, prints⟩ := s
  obtain ⟨memory, shared, locks, buffer, ocores⟩ := o
  simp only at h2
  rw [← List.length_map Cst.row] at h2
  refine Ctr.of hT hmix Tryz.func30 rfl (fun _ _ => by kernel_rfl) rfl fun hok => ?_
  clear hok
  rcases h1 with rfl | rfl
  all_goals (
    conv => whnf
    refine csplit (fun g => ?_) (fun g => ?_)
    · conv => whnf
      exact ⟨⟨⟨.inl rfl, .inl rfl, .inl rfl, .inl rfl, .inl rfl, .inl rfl, .inl rfl, .inl rfl, trivial⟩, ⟨.inl rfl, .inl rfl, .inl rfl, .inl rfl, .inl rfl, .inl rfl, .inl rfl, trivial⟩, .inl rfl, trivial⟩, trivial⟩
    · conv => whnf
      refine csplit (fun g2 => ?_) (fun g2 => ?_)
      · conv => whnf
        exact ⟨⟨⟨.inl rfl, .inl rfl, .inl rfl, .inl rfl, .inl rfl, .inl rfl, .inl rfl, .inl rfl, trivial⟩, ⟨.inl rfl, .inl rfl, .inl rfl, .inl rfl, .inl rfl, .inl rfl, .inl rfl, trivial⟩, .inl rfl, trivial⟩, trivial⟩
      · exact absurd h2 (by have a : ¬ k < 0 := of_decide_eq_false g; have b : ¬ k ≥ ((cores.map Cst.row).length : Int) := of_decide_eq_false g2; omega))
set_option maxRecDepth 100000 in
theorem z_stepR (s s' : Mst) (k : Int) (d : Did) (e : Int) (h1 : 0 ≤ k) (h2 : k < (s.cores.length : Int)) (h : runK 46 s s' k d e) : stpK s s' 1 k d e := by
  obtain ⟨o, cores, mem, prints⟩ := s
  obtain ⟨memory, shared, locks, buffer, ocores⟩ := o
  simp only at h2
  rw [← List.length_map Cst.row] at h2
  refine Ctr.of hT hmix Tryz.func30 rfl (fun _ _ => by kernel_rfl) rfl fun hok => ?_
  clear hok
  conv => whnf
  refine csplit (fun g => absurd (of_decide_eq_true g) (by omega)) (fun _ => ?_)
  conv => whnf
  refine csplit (fun g => absurd (show k ≥ ((cores.map Cst.row).length : Int) from of_decide_eq_true g) (by omega)) (fun _ => ?_)
  conv => whnf
  refine acall.pure _ (h) rfl rfl fun _ => ?_
  conv => whnf
  exact ⟨⟨⟨.inl rfl, .inl rfl, .inl rfl, .inl rfl, .inl rfl, .inl rfl, .inl rfl, .inl rfl, trivial⟩, ⟨.inl rfl, .inl rfl, .inl rfl, .inl rfl, .inl rfl, .inl rfl, .inl rfl, trivial⟩, .inl rfl, trivial⟩, trivial⟩
set_option maxRecDepth 100000 in
theorem z_stepD (s s' : Mst) (k : Int) (d : Did) (e : Int) (h1 : 0 ≤ k) (h2 : k < (s.cores.length : Int)) (h : runK 47 s s' k d e) : stpK s s' 2 k d e := by
  obtain ⟨o, cores, mem, prints⟩ := s
  obtain ⟨memory, shared, locks, buffer, ocores⟩ := o
  simp only at h2
  rw [← List.length_map Cst.row] at h2
  refine Ctr.of hT hmix Tryz.func30 rfl (fun _ _ => by kernel_rfl) rfl fun hok => ?_
  clear hok
  conv => whnf
  refine csplit (fun g => absurd (of_decide_eq_true g) (by omega)) (fun _ => ?_)
  conv => whnf
  refine csplit (fun g => absurd (show k ≥ ((cores.map Cst.row).length : Int) from of_decide_eq_true g) (by omega)) (fun _ => ?_)
  conv => whnf
  refine acall.pure _ (h) rfl rfl fun _ => ?_
  conv => whnf
  exact ⟨⟨⟨.inl rfl, .inl rfl, .inl rfl, .inl rfl, .inl rfl, .inl rfl, .inl rfl, .inl rfl, trivial⟩, ⟨.inl rfl, .inl rfl, .inl rfl, .inl rfl, .inl rfl, .inl rfl, .inl rfl, trivial⟩, .inl rfl, trivial⟩, trivial⟩
theorem z_stp (s : Mst) (h : VInv s) (hp : s.prints.length ≤ 1048577) (kd k : Int) : stpK s (stepS s kd k).1 kd k (stepS s kd k).2.1 (stepS s kd k).2.2 := by
  unfold stepS
  split
  · rename_i hk
    exact z_stepW s kd k hk.1 hk.2
  rename_i hkd
  have hkd : kd = 1 ∨ kd = 2 := by omega
  split
  · rename_i hk
    exact z_stepK s kd k hkd hk
  rename_i hk
  obtain ⟨n, rfl⟩ := Int.eq_ofNat_of_zero_le (a := k) (by omega)
  rw [Int.toNat_natCast]
  have hn : n < s.cores.length := by omega
  obtain ⟨c, hc⟩ : ∃ c, s.cores[n]? = some c := ⟨_, List.getElem?_eq_getElem hn⟩
  obtain ⟨r, hr⟩ := h.cor hc
  obtain ⟨i, e, hi, hR⟩ := h.ins hc hr
  have hI := h.core n c r hc hr
  have h16 := hI.regs
  have h0 := hI.at0
  rw [hc]
  show stpK s (if kd = 1 then _ else _ : Mst × Did × Int).1 kd n (if kd = 1 then _ else _ : Mst × Did × Int).2.1 (if kd = 1 then _ else _ : Mst × Did × Int).2.2
  rcases hkd with rfl | rfl
  · rw [if_pos rfl]
    refine z_stepR s _ n _ _ (by omega) (by omega) ?_
    unfold runC
    split
    · rename_i hh
      exact z_runH s n hc h16 hh
    rename_i hh
    have hh : c.halted = false := by simpa using hh
    rw [e]
    show runK _ s (if _ then _ else _ : Mst × Did × Int).1 _ (if _ then _ else _ : Mst × Did × Int).2.1 (if _ then _ else _ : Mst × Did × Int).2.2
    split
    · rename_i hs
      exact z_runW s n hc h16 hr h0 hi hh hs
    · rename_i hs
      exact z_run s h hp n hc hr hi hh (by simpa using hs)
  · rw [if_neg (by decide)]
    refine z_stepD s _ n _ _ (by omega) (by omega) ?_
    unfold drainC
    split
    · rename_i hb
      exact z_drain0 s n hc h16 hb
    · rename_i x l hb
      exact z_drain s h (by omega) n hc hb
end Go.Proofs.YtcpolpbeimhgfaaGreat.am

namespace Go.Proofs.YtcpolpbeimhgfaaGreat.am
open Go Go.Proofs
structure Evt where
  kind : Int
  core : Int
  thing : Int
  word : Int
  put : Int
  own : Bool
  at_ : Int
def Evt.cells (e : Evt) : List Tr := [tu e.kind, ti e.core, ti e.thing, ti e.word, ti e.put, tb e.own, ti e.at_]
abbrev evtsT (l : List Evt) : Tr := .lst 7 56 (l.map Evt.cells)
abbrev evV (l : List Evt) : Blk := .vec 47 7 56 (l.map Evt.cells)
def wrp (x : Int) : Int := IntKind.i64.wrap x
/-- where an address lies, and which thing it is -/
def whD (o : Ob) (d : Did) : Int × Int := bif addrK d.kind then (bif decide (d.addr < o.shared) then (1, d.addr) else bif decide (d.addr < wrp (o.shared + o.locks)) then (2, wrp (d.addr - o.shared)) else (0, 0)) else (0, 0)
/-- what kind of event it is -/
def evK (w : Int) (d : Did) : Int := match d.kind.toNat with
  | 2 => onE 1 w
  | 4 => swE w d.word d.put
  | 6 => 6
  | 7 => 7
  | 8 => drE w d.word
  | _ => 0
def evD (o : Ob) (d : Did) (i : Int) : List Evt :=
  let w := whD o d
  let k := evK w.1 d
  bif k == 0 then [] else bif k == 1 || k == 2 || k == 3 then [⟨k, d.core, w.2, d.word, d.put, d.own, i⟩] else bif k == 4 || k == 5 then [⟨k, d.core, w.2, 0, 0, false, i⟩] else bif k == 6 then [⟨k, d.core, 0, d.word, 0, false, i⟩] else [⟨k, d.core, 0, 0, 0, false, i⟩]
def evL (o : Ob) : List Did → Nat → List Evt
  | [], _ => []
  | d :: l, i => evD o d i ++ evL o l (i + 1)
theorem whD_var {o : Ob} {d : Did} (h : addrK d.kind = true) (h1 : decide (d.addr < o.shared) = true) : whD o d = (1, d.addr) := by unfold whD; rw [h, h1]; rfl
theorem whD_lock {o : Ob} {d : Did} (h : addrK d.kind = true) (h1 : decide (d.addr < o.shared) = false) (h2 : decide (d.addr < wrp (o.shared + o.locks)) = true) : whD o d = (2, wrp (d.addr - o.shared)) := by unfold whD; rw [h, h1, h2]; rfl
theorem whD_else {o : Ob} {d : Did} (h : addrK d.kind = true) (h1 : decide (d.addr < o.shared) = false) (h2 : decide (d.addr < wrp (o.shared + o.locks)) = false) : whD o d = (0, 0) := by unfold whD; rw [h, h1, h2]; rfl
theorem whD_no {o : Ob} {d : Did} (h : addrK d.kind = false) : whD o d = (0, 0) := by unfold whD; rw [h]; rfl
theorem evD_eq {o : Ob} {d : Did} {i E th : Int} (hE : evK (whD o d).1 d = E) (ht : (whD o d).2 = th) : evD o d i = bif E == 0 then [] else bif E == 1 || E == 2 || E == 3 then [⟨E, d.core, th, d.word, d.put, d.own, i⟩] else bif E == 4 || E == 5 then [⟨E, d.core, th, 0, 0, false, i⟩] else bif E == 6 then [⟨E, d.core, 0, d.word, 0, false, i⟩] else [⟨E, d.core, 0, 0, 0, false, i⟩] := by
  subst hE ht
  rfl
theorem evL_drop {o : Ob} {l : List Did} {j : Nat} {d : Did} (h : l[j]? = some d) : evL o (l.drop j) j = evD o d j ++ evL o (l.drop (j + 1)) (j + 1) := by
  have hlt := (List.getElem?_eq_some_iff.1 h).1
  rw [List.drop_eq_getElem_cons hlt, (List.getElem?_eq_some_iff.1 h).2]
  rfl
abbrev evB (e : Evt) : Blk := .cells 47 (e.cells.map .tr)
/-- what makes a Did's event -/
def EvOk (d : Did) (ev : AV) : Prop := (∃ k, ev = alwA k ∧ ∀ w, evK w d = k) ∨ (ev = onA 1 ∧ ∀ w, evK w d = onE 1 w) ∨ (ev = .fn 60 [] ∧ ∀ w, evK w d = swE w d.word d.put) ∨ (ev = .fn 61 [] ∧ ∀ w, evK w d = drE w d.word)
theorem right_kind' {d : Did} (h : rightD d = true) : d.kind = 1 ∨ d.kind = 2 ∨ d.kind = 3 ∨ d.kind = 4 ∨ d.kind = 5 ∨ d.kind = 6 ∨ d.kind = 7 ∨ d.kind = 8 ∨ d.kind < 0 := by
  unfold rightD at h
  cases ho : outD d with
  | true => rw [ho] at h; cases h
  | false =>
    unfold outD at ho
    simp only [Bool.or_eq_false_iff, beq_eq_false_iff_ne, decide_eq_false_iff_not] at ho
    have h1 := ho.1
    have h2 := ho.2.1
    omega
theorem t_events (o : Ob) (l : List Did) : K 21 [o.av, .tr (didsT l)] [] (.ret (.fn 38 [.ept [didsT l], .ept o.cells])) [] := by
  obtain ⟨memory, shared, locks, buffer, cores⟩ := o
  refine Ctr.of hT hmix Tryz.func21 rfl (fun _ _ => by kernel_rfl) rfl fun hok => ?_
  clear hok
  conv => whnf
  exact ⟨⟨rfl, ⟨rfl, rfl⟩, ⟨rfl, rfl⟩, trivial⟩, trivial⟩
set_option maxRecDepth 100000 in
theorem t_EventsC (o : Ob) (l : List Did) (hc0 : (checkO o).1 ≠ 0) : K 6 [o.av, .tr (didsT l)] [] (.ret (.tup [.tr (.v (.slice none 0 0)), .tr (ti (checkO o).1)])) [] := by
  have hc := k_check o
  obtain ⟨memory, shared, locks, buffer, cores⟩ := o
  generalize checkO ⟨memory, shared, locks, buffer, cores⟩ = R at hc hc0 ⊢
  refine Ctr.range [] [] hT hmix (pre := [_, _, _, _]) Tryz.func6 rfl (fun _ _ => by kernel_rfl) Tryz.func38 rfl (fun _ _ => by kernel_rfl) rfl rfl fun hok => ?_
  clear hok
  conv => whnf
  refine acall.pure _ (hc) rfl rfl fun _ => ?_
  conv => whnf
  refine csplit (fun h1 => ?_) (fun h1 => ?_)
  · conv => whnf
    exact ⟨rfl, .inr rfl, [], rfl, rfl, ⟨.inl rfl, .inl rfl, trivial⟩, trivial⟩
  · exact absurd h1 (by simpa using hc0)
set_option maxRecDepth 100000 in
theorem t_EventsR (o : Ob) (l : List Did) (hc0 : (checkO o).1 = 0) (hr0 : l.all rightD = false) : K 6 [o.av, .tr (didsT l)] [] (.ret (.tup [.tr (.v (.slice none 0 0)), .tr (ti 190)])) [] := by
  have hc := k_check o
  have hr := t_right l
  rw [hr0] at hr
  obtain ⟨memory, shared, locks, buffer, cores⟩ := o
  generalize checkO ⟨memory, shared, locks, buffer, cores⟩ = R at hc hc0
  refine Ctr.range [] [] hT hmix (pre := [_, _, _, _]) Tryz.func6 rfl (fun _ _ => by kernel_rfl) Tryz.func38 rfl (fun _ _ => by kernel_rfl) rfl rfl fun hok => ?_
  clear hok
  conv => whnf
  refine acall.pure _ (hc) rfl rfl fun _ => ?_
  conv => whnf
  refine csplit (fun h1 => ?_) (fun h1 => ?_)
  · exact absurd h1 (by rw [hc0]; decide)
  conv => whnf
  refine acall.pure _ (hr) rfl rfl fun _ => ?_
  conv => whnf
  exact ⟨rfl, .inr rfl, [], rfl, rfl, ⟨.inl rfl, .inl rfl, trivial⟩, trivial⟩
set_option maxRecDepth 100000 in
set_option maxHeartbeats 4000000 in
theorem t_Events (o : Ob) (l : List Did) (hc0 : (checkO o).1 = 0) (hr0 : l.all rightD = true) : K 6 [o.av, .tr (didsT l)] [] (.ret (.tup [.tr (evtsT (evL o l 0)), .tr (ti 0)])) [] := by
  have hc := k_check o
  have hr := t_right l
  rw [hr0] at hr
  have hev := t_events o l
  obtain ⟨memory, shared, locks, buffer, cores⟩ := o
  generalize hO : Ob.mk memory shared locks buffer cores = o' at hc0 ⊢
  generalize hEV : evL o' l 0 = EV
  rw [← hO] at hc0 ⊢
  generalize hR : checkO ⟨memory, shared, locks, buffer, cores⟩ = R at hc hc0
  have hlm : (l.map Did.cells).length = l.length := List.length_map ..
  refine Ctr.range [1000005] [4, 10, 11, 22, 2000022] hT hmix (pre := [_, _, _, _]) Tryz.func6 rfl (fun _ _ => by kernel_rfl) Tryz.func38 rfl (fun _ _ => by kernel_rfl) rfl rfl fun hok => ?_
  have hdk : ∀ d ∈ l, 0 ≤ d.kind := fun d hd => by
    have h2 := ((hok.slot 1 rfl).tr.lst.2.2 d.cells (List.mem_map_of_mem hd)).2 _ (List.mem_cons_self ..)
    exact h2.u8.1
  have hlb := (hok.slot 1 rfl).tr.lst.1
  rw [hlm] at hlb
  clear hok
  have hl63 : l.length ≤ 9223372036854775807 := by omega
  conv => whnf
  refine acall.pure _ (hc) rfl rfl fun _ => ?_
  conv => whnf
  refine csplit (fun h1 => ?_) (fun h1 => ?_)
  · exact absurd h1 (by rw [hc0]; decide)
  conv => whnf
  refine CutL.by (fun _ : Unit => ⟨[(1, .tr (didsT l)), (2, .ptr 0 0), (22, .tr (tb false))], [(0, .cells 25 [.tr (intsT memory), .tr (ti shared), .tr (ti locks), .tr (ti buffer), .tr (coresT cores)])], 1⟩) (fun _ => True) ?_ ?_
  · conv => whnf
    refine acall.pure _ (hr) rfl rfl fun _ => ?_
    conv => whnf
    exact ⟨(), [0], [], Sub.mk' rfl ⟨.inl rfl, ⟨rfl, rfl⟩, .inl rfl, trivial⟩ ⟨⟨rfl, .inl rfl, .inl rfl, .inl rfl, .inl rfl, .inl rfl, trivial⟩, trivial⟩ rfl rfl, trivial⟩
  rintro - - -
  conv => whnf
  refine acall.pure _ (hev) rfl rfl fun _ => ?_
  conv => whnf
  refine ⟨rfl, rfl, _, rfl, rfl, fun y => ?_⟩
  conv => whnf
  refine LoopL.by (fun x : List Evt × Nat => ⟨[(0, yldT y), (1, .ept [didsT l]), (2, .ept [intsT memory, ti shared, ti locks, ti buffer, coresT cores]), (10, .tr (didsT l)), (11, .tr (ti (l.length : Int))), (12, .tr (ti x.2))], [(1, .cells 27 [.sl 5 x.1.length]), (5, evV x.1)], 10⟩)
    (fun x => x.2 ≤ l.length ∧ x.1.length ≤ x.2 ∧ EV = x.1 ++ evL o' (l.drop x.2) x.2) (fun x => l.length - x.2) ([], 0) [0, 1, 2, 3, 4] [5]
    (Sub.mk' rfl ⟨.inl rfl, rfl, rfl, .inl rfl, .inl (by rw [← hlm]), .inl rfl, trivial⟩ ⟨⟨rfl, ⟨rfl, rfl, rfl, rfl⟩, trivial⟩, ⟨rfl, _, _, _, rfl, by decide⟩, trivial⟩ rfl rfl)
    ⟨Nat.zero_le _, Nat.le_refl _, hEV.symm⟩ ?_
  rintro ⟨out, j⟩ ⟨hj, hol, hEj⟩ -
  simp only at hj hol hEj
  conv => whnf
  refine csplit (fun hlt => ?_) (fun hge => ?_)
  · have hlt : j < l.length := by have : ((j : Nat) : Int) < (l.length : Int) := of_decide_eq_true hlt; omega
    obtain ⟨d, hd⟩ : ∃ x, l[j]? = some x := ⟨l[j], by simp [hlt]⟩
    rw [evL_drop hd] at hEj
    have hrd : rightD d = true := List.all_eq_true.1 hr0 d (List.mem_of_getElem? hd)
    have hk := right_kind' hrd
    have hk0 := hdk d (List.mem_of_getElem? hd)
    conv => whnf
    refine ⟨rfl, (show (0 : Int) ≤ j by omega), (show (j : Int) < (l.map Did.cells).length by rw [hlm]; omega), fun row hr => ?_⟩
    obtain ⟨d', hd', rfl⟩ := did_get hr
    obtain rfl : d = d' := Option.some.inj (hd.symm.trans hd')
    clear hr hd'
    conv => whnf
    refine CutL.by (fun x : ByteArray × Bool × Bool × Bool × Bool × AV => ⟨[(0, yldT y), (1, .ept [didsT l]), (2, .ept [intsT memory, ti shared, ti locks, ti buffer, coresT cores]), (4, .tr (ti j)), (5, .ptr 6 0), (6, .ptr 7 0), (10, .tr (didsT l)), (11, .tr (ti (l.length : Int))), (12, .tr (ti j))], [(1, .cells 27 [.sl 5 out.length]), (5, evV out), (6, diB d), (7, .cells 88 [.tr (ts x.1), .tr (tb x.2.1), .tr (tb x.2.2.1), .tr (tb x.2.2.2.1), .tr (tb x.2.2.2.2.1), x.2.2.2.2.2])], 10⟩) (fun x => x.2.1 = addrK d.kind ∧ EvOk d x.2.2.2.2.2) ?_ ?_
    · obtain ⟨dk, dc, da, dd, dw, dp, dn⟩ := d
      simp only at hk hk0
      clear hEj hEV hrd
      rcases hk with rfl | rfl | rfl | rfl | rfl | rfl | rfl | rfl | hk
      · conv => whnf
        refine acall.pure _ (t_forms) rfl rfl ?_
        conv => whnf
        refine ⟨of_decide_eq_true rfl, of_decide_eq_true rfl, of_decide_eq_true rfl, ?_⟩
        conv => whnf
        refine ⟨by kernel_rfl, fun _ => ?_⟩
        conv => whnf
        exact ⟨(⟨#[99, 111, 109, 112, 117, 116, 101]⟩, false, false, false, false, alwA 0), [0, 1, 2, 3, 4, 5, _, _], [], Sub.mk' rfl ⟨.inl rfl, rfl, rfl, .inl rfl, ⟨rfl, rfl⟩, ⟨rfl, rfl⟩, .inl rfl, .inl rfl, .inl rfl, trivial⟩ ⟨⟨rfl, ⟨rfl, rfl⟩, trivial⟩, ⟨rfl, rfl, rfl, rfl⟩, ⟨rfl, .inl rfl, .inl rfl, .inl rfl, .inl rfl, .inl rfl, .inl rfl, .inl rfl, trivial⟩, ⟨rfl, .inl rfl, .inl rfl, .inl rfl, .inl rfl, .inl rfl, ⟨rfl, rfl, trivial⟩, trivial⟩, trivial⟩ rfl rfl, ⟨rfl, .inl ⟨0, rfl, fun _ => rfl⟩⟩⟩
      · conv => whnf
        refine acall.pure _ (t_forms) rfl rfl ?_
        conv => whnf
        refine ⟨of_decide_eq_true rfl, of_decide_eq_true rfl, of_decide_eq_true rfl, ?_⟩
        conv => whnf
        refine ⟨by kernel_rfl, fun _ => ?_⟩
        conv => whnf
        exact ⟨(⟨#[108, 111, 97, 100]⟩, true, true, false, true, onA 1), [0, 1, 2, 3, 4, 5, _, _], [], Sub.mk' rfl ⟨.inl rfl, rfl, rfl, .inl rfl, ⟨rfl, rfl⟩, ⟨rfl, rfl⟩, .inl rfl, .inl rfl, .inl rfl, trivial⟩ ⟨⟨rfl, ⟨rfl, rfl⟩, trivial⟩, ⟨rfl, rfl, rfl, rfl⟩, ⟨rfl, .inl rfl, .inl rfl, .inl rfl, .inl rfl, .inl rfl, .inl rfl, .inl rfl, trivial⟩, ⟨rfl, .inl rfl, .inl rfl, .inl rfl, .inl rfl, .inl rfl, ⟨rfl, rfl, trivial⟩, trivial⟩, trivial⟩ rfl rfl, ⟨rfl, .inr (.inl ⟨rfl, fun _ => rfl⟩)⟩⟩
      · conv => whnf
        refine acall.pure _ (t_forms) rfl rfl ?_
        conv => whnf
        refine ⟨of_decide_eq_true rfl, of_decide_eq_true rfl, of_decide_eq_true rfl, ?_⟩
        conv => whnf
        refine ⟨by kernel_rfl, fun _ => ?_⟩
        conv => whnf
        exact ⟨(⟨#[115, 116, 111, 114, 101]⟩, true, true, false, false, alwA 0), [0, 1, 2, 3, 4, 5, _, _], [], Sub.mk' rfl ⟨.inl rfl, rfl, rfl, .inl rfl, ⟨rfl, rfl⟩, ⟨rfl, rfl⟩, .inl rfl, .inl rfl, .inl rfl, trivial⟩ ⟨⟨rfl, ⟨rfl, rfl⟩, trivial⟩, ⟨rfl, rfl, rfl, rfl⟩, ⟨rfl, .inl rfl, .inl rfl, .inl rfl, .inl rfl, .inl rfl, .inl rfl, .inl rfl, trivial⟩, ⟨rfl, .inl rfl, .inl rfl, .inl rfl, .inl rfl, .inl rfl, ⟨rfl, rfl, trivial⟩, trivial⟩, trivial⟩ rfl rfl, ⟨rfl, .inl ⟨0, rfl, fun _ => rfl⟩⟩⟩
      · conv => whnf
        refine acall.pure _ (t_forms) rfl rfl ?_
        conv => whnf
        refine ⟨of_decide_eq_true rfl, of_decide_eq_true rfl, of_decide_eq_true rfl, ?_⟩
        conv => whnf
        refine ⟨by kernel_rfl, fun _ => ?_⟩
        conv => whnf
        exact ⟨(⟨#[115, 119, 97, 112]⟩, true, true, true, false, .fn 60 []), [0, 1, 2, 3, 4, 5, _, _], [], Sub.mk' rfl ⟨.inl rfl, rfl, rfl, .inl rfl, ⟨rfl, rfl⟩, ⟨rfl, rfl⟩, .inl rfl, .inl rfl, .inl rfl, trivial⟩ ⟨⟨rfl, ⟨rfl, rfl⟩, trivial⟩, ⟨rfl, rfl, rfl, rfl⟩, ⟨rfl, .inl rfl, .inl rfl, .inl rfl, .inl rfl, .inl rfl, .inl rfl, .inl rfl, trivial⟩, ⟨rfl, .inl rfl, .inl rfl, .inl rfl, .inl rfl, .inl rfl, ⟨rfl, trivial⟩, trivial⟩, trivial⟩ rfl rfl, ⟨rfl, .inr (.inr (.inl ⟨rfl, fun _ => rfl⟩))⟩⟩
      · conv => whnf
        refine acall.pure _ (t_forms) rfl rfl ?_
        conv => whnf
        refine ⟨of_decide_eq_true rfl, of_decide_eq_true rfl, of_decide_eq_true rfl, ?_⟩
        conv => whnf
        refine ⟨by kernel_rfl, fun _ => ?_⟩
        conv => whnf
        exact ⟨(⟨#[102, 101, 110, 99, 101]⟩, false, false, false, false, alwA 0), [0, 1, 2, 3, 4, 5, _, _], [], Sub.mk' rfl ⟨.inl rfl, rfl, rfl, .inl rfl, ⟨rfl, rfl⟩, ⟨rfl, rfl⟩, .inl rfl, .inl rfl, .inl rfl, trivial⟩ ⟨⟨rfl, ⟨rfl, rfl⟩, trivial⟩, ⟨rfl, rfl, rfl, rfl⟩, ⟨rfl, .inl rfl, .inl rfl, .inl rfl, .inl rfl, .inl rfl, .inl rfl, .inl rfl, trivial⟩, ⟨rfl, .inl rfl, .inl rfl, .inl rfl, .inl rfl, .inl rfl, ⟨rfl, rfl, trivial⟩, trivial⟩, trivial⟩ rfl rfl, ⟨rfl, .inl ⟨0, rfl, fun _ => rfl⟩⟩⟩
      · conv => whnf
        refine acall.pure _ (t_forms) rfl rfl ?_
        conv => whnf
        refine ⟨of_decide_eq_true rfl, of_decide_eq_true rfl, of_decide_eq_true rfl, ?_⟩
        conv => whnf
        refine ⟨by kernel_rfl, fun _ => ?_⟩
        conv => whnf
        exact ⟨(⟨#[112, 114, 105, 110, 116]⟩, false, true, false, false, alwA 6), [0, 1, 2, 3, 4, 5, _, _], [], Sub.mk' rfl ⟨.inl rfl, rfl, rfl, .inl rfl, ⟨rfl, rfl⟩, ⟨rfl, rfl⟩, .inl rfl, .inl rfl, .inl rfl, trivial⟩ ⟨⟨rfl, ⟨rfl, rfl⟩, trivial⟩, ⟨rfl, rfl, rfl, rfl⟩, ⟨rfl, .inl rfl, .inl rfl, .inl rfl, .inl rfl, .inl rfl, .inl rfl, .inl rfl, trivial⟩, ⟨rfl, .inl rfl, .inl rfl, .inl rfl, .inl rfl, .inl rfl, ⟨rfl, rfl, trivial⟩, trivial⟩, trivial⟩ rfl rfl, ⟨rfl, .inl ⟨6, rfl, fun _ => rfl⟩⟩⟩
      · conv => whnf
        refine acall.pure _ (t_forms) rfl rfl ?_
        conv => whnf
        refine ⟨of_decide_eq_true rfl, of_decide_eq_true rfl, of_decide_eq_true rfl, ?_⟩
        conv => whnf
        refine ⟨by kernel_rfl, fun _ => ?_⟩
        conv => whnf
        exact ⟨(⟨#[104, 97, 108, 116]⟩, false, false, false, false, alwA 7), [0, 1, 2, 3, 4, 5, _, _], [], Sub.mk' rfl ⟨.inl rfl, rfl, rfl, .inl rfl, ⟨rfl, rfl⟩, ⟨rfl, rfl⟩, .inl rfl, .inl rfl, .inl rfl, trivial⟩ ⟨⟨rfl, ⟨rfl, rfl⟩, trivial⟩, ⟨rfl, rfl, rfl, rfl⟩, ⟨rfl, .inl rfl, .inl rfl, .inl rfl, .inl rfl, .inl rfl, .inl rfl, .inl rfl, trivial⟩, ⟨rfl, .inl rfl, .inl rfl, .inl rfl, .inl rfl, .inl rfl, ⟨rfl, rfl, trivial⟩, trivial⟩, trivial⟩ rfl rfl, ⟨rfl, .inl ⟨7, rfl, fun _ => rfl⟩⟩⟩
      · conv => whnf
        refine acall.pure _ (t_forms) rfl rfl ?_
        conv => whnf
        refine ⟨of_decide_eq_true rfl, of_decide_eq_true rfl, of_decide_eq_true rfl, ?_⟩
        conv => whnf
        refine ⟨by kernel_rfl, fun _ => ?_⟩
        conv => whnf
        exact ⟨(⟨#[100, 114, 97, 105, 110]⟩, true, true, false, false, .fn 61 []), [0, 1, 2, 3, 4, 5, _, _], [], Sub.mk' rfl ⟨.inl rfl, rfl, rfl, .inl rfl, ⟨rfl, rfl⟩, ⟨rfl, rfl⟩, .inl rfl, .inl rfl, .inl rfl, trivial⟩ ⟨⟨rfl, ⟨rfl, rfl⟩, trivial⟩, ⟨rfl, rfl, rfl, rfl⟩, ⟨rfl, .inl rfl, .inl rfl, .inl rfl, .inl rfl, .inl rfl, .inl rfl, .inl rfl, trivial⟩, ⟨rfl, .inl rfl, .inl rfl, .inl rfl, .inl rfl, .inl rfl, ⟨rfl, trivial⟩, trivial⟩, trivial⟩ rfl rfl, ⟨rfl, .inr (.inr (.inr ⟨rfl, fun _ => rfl⟩))⟩⟩
      · omega
    rintro ⟨wd, fa, f1, f2, f3, ev⟩ ⟨hfa, hok⟩ -
    simp only at hfa hok
    clear hk hk0
    conv => whnf
    refine CutL.by (fun x : Int × Int => ⟨[(0, yldT y), (1, .ept [didsT l]), (2, .ept [intsT memory, ti shared, ti locks, ti buffer, coresT cores]), (4, .tr (ti j)), (5, .ptr 6 0), (6, .ptr 7 0), (7, .tr (ti x.1)), (8, .tr (ti x.2)), (10, .tr (didsT l)), (11, .tr (ti (l.length : Int))), (12, .tr (ti j))], [(1, .cells 27 [.sl 5 out.length]), (5, evV out), (6, diB d), (7, .cells 88 [.tr (ts wd), .tr (tb fa), .tr (tb f1), .tr (tb f2), .tr (tb f3), ev])], 10⟩) (fun x => whD o' d = x) ?_ ?_
    · subst hO
      obtain ⟨dk, dc, da, dd, dw, dp, dn⟩ := d
      simp only at hfa
      clear hEj hEV hrd
      rcases hok with ⟨k, rfl, -⟩ | ⟨rfl, -⟩ | ⟨rfl, -⟩ | ⟨rfl, -⟩
      all_goals (
        cases fa
        · conv => whnf
          exact ⟨(0, 0), [0, 1, 2, 3, 4, 5, 6, 7], [], Sub.mk' rfl ⟨.inl rfl, rfl, rfl, .inl rfl, ⟨rfl, rfl⟩, ⟨rfl, rfl⟩, .inl rfl, .inl rfl, .inl rfl, .inl rfl, .inl rfl, trivial⟩ ⟨⟨rfl, ⟨rfl, rfl⟩, trivial⟩, ⟨rfl, rfl, rfl, rfl⟩, ⟨rfl, .inl rfl, .inl rfl, .inl rfl, .inl rfl, .inl rfl, .inl rfl, .inl rfl, trivial⟩, ⟨rfl, .inl rfl, .inl rfl, .inl rfl, .inl rfl, .inl rfl, (by first | exact ⟨rfl, rfl, trivial⟩ | exact ⟨rfl, trivial⟩), trivial⟩, trivial⟩ rfl rfl, whD_no hfa.symm⟩
        · conv => whnf
          refine csplit (fun g1 => ?_) (fun g1 => ?_)
          · conv => whnf
            refine ⟨by kernel_rfl, fun _ => ?_⟩
            conv => whnf
            exact ⟨(1, dd), [0, 1, 2, 3, 4, 5, 6, 7], [], Sub.mk' rfl ⟨.inl rfl, rfl, rfl, .inl rfl, ⟨rfl, rfl⟩, ⟨rfl, rfl⟩, .inl rfl, .inl rfl, .inl rfl, .inl rfl, .inl rfl, trivial⟩ ⟨⟨rfl, ⟨rfl, rfl⟩, trivial⟩, ⟨rfl, rfl, rfl, rfl⟩, ⟨rfl, .inl rfl, .inl rfl, .inl rfl, .inl rfl, .inl rfl, .inl rfl, .inl rfl, trivial⟩, ⟨rfl, .inl rfl, .inl rfl, .inl rfl, .inl rfl, .inl rfl, (by first | exact ⟨rfl, rfl, trivial⟩ | exact ⟨rfl, trivial⟩), trivial⟩, trivial⟩ rfl rfl, whD_var hfa.symm g1⟩
          · conv => whnf
            refine csplit (fun g2 => ?_) (fun g2 => ?_)
            · conv => whnf
              refine ⟨by kernel_rfl, fun _ => ?_⟩
              conv => whnf
              exact ⟨(2, wrp (dd - shared)), [0, 1, 2, 3, 4, 5, 6, 7], [], Sub.mk' rfl ⟨.inl rfl, rfl, rfl, .inl rfl, ⟨rfl, rfl⟩, ⟨rfl, rfl⟩, .inl rfl, .inl rfl, .inl rfl, .inl rfl, .inl rfl, trivial⟩ ⟨⟨rfl, ⟨rfl, rfl⟩, trivial⟩, ⟨rfl, rfl, rfl, rfl⟩, ⟨rfl, .inl rfl, .inl rfl, .inl rfl, .inl rfl, .inl rfl, .inl rfl, .inl rfl, trivial⟩, ⟨rfl, .inl rfl, .inl rfl, .inl rfl, .inl rfl, .inl rfl, (by first | exact ⟨rfl, rfl, trivial⟩ | exact ⟨rfl, trivial⟩), trivial⟩, trivial⟩ rfl rfl, whD_lock hfa.symm g1 g2⟩
            · conv => whnf
              exact ⟨(0, 0), [0, 1, 2, 3, 4, 5, 6, 7], [], Sub.mk' rfl ⟨.inl rfl, rfl, rfl, .inl rfl, ⟨rfl, rfl⟩, ⟨rfl, rfl⟩, .inl rfl, .inl rfl, .inl rfl, .inl rfl, .inl rfl, trivial⟩ ⟨⟨rfl, ⟨rfl, rfl⟩, trivial⟩, ⟨rfl, rfl, rfl, rfl⟩, ⟨rfl, .inl rfl, .inl rfl, .inl rfl, .inl rfl, .inl rfl, .inl rfl, .inl rfl, trivial⟩, ⟨rfl, .inl rfl, .inl rfl, .inl rfl, .inl rfl, .inl rfl, (by first | exact ⟨rfl, rfl, trivial⟩ | exact ⟨rfl, trivial⟩), trivial⟩, trivial⟩ rfl rfl, whD_else hfa.symm g1 g2⟩)
    rintro ⟨w, th⟩ hwh -
    conv => whnf
    refine CutL.by (fun E : Int => ⟨[(0, yldT y), (1, .ept [didsT l]), (2, .ept [intsT memory, ti shared, ti locks, ti buffer, coresT cores]), (5, .ptr 6 0), (8, .tr (ti th)), (9, .ptr 7 0), (10, .tr (didsT l)), (11, .tr (ti (l.length : Int))), (12, .tr (ti j))], [(1, .cells 27 [.sl 5 out.length]), (5, evV out), (6, diB d), (7, evB ⟨E, d.core, 0, 0, 0, false, j⟩)], 10⟩) (fun E => evK w d = E) ?_ ?_
    · obtain ⟨dk, dc, da, dd, dw, dp, dn⟩ := d
      clear hEj hEV hrd hfa hwh
      rcases hok with ⟨k, rfl, hw⟩ | ⟨rfl, hw⟩ | ⟨rfl, hw⟩ | ⟨rfl, hw⟩
      · conv => whnf
        refine acall.au [] [] (k_always1 k w dk dc da dd dw dp dn) ?_
        conv => whnf
        refine ⟨by kernel_rfl, fun _ => ?_⟩
        conv => whnf
        exact ⟨k, [0, 1, 2, 3, 4, 5, 6, _], [], Sub.mk' rfl ⟨.inl rfl, rfl, rfl, ⟨rfl, rfl⟩, .inl rfl, ⟨rfl, rfl⟩, .inl rfl, .inl rfl, .inl rfl, trivial⟩ ⟨⟨rfl, ⟨rfl, rfl⟩, trivial⟩, ⟨rfl, rfl, rfl, rfl⟩, ⟨rfl, .inl rfl, .inl rfl, .inl rfl, .inl rfl, .inl rfl, .inl rfl, .inl rfl, trivial⟩, ⟨rfl, .inl rfl, .inl rfl, .inl rfl, .inl rfl, .inl rfl, .inl rfl, .inl rfl, trivial⟩, trivial⟩ rfl rfl, hw w⟩
      · conv => whnf
        refine acall.au [] [] (k_on1 1 w dk dc da dd dw dp dn) ?_
        conv => whnf
        refine ⟨by kernel_rfl, fun _ => ?_⟩
        conv => whnf
        exact ⟨onE 1 w, [0, 1, 2, 3, 4, 5, 6, _], [], Sub.mk' rfl ⟨.inl rfl, rfl, rfl, ⟨rfl, rfl⟩, .inl rfl, ⟨rfl, rfl⟩, .inl rfl, .inl rfl, .inl rfl, trivial⟩ ⟨⟨rfl, ⟨rfl, rfl⟩, trivial⟩, ⟨rfl, rfl, rfl, rfl⟩, ⟨rfl, .inl rfl, .inl rfl, .inl rfl, .inl rfl, .inl rfl, .inl rfl, .inl rfl, trivial⟩, ⟨rfl, .inl rfl, .inl rfl, .inl rfl, .inl rfl, .inl rfl, .inl rfl, .inl rfl, trivial⟩, trivial⟩ rfl rfl, hw w⟩
      · conv => whnf
        refine acall.au [] [] (k_swapped w dk dc da dd dw dp dn) ?_
        conv => whnf
        refine ⟨by kernel_rfl, fun _ => ?_⟩
        conv => whnf
        exact ⟨swE w dw dp, [0, 1, 2, 3, 4, 5, 6, _], [], Sub.mk' rfl ⟨.inl rfl, rfl, rfl, ⟨rfl, rfl⟩, .inl rfl, ⟨rfl, rfl⟩, .inl rfl, .inl rfl, .inl rfl, trivial⟩ ⟨⟨rfl, ⟨rfl, rfl⟩, trivial⟩, ⟨rfl, rfl, rfl, rfl⟩, ⟨rfl, .inl rfl, .inl rfl, .inl rfl, .inl rfl, .inl rfl, .inl rfl, .inl rfl, trivial⟩, ⟨rfl, .inl rfl, .inl rfl, .inl rfl, .inl rfl, .inl rfl, .inl rfl, .inl rfl, trivial⟩, trivial⟩ rfl rfl, hw w⟩
      · conv => whnf
        refine acall.au [] [] (k_drained w dk dc da dd dw dp dn) ?_
        conv => whnf
        refine ⟨by kernel_rfl, fun _ => ?_⟩
        conv => whnf
        exact ⟨drE w dw, [0, 1, 2, 3, 4, 5, 6, _], [], Sub.mk' rfl ⟨.inl rfl, rfl, rfl, ⟨rfl, rfl⟩, .inl rfl, ⟨rfl, rfl⟩, .inl rfl, .inl rfl, .inl rfl, trivial⟩ ⟨⟨rfl, ⟨rfl, rfl⟩, trivial⟩, ⟨rfl, rfl, rfl, rfl⟩, ⟨rfl, .inl rfl, .inl rfl, .inl rfl, .inl rfl, .inl rfl, .inl rfl, .inl rfl, trivial⟩, ⟨rfl, .inl rfl, .inl rfl, .inl rfl, .inl rfl, .inl rfl, .inl rfl, .inl rfl, trivial⟩, trivial⟩ rfl rfl, hw w⟩
    clear hok
    rintro E hE -
    have hth : (whD o' d).2 = th := by rw [hwh]
    replace hE : evK (whD o' d).1 d = E := by rw [hwh]; exact hE
    rw [evD_eq hE hth] at hEj
    clear hE hth hO hwh
    obtain ⟨dk, dc, da, dd, dw, dp, dn⟩ := d
    simp only at hEj
    conv => whnf
    refine CutL.by (fun e : Evt => ⟨[(0, yldT y), (1, .ept [didsT l]), (2, .ept [intsT memory, ti shared, ti locks, ti buffer, coresT cores]), (9, .ptr 6 0), (10, .tr (didsT l)), (11, .tr (ti (l.length : Int))), (12, .tr (ti j))], [(1, .cells 27 [.sl 5 out.length]), (5, evV out), (6, evB e)], 10⟩) (fun e => EV = out ++ ([e] ++ evL o' (l.drop (j + 1)) (j + 1))) ?_ ?_
    · conv => whnf
      refine csplit (fun e0 => ?_) (fun e0 => ?_)
      · conv => whnf
        refine ⟨fun h => absurd h (by decide), fun _ => ?_⟩
        conv => whnf
        refine ⟨fun _ => ?_, fun h => absurd rfl h⟩
        conv => whnf
        have e0 : (E == 0) = true := e0
        exact ⟨(out, j + 1), [0, 1, 2, 3, 4, 5], [], Sub.mk' rfl ⟨.inl rfl, rfl, rfl, .inl rfl, .inl rfl, .inl (ti_succ hlt hl63), trivial⟩ ⟨⟨rfl, ⟨rfl, rfl⟩, trivial⟩, ⟨rfl, rfl, rfl, rfl⟩, trivial⟩ rfl rfl, ⟨hlt, by show out.length ≤ j + 1; omega, by rw [hEj, e0]; rfl⟩, by show l.length - (j + 1) < l.length - j; omega⟩
      replace e0 : (E == 0) = false := e0
      rw [e0] at hEj
      conv => whnf
      refine csplit (fun e1 => ?_) (fun e1 => ?_)
      · replace e1 : (E == 1) = true := e1
        conv => whnf
        refine csplit (fun _ => ?_) (fun g => ctf e1 g)
        conv => whnf
        refine ⟨by kernel_rfl, fun _ => ?_⟩
        conv => whnf
        exact ⟨⟨E, dc, th, dw, dp, dn, j⟩, [0, 1, 2, 3, 4, 5, _], [], Sub.mk' rfl ⟨.inl rfl, rfl, rfl, ⟨rfl, rfl⟩, .inl rfl, .inl rfl, .inl rfl, trivial⟩ ⟨⟨rfl, ⟨rfl, rfl⟩, trivial⟩, ⟨rfl, rfl, rfl, rfl⟩, ⟨rfl, .inl rfl, .inl rfl, .inl rfl, .inl rfl, .inl rfl, .inl rfl, .inl rfl, trivial⟩, trivial⟩ rfl rfl, by rw [hEj, e1]; rfl⟩
      replace e1 : (E == 1) = false := e1
      conv => whnf
      refine csplit (fun e2 => ?_) (fun e2 => ?_)
      · replace e2 : (E == 2) = true := e2
        conv => whnf
        refine csplit (fun _ => ?_) (fun g => ctf e2 g)
        conv => whnf
        refine ⟨by kernel_rfl, fun _ => ?_⟩
        conv => whnf
        exact ⟨⟨E, dc, th, dw, dp, dn, j⟩, [0, 1, 2, 3, 4, 5, _], [], Sub.mk' rfl ⟨.inl rfl, rfl, rfl, ⟨rfl, rfl⟩, .inl rfl, .inl rfl, .inl rfl, trivial⟩ ⟨⟨rfl, ⟨rfl, rfl⟩, trivial⟩, ⟨rfl, rfl, rfl, rfl⟩, ⟨rfl, .inl rfl, .inl rfl, .inl rfl, .inl rfl, .inl rfl, .inl rfl, .inl rfl, trivial⟩, trivial⟩ rfl rfl, by rw [hEj, e1, e2]; rfl⟩
      replace e2 : (E == 2) = false := e2
      conv => whnf
      refine csplit (fun e3 => ?_) (fun e3 => ?_)
      · replace e3 : (E == 3) = true := e3
        conv => whnf
        refine ⟨by kernel_rfl, fun _ => ?_⟩
        conv => whnf
        exact ⟨⟨E, dc, th, dw, dp, dn, j⟩, [0, 1, 2, 3, 4, 5, _], [], Sub.mk' rfl ⟨.inl rfl, rfl, rfl, ⟨rfl, rfl⟩, .inl rfl, .inl rfl, .inl rfl, trivial⟩ ⟨⟨rfl, ⟨rfl, rfl⟩, trivial⟩, ⟨rfl, rfl, rfl, rfl⟩, ⟨rfl, .inl rfl, .inl rfl, .inl rfl, .inl rfl, .inl rfl, .inl rfl, .inl rfl, trivial⟩, trivial⟩ rfl rfl, by rw [hEj, e1, e2, e3]; rfl⟩
      replace e3 : (E == 3) = false := e3
      conv => whnf
      refine csplit (fun e4 => ?_) (fun e4 => ?_)
      · replace e4 : (E == 4) = true := e4
        conv => whnf
        refine csplit (fun _ => ?_) (fun g => ctf e4 g)
        conv => whnf
        exact ⟨⟨E, dc, th, 0, 0, false, j⟩, [0, 1, 2, 3, 4, 5, _], [], Sub.mk' rfl ⟨.inl rfl, rfl, rfl, ⟨rfl, rfl⟩, .inl rfl, .inl rfl, .inl rfl, trivial⟩ ⟨⟨rfl, ⟨rfl, rfl⟩, trivial⟩, ⟨rfl, rfl, rfl, rfl⟩, ⟨rfl, .inl rfl, .inl rfl, .inl rfl, .inl rfl, .inl rfl, .inl rfl, .inl rfl, trivial⟩, trivial⟩ rfl rfl, by rw [hEj, e1, e2, e3, e4]; rfl⟩
      replace e4 : (E == 4) = false := e4
      conv => whnf
      refine csplit (fun e5 => ?_) (fun e5 => ?_)
      · replace e5 : (E == 5) = true := e5
        conv => whnf
        exact ⟨⟨E, dc, th, 0, 0, false, j⟩, [0, 1, 2, 3, 4, 5, _], [], Sub.mk' rfl ⟨.inl rfl, rfl, rfl, ⟨rfl, rfl⟩, .inl rfl, .inl rfl, .inl rfl, trivial⟩ ⟨⟨rfl, ⟨rfl, rfl⟩, trivial⟩, ⟨rfl, rfl, rfl, rfl⟩, ⟨rfl, .inl rfl, .inl rfl, .inl rfl, .inl rfl, .inl rfl, .inl rfl, .inl rfl, trivial⟩, trivial⟩ rfl rfl, by rw [hEj, e1, e2, e3, e4, e5]; rfl⟩
      replace e5 : (E == 5) = false := e5
      conv => whnf
      refine csplit (fun e6 => ?_) (fun e6 => ?_)
      · replace e6 : (E == 6) = true := e6
        conv => whnf
        exact ⟨⟨E, dc, 0, dw, 0, false, j⟩, [0, 1, 2, 3, 4, 5, _], [], Sub.mk' rfl ⟨.inl rfl, rfl, rfl, ⟨rfl, rfl⟩, .inl rfl, .inl rfl, .inl rfl, trivial⟩ ⟨⟨rfl, ⟨rfl, rfl⟩, trivial⟩, ⟨rfl, rfl, rfl, rfl⟩, ⟨rfl, .inl rfl, .inl rfl, .inl rfl, .inl rfl, .inl rfl, .inl rfl, .inl rfl, trivial⟩, trivial⟩ rfl rfl, by rw [hEj, e1, e2, e3, e4, e5, e6]; rfl⟩
      replace e6 : (E == 6) = false := e6
      conv => whnf
      exact ⟨⟨E, dc, 0, 0, 0, false, j⟩, [0, 1, 2, 3, 4, 5, _], [], Sub.mk' rfl ⟨.inl rfl, rfl, rfl, ⟨rfl, rfl⟩, .inl rfl, .inl rfl, .inl rfl, trivial⟩ ⟨⟨rfl, ⟨rfl, rfl⟩, trivial⟩, ⟨rfl, rfl, rfl, rfl⟩, ⟨rfl, .inl rfl, .inl rfl, .inl rfl, .inl rfl, .inl rfl, .inl rfl, .inl rfl, trivial⟩, trivial⟩ rfl rfl, by rw [hEj, e1, e2, e3, e4, e5, e6]; rfl⟩
    · rintro ⟨ek, ec, et, ew, ep, en, ea⟩ hE2 -
      conv => whnf
      refine yield_region (y := YRec.mk _ _ _ _ _) (pre := [_, _]) (r := [_]) hT rfl rfl rfl rfl (by decide) rfl rfl ?_
      conv => whnf
      refine ⟨rfl, rfl, rfl, _, rfl, rfl, ?_⟩
      conv => whnf
      refine ⟨rfl, rfl, rfl, (by rw [List.length_map]; exact Nat.le_refl _), (show (out.length + 1) * 56 ≤ 150000000000000 by omega), fun q hq => ?_, ?_⟩
      · cases hq with
        | head => exact Nat.ne_of_beq_eq_false rfl
        | tail _ h => cases h
      conv => whnf
      refine ⟨rfl, rfl, ?_⟩
      conv => whnf
      have hda : (out.map Evt.cells).take out.length ++ [[tu ek, ti ec, ti et, ti ew, ti ep, tb en, ti ea]] = (out ++ [Evt.mk ek ec et ew ep en ea]).map Evt.cells := by rw [List.take_of_length_le (by simp), List.map_append]; rfl
      exact ⟨(out ++ [Evt.mk ek ec et ew ep en ea], j + 1), [0, 1, 2, 3, 4, _], [], Sub.mk' rfl ⟨.inl rfl, rfl, rfl, .inl rfl, .inl rfl, .inl (ti_succ hlt hl63), trivial⟩ ⟨⟨rfl, ⟨rfl, by simp⟩, trivial⟩, ⟨rfl, rfl, rfl, hda⟩, trivial⟩ rfl rfl, ⟨hlt, by show (out ++ _).length ≤ j + 1; simp; omega, by rw [hE2, List.append_assoc]⟩, by show l.length - (j + 1) < l.length - j; omega⟩
  · have hge : j = l.length := by have : ¬ ((j : Nat) : Int) < (l.length : Int) := of_decide_eq_false hge; omega
    subst hge
    rw [List.drop_length] at hEj
    have hEj : EV = out := by rw [hEj]; exact List.append_nil _
    subst hEj
    conv => whnf
    refine ⟨fun _ => ?_, fun h => absurd rfl h⟩
    conv => whnf
    refine ⟨.inl rfl, rfl, ?_⟩
    conv => whnf
    exact ⟨.inr rfl, [], rfl, rfl, ⟨⟨rfl, by rw [List.length_map]; exact Nat.le_refl _, by rw [List.take_of_length_le (by simp)]⟩, .inl rfl, trivial⟩, trivial⟩
end Go.Proofs.YtcpolpbeimhgfaaGreat.am

namespace Go.Proofs.YtcpolpbeimhgfaaGreat.am
open Go Go.Proofs
theorem toList_data (s : ByteArray) : s.toList = s.data.toList := ByteArray.toList_eq s
abbrev insB (i : Ins) : Blk := .cells 82 [.tr (tu i.kind), .tr (tu i.op), .tr (ti i.d), .tr (ti i.a), .tr (ti i.b), .tr (ti i.addr), .tr (ti i.to_), .tr (ti i.word), .tr (ti i.from_)]
theorem ba_ext {a b : ByteArray} (h : a.data.toList = b.data.toList) : a = b := by
  obtain ⟨⟨a⟩⟩ := a
  obtain ⟨⟨b⟩⟩ := b
  have : a = b := h
  rw [this]
theorem seq_ba {a b : ByteArray} : seq a b = true ↔ a = b := by
  unfold seq
  rw [beq_iff_eq, toList_data, toList_data]
  exact ⟨ba_ext, fun h => by rw [h]⟩
theorem opword_low {op : Int} (h : op ≤ 0) : opword op = ⟨#[]⟩ := by
  unfold opword byK
  rw [show op.toNat = 0 by omega]; rfl
theorem z_digit (c : Int) : K 87 [.tr (tu c)] [] (.ret (.tr (tb (digB c)))) [] := by
  refine Ctr.of hT hmix Tryz.func87 rfl (fun _ _ => by kernel_rfl) rfl fun hok => ?_
  conv => whnf
  (repeat' (refine csplit (fun _ => ?_) (fun _ => ?_) <;> conv => whnf)) <;> refine ⟨Or.inl (congrArg tb ?_), trivial⟩ <;> (simp only [digB, *] <;> rfl)
theorem z_letter (c : Int) : K 89 [.tr (tu c)] [] (.ret (.tr (tb (letB c)))) [] := by
  refine Ctr.of hT hmix Tryz.func89 rfl (fun _ _ => by kernel_rfl) rfl fun hok => ?_
  conv => whnf
  (repeat' (refine csplit (fun _ => ?_) (fun _ => ?_) <;> conv => whnf)) <;> refine ⟨Or.inl (congrArg tb ?_), trivial⟩ <;> (simp only [letB, *] <;> rfl)
theorem z_word (s : ByteArray) : K 88 [.tr (ts s)] [] (.ret (.tr (tb (wordB s)))) [] := by
  refine Ctr.of hT hmix Tryz.func88 rfl (fun _ _ => by kernel_rfl) rfl fun hok => ?_
  conv => whnf
  (repeat' (refine csplit (fun _ => ?_) (fun _ => ?_) <;> conv => whnf)) <;> refine ⟨Or.inl (congrArg tb ?_), trivial⟩ <;> first | (simp only [wordB, seq, *] <;> rfl) | simp_all
theorem z_name (s : ByteArray) : K 62 [.tr (ts s)] [] (.ret (.tr (tb (nameB s)))) [] := by
  refine Ctr.of hT hmix Tryz.func62 rfl (fun _ _ => by kernel_rfl) rfl fun hok => ?_
  have hsz := (hok.slot 0 rfl).tr.str
  clear hok
  conv => whnf
  refine csplit (fun h1 => ?_) (fun h1 => ?_)
  · conv => whnf
    exact ⟨Or.inl (congrArg tb (by simp only [nameB, h1] <;> rfl)), trivial⟩
  conv => whnf
  refine csplit (fun h2 => ?_) (fun h2 => ?_)
  · conv => whnf
    exact ⟨Or.inl (congrArg tb (by simp only [nameB, h1, h2] <;> rfl)), trivial⟩
  have hs0 : 0 < s.size := by have := of_decide_eq_false h1; omega
  conv => whnf
  refine ⟨by omega, by omega, fun b hb => ?_⟩
  have hc0 : chI s 0 = b.toNat := by unfold chI; rw [show s[0]? = some b from hb]
  conv => whnf
  refine acall.pure _ (z_digit b.toNat) rfl rfl fun _ => ?_
  conv => whnf
  refine csplit (fun h3 => ?_) (fun h3 => ?_)
  · conv => whnf
    exact ⟨Or.inl (congrArg tb (by rw [← hc0] at h3; simp only [nameB, h1, h2, h3] <;> rfl)), trivial⟩
  rw [← hc0] at h3
  conv => whnf
  refine acall.pure _ (z_word s) rfl rfl fun _ => ?_
  conv => whnf
  refine csplit (fun h4 => ?_) (fun h4 => ?_)
  · conv => whnf
    exact ⟨Or.inl (congrArg tb (by simp only [nameB, h1, h2, h3, h4] <;> rfl)), trivial⟩
  conv => whnf
  have hE : nameB s = charsB s s.size := by simp only [nameB, h1, h2, h3, h4] <;> rfl
  refine LoopL.by (fun i : Nat => ⟨[(0, .tr (ts s)), (3, .tr (ti i))], [], 38⟩)
    (fun i => i ≤ s.size ∧ nameB s = charsB s (s.size - i)) (fun i => s.size - i) 0 [] [] (Sub.mk' rfl ⟨.inl rfl, .inl rfl, trivial⟩ trivial rfl rfl) ⟨Nat.zero_le _, hE⟩ ?_
  rintro i ⟨hi, hf⟩ -
  conv => whnf
  refine csplit (fun hlt => ?_) (fun hge => ?_)
  · have hlt : i < s.size := by simpa using hlt
    conv => whnf
    refine ⟨by omega, by omega, fun b hb => ?_⟩
    rw [charsB_at (show s[i]? = some b from hb) hlt] at hf
    conv => whnf
    refine acall.pure _ (z_letter b.toNat) rfl rfl fun _ => ?_
    conv => whnf
    refine csplit (fun h5 => ?_) (fun h5 => ?_)
    · conv => whnf
      refine ⟨by omega, by omega, fun b' hb' => ?_⟩
      have hbb : b' = b := Option.some.inj ((show s[i]? = some b' from hb').symm.trans hb)
      subst hbb
      conv => whnf
      refine acall.pure _ (z_digit b'.toNat) rfl rfl fun _ => ?_
      conv => whnf
      refine csplit (fun h6 => ?_) (fun h6 => ?_)
      · rw [h5, h6] at hf
        conv => whnf
        exact ⟨Or.inl (congrArg tb hf.symm), trivial⟩
      · rw [h5, h6] at hf
        conv => whnf
        exact ⟨i + 1, [], [], Sub.mk' rfl ⟨.inl rfl, .inl (ti_succ hlt hsz), trivial⟩ trivial rfl rfl, ⟨by omega, hf⟩, by omega⟩
    · rw [h5] at hf
      conv => whnf
      exact ⟨i + 1, [], [], Sub.mk' rfl ⟨.inl rfl, .inl (ti_succ hlt hsz), trivial⟩ trivial rfl rfl, ⟨by omega, hf⟩, by omega⟩
  · have hge : s.size ≤ i := by simpa using hge
    rw [show s.size - i = 0 by omega] at hf
    conv => whnf
    refine ⟨fun _ => ?_, fun h => absurd rfl h⟩
    conv => whnf
    exact ⟨Or.inl (congrArg tb hf.symm), trivial⟩
def useD (k : Int) : Bool := k == 1 || k == 2 || k == 3 || k == 5
def useA (k : Int) : Bool := k == 2 || k == 4 || k == 7 || k == 9
def useM (k : Int) : Bool := k == 3 || k == 5 || k == 4
def useT (k : Int) : Bool := k == 8 || k == 9
theorem z_uses (k : Int) : K 63 [.tr (tu k)] [] (.ret (.tup [.tr (tb (useD k)), .tr (tb (useA k)), .tr (tb (useM k)), .tr (tb (useT k))])) [] := by
  refine Ctr.of hT hmix Tryz.func63 rfl (fun _ _ => by kernel_rfl) rfl fun hok => ?_
  clear hok
  conv => whnf
  (repeat' (refine csplit (fun h => ?_) (fun h => ?_) <;> (try dsimp only at h) <;> conv => whnf))
  all_goals
    refine ⟨⟨.inl (congrArg tb ?_), .inl (congrArg tb ?_), .inl (congrArg tb ?_), .inl (congrArg tb ?_), trivial⟩, trivial⟩ <;> simp_all [useD, useA, useM, useT]
def regOk (n : Int) : Bool := decide (n ≥ 0) && decide (n < 16)
theorem z_reg (n : Int) : K 65 [.tr (ti n)] [] (.ret (.tr (tb (regOk n)))) [] := by
  refine Ctr.of hT hmix Tryz.func65 rfl (fun _ _ => by kernel_rfl) rfl fun hok => ?_
  clear hok
  conv => whnf
  (repeat' (refine csplit (fun h => ?_) (fun h => ?_) <;> conv => whnf)) <;> exact ⟨.inl (congrArg tb (by unfold regOk; simp only [*] <;> rfl)), trivial⟩
theorem z_two (op : Int) : K 64 [.tr (tu op)] [] (.ret (.tr (tb (two op)))) [] := k_rtwo op
/-- Right, as the reference asks it -/
def z0 (i : Ins) : Bool := decide (i.kind ≤ 0) || decide (i.kind ≥ 11) || decide (i.from_ < 0) || decide (i.from_ > 4096)
def z1 (i : Ins) : Bool := (i.kind == 2 && (decide (i.op ≤ 0) || decide (i.op ≥ 19))) || (i.kind != 2 && i.op != 0)
def z2 (i : Ins) (D A W : Bool) : Bool := (D && !regOk i.d) || (!D && i.d != 0) || (A && !regOk i.a) || (!A && i.a != 0) || (W && !regOk i.b) || (!W && i.b != 0)
def z3 (i : Ins) (mem : Int) (M : Bool) : Bool := (M && (decide (i.addr < 0) || decide (i.addr ≥ mem))) || (!M && i.addr != 0)
def z4 (i : Ins) (code : Int) (T : Bool) : Bool := (T && (decide (i.to_ < 0) || decide (i.to_ ≥ code))) || (!T && i.to_ != 0)
def rightZ (i : Ins) (code mem : Int) (D A M T W : Bool) : Bool :=
  bif z0 i then false else bif z1 i then false else bif z2 i D A W then false else bif z3 i mem M then false else bif z4 i code T then false else i.kind == 1 || i.word == 0
set_option maxRecDepth 100000 in
set_option maxHeartbeats 4000000 in
theorem z_right0 (i : Ins) (code mem : Int) : K 41 [i.av, .tr (ti code), .tr (ti mem)] [] (.ret (.tr (tb (rightZ i code mem (useD i.kind) (useA i.kind) (useM i.kind) (useT i.kind) (i.kind == 2 && two i.op))))) [] := by
  refine Ctr.cut [5, 1000007, 1000014, 1000017, 1000020] hT hmix Tryz.func41 rfl (fun _ _ => by kernel_rfl) rfl fun hok => ?_
  clear hok
  have hu := z_uses i.kind
  generalize useD i.kind = D at hu ⊢
  generalize useA i.kind = A at hu ⊢
  generalize useM i.kind = M at hu ⊢
  generalize useT i.kind = T at hu ⊢
  obtain ⟨W, hW⟩ : ∃ W, W = (i.kind == 2 && two i.op) := ⟨_, rfl⟩
  rw [← hW]
  obtain ⟨R, hR⟩ : ∃ R, R = rightZ i code mem D A M T W := ⟨_, rfl⟩
  rw [← hR]
  unfold rightZ at hR
  obtain ⟨X0, h0⟩ : ∃ X, X = z0 i := ⟨_, rfl⟩
  obtain ⟨X1, h1⟩ : ∃ X, X = z1 i := ⟨_, rfl⟩
  obtain ⟨X2, h2⟩ : ∃ X, X = z2 i D A W := ⟨_, rfl⟩
  obtain ⟨X3, h3⟩ : ∃ X, X = z3 i mem M := ⟨_, rfl⟩
  obtain ⟨X4, h4⟩ : ∃ X, X = z4 i code T := ⟨_, rfl⟩
  rw [← h0, ← h1, ← h2, ← h3, ← h4] at hR
  unfold z0 at h0
  unfold z1 at h1
  unfold z2 at h2
  unfold z3 at h3
  unfold z4 at h4
  obtain ⟨kind, op, d, a, b, addr, to_, word, from_⟩ := i
  simp only at hu hW hR h0 h1 h2 h3 h4
  conv => whnf
  iterate 4
    refine csplit (fun g => ?_) (fun g => ?_)
    · conv => whnf
      exact ⟨.inl (congrArg tb (by rw [hR, h0]; simp only [*, Bool.or_true, Bool.true_or, cond_true])), trivial⟩
    conv => whnf
  replace h0 : X0 = false := by rw [h0]; simp only [*, Bool.or_false]
  rw [h0] at hR
  refine acall.pure _ (hu) rfl rfl fun _ => ?_
  conv => whnf
  refine CutL.by (fun _ : Unit => ⟨[(1, .tr (ti code)), (2, .tr (ti mem)), (3, .ptr 0 0), (7, .tr (tb D)), (8, .tr (tb A)), (9, .tr (tb M)), (10, .tr (tb T)), (11, .tr (tb W))], [(0, insB ⟨kind, op, d, a, b, addr, to_, word, from_⟩)], 300⟩) (fun _ => True) ?_ ?_
  · clear h0 h1 h2 h3 h4 hR
    conv => whnf
    refine csplit (fun g1 => ?_) (fun g1 => ?_)
    · conv => whnf
      refine acall.pure _ (z_two op) rfl rfl fun _ => ?_
      conv => whnf
      exact ⟨(), [0], [], Sub.mk' rfl ⟨.inl rfl, .inl rfl, ⟨rfl, rfl⟩, .inl rfl, .inl rfl, .inl rfl, .inl rfl, .inl (congrArg tb (by rw [hW]; simp only [g1, Bool.true_and])), trivial⟩ aut rfl rfl, trivial⟩
    · conv => whnf
      exact ⟨(), [0], [], Sub.mk' rfl ⟨.inl rfl, .inl rfl, ⟨rfl, rfl⟩, .inl rfl, .inl rfl, .inl rfl, .inl rfl, .inl (congrArg tb (by rw [hW]; simp only [g1, Bool.false_and])), trivial⟩ aut rfl rfl, trivial⟩
  rintro - - -
  clear h0 hu hW
  conv => whnf
  refine CutL.by (fun _ : Unit => ⟨[(1, .tr (ti code)), (2, .tr (ti mem)), (3, .ptr 0 0), (7, .tr (tb D)), (8, .tr (tb A)), (9, .tr (tb M)), (10, .tr (tb T)), (11, .tr (tb W)), (46, .tr (tb X1))], [(0, insB ⟨kind, op, d, a, b, addr, to_, word, from_⟩)], 300⟩) (fun _ => True) ?_ ?_
  · clear h2 h3 h4 hR
    conv => whnf
    (repeat' (refine csplit (fun g => ?_) (fun g => ?_) <;> conv => whnf))
    all_goals exact ⟨(), [0], [], Sub.mk' rfl ⟨.inl rfl, .inl rfl, ⟨rfl, rfl⟩, .inl rfl, .inl rfl, .inl rfl, .inl rfl, .inl rfl, .inl (congrArg tb (by rw [h1]; clear h1; (try simp only [bne, Bool.not_eq_true', Bool.not_eq_false'] at *); first | (simp only [*, Bool.and_true, Bool.true_and, Bool.and_false, Bool.false_and, Bool.or_true, Bool.true_or, Bool.or_false, Bool.false_or, Bool.not_true, Bool.not_false]; done) | (simp_all; done))), trivial⟩ aut rfl rfl, trivial⟩
  rintro - - -
  clear h1
  cases X1
  · replace hR : R = bif X2 then false else bif X3 then false else bif X4 then false else kind == 1 || word == 0 := hR
    conv => whnf
    refine CutL.by (fun _ : Unit => ⟨[(1, .tr (ti code)), (2, .tr (ti mem)), (3, .ptr 0 0), (7, .tr (tb D)), (8, .tr (tb A)), (9, .tr (tb M)), (10, .tr (tb T)), (11, .tr (tb W)), (68, .tr (tb X2))], [(0, insB ⟨kind, op, d, a, b, addr, to_, word, from_⟩)], 300⟩) (fun _ => True) ?_ ?_
    · clear h3 h4 hR
      conv => whnf
      (repeat' (first | (refine csplit (fun g => ?_) (fun g => ?_) <;> conv => whnf) | (refine acall.pure _ (z_reg d) rfl rfl fun _ => ?_; conv => whnf) | (refine acall.pure _ (z_reg a) rfl rfl fun _ => ?_; conv => whnf) | (refine acall.pure _ (z_reg b) rfl rfl fun _ => ?_; conv => whnf)))
      all_goals exact ⟨(), [0], [], Sub.mk' rfl ⟨.inl rfl, .inl rfl, ⟨rfl, rfl⟩, .inl rfl, .inl rfl, .inl rfl, .inl rfl, .inl rfl, .inl (congrArg tb (by rw [h2]; clear h2; (try simp only [bne, Bool.not_eq_true', Bool.not_eq_false'] at *); first | (simp only [*, Bool.and_true, Bool.true_and, Bool.and_false, Bool.false_and, Bool.or_true, Bool.true_or, Bool.or_false, Bool.false_or, Bool.not_true, Bool.not_false]; done) | (simp_all; done))), trivial⟩ aut rfl rfl, trivial⟩
    rintro - - -
    clear h2
    cases X2
    · replace hR : R = bif X3 then false else bif X4 then false else kind == 1 || word == 0 := hR
      conv => whnf
      refine CutL.by (fun _ : Unit => ⟨[(1, .tr (ti code)), (2, .tr (ti mem)), (3, .ptr 0 0), (7, .tr (tb D)), (8, .tr (tb A)), (9, .tr (tb M)), (10, .tr (tb T)), (11, .tr (tb W)), (111, .tr (tb X3))], [(0, insB ⟨kind, op, d, a, b, addr, to_, word, from_⟩)], 300⟩) (fun _ => True) ?_ ?_
      · clear h4 hR
        conv => whnf
        (repeat' (refine csplit (fun g => ?_) (fun g => ?_) <;> conv => whnf))
        all_goals exact ⟨(), [0], [], Sub.mk' rfl ⟨.inl rfl, .inl rfl, ⟨rfl, rfl⟩, .inl rfl, .inl rfl, .inl rfl, .inl rfl, .inl rfl, .inl (congrArg tb (by rw [h3]; clear h3; (try simp only [bne, Bool.not_eq_true', Bool.not_eq_false'] at *); first | (simp only [*, Bool.and_true, Bool.true_and, Bool.and_false, Bool.false_and, Bool.or_true, Bool.true_or, Bool.or_false, Bool.false_or, Bool.not_true, Bool.not_false]; done) | (simp_all; done))), trivial⟩ aut rfl rfl, trivial⟩
      rintro - - -
      clear h3
      cases X3
      · replace hR : R = bif X4 then false else kind == 1 || word == 0 := hR
        conv => whnf
        refine CutL.by (fun _ : Unit => ⟨[(1, .tr (ti code)), (2, .tr (ti mem)), (3, .ptr 0 0), (7, .tr (tb D)), (8, .tr (tb A)), (9, .tr (tb M)), (10, .tr (tb T)), (11, .tr (tb W)), (131, .tr (tb X4))], [(0, insB ⟨kind, op, d, a, b, addr, to_, word, from_⟩)], 300⟩) (fun _ => True) ?_ ?_
        · clear hR
          conv => whnf
          (repeat' (refine csplit (fun g => ?_) (fun g => ?_) <;> conv => whnf))
          all_goals exact ⟨(), [0], [], Sub.mk' rfl ⟨.inl rfl, .inl rfl, ⟨rfl, rfl⟩, .inl rfl, .inl rfl, .inl rfl, .inl rfl, .inl rfl, .inl (congrArg tb (by rw [h4]; clear h4; (try simp only [bne, Bool.not_eq_true', Bool.not_eq_false'] at *); first | (simp only [*, Bool.and_true, Bool.true_and, Bool.and_false, Bool.false_and, Bool.or_true, Bool.true_or, Bool.or_false, Bool.false_or, Bool.not_true, Bool.not_false]; done) | (simp_all; done))), trivial⟩ aut rfl rfl, trivial⟩
        rintro - - -
        clear h4
        cases X4
        · replace hR : R = (kind == 1 || word == 0) := hR
          conv => whnf
          refine csplit (fun g => ?_) (fun g => ?_)
          · conv => whnf
            exact ⟨.inl (congrArg tb (by rw [hR, g]; rfl)), trivial⟩
          · conv => whnf
            exact ⟨.inl (congrArg tb (by rw [hR, g]; rfl)), trivial⟩
        · conv => whnf
          exact ⟨.inl (congrArg tb (by rw [hR]; rfl)), trivial⟩
      · conv => whnf
        exact ⟨.inl (congrArg tb (by rw [hR]; rfl)), trivial⟩
    · conv => whnf
      exact ⟨.inl (congrArg tb (by rw [hR]; rfl)), trivial⟩
  · conv => whnf
    exact ⟨.inl (congrArg tb (by rw [hR]; rfl)), trivial⟩


theorem b66_1 : band 66 1 = 0 := by decide
theorem b66_2 : band 66 2 = 2 := by decide
theorem b66_4 : band 66 4 = 0 := by decide
theorem b66_8 : band 66 8 = 0 := by decide
theorem b66_16 : band 66 16 = 0 := by decide
theorem b66_32 : band 66 32 = 0 := by decide
theorem b66_64 : band 66 64 = 64 := by decide
theorem b15_1 : band 15 1 = 1 := by decide
theorem b15_2 : band 15 2 = 2 := by decide
theorem b15_4 : band 15 4 = 4 := by decide
theorem b15_8 : band 15 8 = 8 := by decide
theorem b15_16 : band 15 16 = 0 := by decide
theorem b15_32 : band 15 32 = 0 := by decide
theorem b15_64 : band 15 64 = 0 := by decide
theorem b7_1 : band 7 1 = 1 := by decide
theorem b7_2 : band 7 2 = 2 := by decide
theorem b7_4 : band 7 4 = 4 := by decide
theorem b7_8 : band 7 8 = 0 := by decide
theorem b7_16 : band 7 16 = 0 := by decide
theorem b7_32 : band 7 32 = 0 := by decide
theorem b7_64 : band 7 64 = 0 := by decide
theorem b18_1 : band 18 1 = 0 := by decide
theorem b18_2 : band 18 2 = 2 := by decide
theorem b18_4 : band 18 4 = 0 := by decide
theorem b18_8 : band 18 8 = 0 := by decide
theorem b18_16 : band 18 16 = 16 := by decide
theorem b18_32 : band 18 32 = 0 := by decide
theorem b18_64 : band 18 64 = 0 := by decide
theorem b20_1 : band 20 1 = 0 := by decide
theorem b20_2 : band 20 2 = 0 := by decide
theorem b20_4 : band 20 4 = 4 := by decide
theorem b20_8 : band 20 8 = 0 := by decide
theorem b20_16 : band 20 16 = 16 := by decide
theorem b20_32 : band 20 32 = 0 := by decide
theorem b20_64 : band 20 64 = 0 := by decide
theorem b0_1 : band 0 1 = 0 := by decide
theorem b0_2 : band 0 2 = 0 := by decide
theorem b0_4 : band 0 4 = 0 := by decide
theorem b0_8 : band 0 8 = 0 := by decide
theorem b0_16 : band 0 16 = 0 := by decide
theorem b0_32 : band 0 32 = 0 := by decide
theorem b0_64 : band 0 64 = 0 := by decide
theorem b4_1 : band 4 1 = 0 := by decide
theorem b4_2 : band 4 2 = 0 := by decide
theorem b4_4 : band 4 4 = 4 := by decide
theorem b4_8 : band 4 8 = 0 := by decide
theorem b4_16 : band 4 16 = 0 := by decide
theorem b4_32 : band 4 32 = 0 := by decide
theorem b4_64 : band 4 64 = 0 := by decide
theorem b32_1 : band 32 1 = 0 := by decide
theorem b32_2 : band 32 2 = 0 := by decide
theorem b32_4 : band 32 4 = 0 := by decide
theorem b32_8 : band 32 8 = 0 := by decide
theorem b32_16 : band 32 16 = 0 := by decide
theorem b32_32 : band 32 32 = 32 := by decide
theorem b32_64 : band 32 64 = 0 := by decide
theorem b36_1 : band 36 1 = 0 := by decide
theorem b36_2 : band 36 2 = 0 := by decide
theorem b36_4 : band 36 4 = 4 := by decide
theorem b36_8 : band 36 8 = 0 := by decide
theorem b36_16 : band 36 16 = 0 := by decide
theorem b36_32 : band 36 32 = 32 := by decide
theorem b36_64 : band 36 64 = 0 := by decide
theorem opw_empty (op : Int) : seq (opword op) ⟨#[]⟩ = (decide (op ≤ 0) || decide (op ≥ 19)) := by
  by_cases h : op ≤ 0
  · rw [opword_low h, decide_eq_true h, Bool.true_or]
    exact seq_ba.2 rfl
  by_cases h2 : op ≥ 19
  · rw [opword_big h2, decide_eq_true h2, Bool.or_true]
    exact seq_ba.2 rfl
  rw [decide_eq_false h, decide_eq_false h2]
  have hc : op = 1 ∨ op = 2 ∨ op = 3 ∨ op = 4 ∨ op = 5 ∨ op = 6 ∨ op = 7 ∨ op = 8 ∨ op = 9 ∨ op = 10 ∨ op = 11 ∨ op = 12 ∨ op = 13 ∨ op = 14 ∨ op = 15 ∨ op = 16 ∨ op = 17 ∨ op = 18 := by omega
  rcases hc with rfl | rfl | rfl | rfl | rfl | rfl | rfl | rfl | rfl | rfl | rfl | rfl | rfl | rfl | rfl | rfl | rfl | rfl <;> exact Bool.eq_false_iff.2 fun h => absurd (seq_ba.1 h) (by decide)
theorem cond_ff (c e : Bool) : (bif c then false else e) = (!c && e) := by cases c <;> rfl
def rightZ' (i : Ins) (code mem : Int) : Bool := rightZ i code mem (useD i.kind) (useA i.kind) (useM i.kind) (useT i.kind) (i.kind == 2 && two i.op)
theorem rightZ_eq (i : Ins) (code mem : Int) : rightZ' i code mem = rightB i code mem := by
  obtain ⟨kind, op, d, a, b, addr, to_, word, from_⟩ := i
  by_cases hk : 1 ≤ kind ∧ kind < 11
  · have hkok : kok kind = true := by unfold kok; simp [hk.1, hk.2]
    have h0 : decide (kind ≤ 0) = false := decide_eq_false (by omega)
    have h11 : decide (kind ≥ 11) = false := decide_eq_false (by omega)
    unfold rightZ' rightZ rightB
    simp only [hkok, h0, h11, Bool.not_true, Bool.false_or]
    clear hkok h0 h11
    have hc : kind = 1 ∨ kind = 2 ∨ kind = 3 ∨ kind = 4 ∨ kind = 5 ∨ kind = 6 ∨ kind = 7 ∨ kind = 8 ∨ kind = 9 ∨ kind = 10 := by omega
    rcases hc with rfl | rfl | rfl | rfl | rfl | rfl | rfl | rfl | rfl | rfl
    case inr.inl =>
      cases ht : two op
      · simp only [show usedM 2 op = 7 by unfold usedM; rw [ht]; rfl, show useD 2 = true from rfl, show useA 2 = true from rfl, show useM 2 = false from rfl, show useT 2 = false from rfl, z0, z1, z2, z3, z4, opB, withinB, regOk, opw_empty, b66_1, b66_2, b66_4, b66_8, b66_16, b66_32, b66_64, b15_1, b15_2, b15_4, b15_8, b15_16, b15_32, b15_64, b7_1, b7_2, b7_4, b7_8, b7_16, b7_32, b7_64, b18_1, b18_2, b18_4, b18_8, b18_16, b18_32, b18_64, b20_1, b20_2, b20_4, b20_8, b20_16, b20_32, b20_64, b0_1, b0_2, b0_4, b0_8, b0_16, b0_32, b0_64, b4_1, b4_2, b4_4, b4_8, b4_16, b4_32, b4_64, b32_1, b32_2, b32_4, b32_8, b32_16, b32_32, b32_64, b36_1, b36_2, b36_4, b36_8, b36_16, b36_32, b36_64, cond_ff]
        rw [Bool.eq_iff_iff]
        simp
        omega
      · simp only [show usedM 2 op = 15 by unfold usedM; rw [ht]; rfl, show useD 2 = true from rfl, show useA 2 = true from rfl, show useM 2 = false from rfl, show useT 2 = false from rfl, z0, z1, z2, z3, z4, opB, withinB, regOk, opw_empty, b66_1, b66_2, b66_4, b66_8, b66_16, b66_32, b66_64, b15_1, b15_2, b15_4, b15_8, b15_16, b15_32, b15_64, b7_1, b7_2, b7_4, b7_8, b7_16, b7_32, b7_64, b18_1, b18_2, b18_4, b18_8, b18_16, b18_32, b18_64, b20_1, b20_2, b20_4, b20_8, b20_16, b20_32, b20_64, b0_1, b0_2, b0_4, b0_8, b0_16, b0_32, b0_64, b4_1, b4_2, b4_4, b4_8, b4_16, b4_32, b4_64, b32_1, b32_2, b32_4, b32_8, b32_16, b32_32, b32_64, b36_1, b36_2, b36_4, b36_8, b36_16, b36_32, b36_64, cond_ff]
        rw [Bool.eq_iff_iff]
        simp
        omega
    all_goals
      simp only [show ∀ op, usedM 1 op = 66 from fun _ => rfl, show ∀ op, usedM 3 op = 18 from fun _ => rfl, show ∀ op, usedM 4 op = 20 from fun _ => rfl, show ∀ op, usedM 5 op = 18 from fun _ => rfl, show ∀ op, usedM 6 op = 0 from fun _ => rfl, show ∀ op, usedM 7 op = 4 from fun _ => rfl, show ∀ op, usedM 8 op = 32 from fun _ => rfl, show ∀ op, usedM 9 op = 36 from fun _ => rfl, show ∀ op, usedM 10 op = 0 from fun _ => rfl, z0, z1, z2, z3, z4, opB, withinB, regOk, opw_empty, b66_1, b66_2, b66_4, b66_8, b66_16, b66_32, b66_64, b15_1, b15_2, b15_4, b15_8, b15_16, b15_32, b15_64, b7_1, b7_2, b7_4, b7_8, b7_16, b7_32, b7_64, b18_1, b18_2, b18_4, b18_8, b18_16, b18_32, b18_64, b20_1, b20_2, b20_4, b20_8, b20_16, b20_32, b20_64, b0_1, b0_2, b0_4, b0_8, b0_16, b0_32, b0_64, b4_1, b4_2, b4_4, b4_8, b4_16, b4_32, b4_64, b32_1, b32_2, b32_4, b32_8, b32_16, b32_32, b32_64, b36_1, b36_2, b36_4, b36_8, b36_16, b36_32, b36_64, cond_ff, useD, useA, useM, useT]
      rw [Bool.eq_iff_iff]
      simp
      try omega
  · have e : rightB ⟨kind, op, d, a, b, addr, to_, word, from_⟩ code mem = false := by
      cases h : rightB ⟨kind, op, d, a, b, addr, to_, word, from_⟩ code mem
      · rfl
      · exact absurd (right_kind h) hk
    rw [e]
    have : z0 ⟨kind, op, d, a, b, addr, to_, word, from_⟩ = true := by
      unfold z0
      simp
      omega
    unfold rightZ' rightZ
    rw [this]
    rfl


theorem z_right (i : Ins) (code mem : Int) : K 41 [i.av, .tr (ti code), .tr (ti mem)] [] (.ret (.tr (tb (rightB i code mem)))) [] := by
  rw [← rightZ_eq]
  exact z_right0 i code mem
theorem hasN_any (n : ByteArray) : ∀ (l : List Cor) (k : Nat), decide (idxN n l k ≥ 0) = l.any fun d => seq d.name n
  | [], _ => rfl
  | d :: l, k => by
    rw [List.any_cons, ← hasN_any n l (k + 1), show idxN n (d :: l) k = (bif seq d.name n then (k : Int) else idxN n l (k + 1)) from rfl]
    cases seq d.name n
    · rfl
    · simp
theorem hasN_snoc (n : ByteArray) (l : List Cor) (d : Cor) : hasN n (l ++ [d]) = (hasN n l || seq d.name n) := by
  unfold hasN
  rw [hasN_any, hasN_any, List.any_append]; simp
set_option maxRecDepth 100000 in
set_option maxHeartbeats 2000000 in
theorem z_shaped (o : Ob) : K 40 [o.av] [] (.ret (.tr (tb (shapedB o)))) [] := by
  refine Ctr.cut [12] hT hmix Tryz.func40 rfl (fun _ _ => by kernel_rfl) rfl fun hok => ?_
  obtain ⟨memory, shared, locks, buffer, cores⟩ := o
  obtain ⟨_, hl, hcs⟩ := ((hok.slot 0 rfl).agg _ (.tail _ (.tail _ (.tail _ (.tail _ (.head _)))))).tr.lst
  obtain ⟨_, hml, _⟩ := ((hok.slot 0 rfl).agg _ (.head _)).tr.lst
  rw [List.length_map] at hl hml
  clear hok
  have hS : shapedB ⟨memory, shared, locks, buffer, cores⟩ = bif headBad ⟨memory, shared, locks, buffer, cores⟩ then false else coresOk [] cores := rfl
  generalize hB : shapedB ⟨memory, shared, locks, buffer, cores⟩ = B at hS ⊢
  clear hB
  have hH : headBad ⟨memory, shared, locks, buffer, cores⟩ = (decide (shared < 0) || decide (shared > 64) || decide (locks < 0) || decide (locks > 16) || decide ((memory.length : Int) < IntKind.i64.wrap (shared + locks)) || decide ((memory.length : Int) > 4096) ||
    decide (buffer < 1) || decide (buffer > 16) || decide ((cores.length : Int) > 8)) := rfl
  rw [hH] at hS
  clear hH
  have em : (memory.length : Int) = ((memory.map irow).length : Int) := by rw [List.length_map]
  have ec : (cores.length : Int) = ((cores.map Cor.cells).length : Int) := by rw [List.length_map]
  rw [em, ec] at hS
  conv => whnf
  iterate 9
    refine csplit (fun h1 => ?_) (fun h1 => ?_)
    · conv => whnf
      exact ⟨.inl (congrArg tb (by rw [hS]; simp only [*, Bool.or_true, Bool.true_or, cond_true])), trivial⟩
    conv => whnf
  replace hS : B = coresOk [] cores := by rw [hS]; simp only [*, Bool.or_false, cond_false]
  rw [hS]
  clear hS em ec
  replace hl : cores.length ≤ 9223372036854775807 := hl
  refine LoopL.by (fun i : Nat => ⟨[(1, .ptr 0 0), (3, .tr (ti i))], [(0, .cells 25 [.tr (intsT memory), .tr (ti shared), .tr (ti locks), .tr (ti buffer), .tr (coresT cores)])], 200⟩)
    (fun i => i ≤ cores.length ∧ coresOk [] cores = coresOk (cores.take i) (cores.drop i)) (fun i => cores.length - i) 0 [0] [] (Sub.mk' rfl ⟨⟨rfl, rfl⟩, .inl rfl, trivial⟩ ⟨⟨rfl, .inl rfl, .inl rfl, .inl rfl, .inl rfl, .inl rfl, trivial⟩, trivial⟩ rfl rfl) ⟨Nat.zero_le _, rfl⟩ ?_
  rintro i ⟨hi, hf⟩ -
  conv => whnf
  refine csplit (fun hlt => ?_) (fun hge => ?_)
  · have hlt : i < cores.length := by have := of_decide_eq_true hlt; rw [List.length_map] at this; replace this : (i : Int) < cores.length := this; omega
    clear hml
    obtain ⟨c, hd⟩ : ∃ c, cores[i]? = some c := ⟨cores[i], by simp [hlt]⟩
    have hrow : (cores.map Cor.cells)[i]? = some c.cells := by rw [List.getElem?_map, hd]; rfl
    rw [coresOk_at hd] at hf
    obtain ⟨_, hcl0, hci⟩ := ((hcs _ (List.mem_of_getElem? hrow)).2 (codeT c.code) (.tail _ (.head _))).lst
    rw [List.length_map] at hcl0
    obtain ⟨cn, cc⟩ := c
    have hcl : cc.length ≤ 9223372036854775807 := hcl0
    have hB : coreBad (cores.take i) ⟨cn, cc⟩ = (!nameB cn || hasN cn (cores.take i) || decide ((cc.length : Int) < 1) || decide ((cc.length : Int) > 16384)) := rfl
    clear hcl0
    conv => whnf
    refine ⟨rfl, by omega, (show (i : Int) < ((cores.map Cor.cells).length : Int) by rw [List.length_map]; omega), fun row hr => ?_⟩
    cases hrow.symm.trans hr
    conv => whnf
    refine acall.pure _ (z_name cn) rfl rfl fun _ => ?_
    conv => whnf
    refine CutL.by (fun _ : Unit => ⟨[(1, .ptr 0 0), (3, .tr (ti i)), (4, .ptr 1 0), (5, .tr (tb (nameB cn && !hasN cn (cores.take i))))], [(0, .cells 25 [.tr (intsT memory), .tr (ti shared), .tr (ti locks), .tr (ti buffer), .tr (coresT cores)]), (1, .cells 78 [.tr (ts cn), .tr (codeT cc)])], 200⟩) (fun _ => True) ?_ ?_
    · conv => whnf
      refine LoopL.by (fun x : Nat × Bool => ⟨[(1, .ptr 0 0), (3, .tr (ti i)), (4, .ptr 1 0), (5, .tr (tb x.2)), (6, .tr (ti x.1))], [(0, .cells 25 [.tr (intsT memory), .tr (ti shared), .tr (ti locks), .tr (ti buffer), .tr (coresT cores)]), (1, .cells 78 [.tr (ts cn), .tr (codeT cc)])], 200⟩)
        (fun x => x.1 ≤ i ∧ x.2 = (nameB cn && !hasN cn (cores.take x.1))) (fun x => i - x.1) (0, nameB cn) [0, 210] [] (Sub.mk' rfl ⟨⟨rfl, rfl⟩, .inl rfl, ⟨rfl, rfl⟩, .inl rfl, .inl rfl, trivial⟩ ⟨⟨rfl, .inl rfl, .inl rfl, .inl rfl, .inl rfl, .inl rfl, trivial⟩, ⟨rfl, .inl rfl, .inl rfl, trivial⟩, trivial⟩ rfl rfl) ⟨Nat.zero_le _, by simp [hasN, idxN]⟩ ?_
      rintro ⟨k, ok⟩ ⟨hk, hok⟩ -
      simp only at hk hok
      conv => whnf
      refine csplit (fun hk1 => ?_) (fun hk2 => ?_)
      · replace hk1 : decide ((k : Int) < (i : Int)) = true := hk1
        have hk1 : k < i := by have := of_decide_eq_true hk1; omega
        have hil : i ≤ 9223372036854775807 := by omega
        obtain ⟨e, he⟩ : ∃ e, cores[k]? = some e := ⟨cores[k]'(by omega), by simp⟩
        have hrowk : (cores.map Cor.cells)[k]? = some e.cells := by rw [List.getElem?_map, he]; rfl
        have hsn : hasN cn (cores.take (k + 1)) = (hasN cn (cores.take k) || seq e.name cn) := by rw [take_snoc he, hasN_snoc]
        obtain ⟨en, ec⟩ := e
        simp only at hsn
        cases ok
        · conv => whnf
          refine ⟨by kernel_rfl, fun _ => ?_⟩
          conv => whnf
          refine ⟨(k + 1, false), [0, 1], [], Sub.mk' rfl ⟨⟨rfl, rfl⟩, .inl rfl, ⟨rfl, rfl⟩, .inl rfl, .inl (ti_succ hk1 hil), trivial⟩ ⟨⟨rfl, .inl rfl, .inl rfl, .inl rfl, .inl rfl, .inl rfl, trivial⟩, ⟨rfl, .inl rfl, .inl rfl, trivial⟩, trivial⟩ rfl rfl, ⟨hk1, ?_⟩, by simp only; omega⟩
          simp only [hsn]
          revert hok
          cases nameB cn <;> cases hasN cn (cores.take k) <;> simp
        · conv => whnf
          refine ⟨rfl, (show (0 : Int) ≤ k by omega), (show (k : Int) < ((cores.map Cor.cells).length : Int) by rw [List.length_map]; omega), fun row hr => ?_⟩
          cases hrowk.symm.trans hr
          conv => whnf
          refine ⟨by kernel_rfl, fun _ => ?_⟩
          conv => whnf
          refine ⟨(k + 1, !seq en cn), [0, 1], [], Sub.mk' rfl ⟨⟨rfl, rfl⟩, .inl rfl, ⟨rfl, rfl⟩, .inl rfl, .inl (ti_succ hk1 hil), trivial⟩ ⟨⟨rfl, .inl rfl, .inl rfl, .inl rfl, .inl rfl, .inl rfl, trivial⟩, ⟨rfl, .inl rfl, .inl rfl, trivial⟩, trivial⟩ rfl rfl, ⟨hk1, ?_⟩, by simp only; omega⟩
          simp only [hsn]
          revert hok
          cases nameB cn <;> cases hasN cn (cores.take k) <;> simp
      · replace hk2 : decide ((k : Int) < (i : Int)) = false := hk2
        have hk2 : k = i := by have := of_decide_eq_false hk2; omega
        subst hk2
        conv => whnf
        refine ⟨fun _ => ?_, fun h => absurd rfl h⟩
        conv => whnf
        exact ⟨(), [0, 1], [], Sub.mk' rfl ⟨⟨rfl, rfl⟩, .inl rfl, ⟨rfl, rfl⟩, .inl (congrArg tb hok), trivial⟩ ⟨⟨rfl, .inl rfl, .inl rfl, .inl rfl, .inl rfl, .inl rfl, trivial⟩, ⟨rfl, .inl rfl, .inl rfl, trivial⟩, trivial⟩ rfl rfl, trivial⟩
    · rintro - - -
      generalize hG : (nameB cn && !hasN cn (cores.take i)) = G
      have hBG : coreBad (cores.take i) ⟨cn, cc⟩ = (!G || decide ((cc.length : Int) < 1) || decide ((cc.length : Int) > 16384)) := by rw [hB, ← hG]; cases nameB cn <;> simp
      clear hB
      have el : ((cc.map Ins.cells).length : Int) = cc.length := by rw [List.length_map]
      have bad : ∀ {x : Bool}, coreBad (cores.take i) ⟨cn, cc⟩ = true → x = false → x = coresOk [] cores := fun h1 h2 => by rw [hf, h1, h2]; rfl
      cases G
      · conv => whnf
        exact ⟨.inl (congrArg tb (bad (by rw [hBG]; rfl) rfl)), trivial⟩
      conv => whnf
      refine csplit (fun h3 => ?_) (fun h3 => ?_)
      · replace h3 : decide (((cc.map Ins.cells).length : Int) < 1) = true := h3
        rw [el] at h3
        conv => whnf
        exact ⟨.inl (congrArg tb (bad (by rw [hBG, h3]; rfl) rfl)), trivial⟩
      replace h3 : decide (((cc.map Ins.cells).length : Int) < 1) = false := h3
      rw [el] at h3
      conv => whnf
      refine csplit (fun h4 => ?_) (fun h4 => ?_)
      · replace h4 : decide (((cc.map Ins.cells).length : Int) > 16384) = true := h4
        rw [el] at h4
        conv => whnf
        exact ⟨.inl (congrArg tb (bad (by rw [hBG, h3, h4]; rfl) rfl)), trivial⟩
      replace h4 : decide (((cc.map Ins.cells).length : Int) > 16384) = false := h4
      rw [el] at h4
      rw [h3, h4] at hBG
      replace hBG : coreBad (cores.take i) ⟨cn, cc⟩ = false := hBG
      rw [hBG, Bool.false_or] at hf
      have h3' : ¬ ((cc.length : Int) < 1) := of_decide_eq_false h3
      have ew : IntKind.i64.wrap (((cc.map Ins.cells).length : Int) - 1) = ((cc.length - 1 : Nat) : Int) := by rw [List.length_map, w64 (by omega) (by omega)]; omega
      have hn1 : cc.length - 1 < cc.length := by omega
      obtain ⟨x, hx⟩ : ∃ x, cc[cc.length - 1]? = some x := ⟨cc[cc.length - 1], by simp [hn1]⟩
      have hrowx : (cc.map Ins.cells)[cc.length - 1]? = some x.cells := by rw [List.getElem?_map, hx]; rfl
      have hL : lastBad ⟨cn, cc⟩ = (x.kind != 10 && x.kind != 8) := by unfold lastBad; simp only [hx]
      rw [hL] at hf
      conv => whnf
      rw [ew]
      refine ⟨rfl, by omega, (show ((cc.length - 1 : Nat) : Int) < ((cc.map Ins.cells).length : Int) by rw [el]; omega), fun row hr => ?_⟩
      cases hrowx.symm.trans hr
      conv => whnf
      refine csplit (fun h5 => ?_) (fun h5 => ?_)
      · replace h5 : (x.kind != 10) = true := h5
        conv => whnf
        rw [ew]
        refine ⟨rfl, by omega, (show ((cc.length - 1 : Nat) : Int) < ((cc.map Ins.cells).length : Int) by rw [el]; omega), fun row hr => ?_⟩
        cases hrowx.symm.trans hr
        conv => whnf
        refine csplit (fun h6 => ?_) (fun h6 => ?_)
        · replace h6 : (x.kind != 8) = true := h6
          rw [h5, h6] at hf
          conv => whnf
          exact ⟨.inl (congrArg tb hf.symm), trivial⟩
        · replace h6 : (x.kind != 8) = false := h6
          rw [h5, h6] at hf
          conv => whnf
          exact ⟨i + 1, [0], [], Sub.mk' rfl ⟨⟨rfl, rfl⟩, .inl (ti_succ hlt hl), trivial⟩ ⟨⟨rfl, .inl rfl, .inl rfl, .inl rfl, .inl rfl, .inl rfl, trivial⟩, trivial⟩ rfl rfl, ⟨by omega, hf⟩, by omega⟩
      · replace h5 : (x.kind != 10) = false := h5
        rw [h5] at hf
        conv => whnf
        exact ⟨i + 1, [0], [], Sub.mk' rfl ⟨⟨rfl, rfl⟩, .inl (ti_succ hlt hl), trivial⟩ ⟨⟨rfl, .inl rfl, .inl rfl, .inl rfl, .inl rfl, .inl rfl, trivial⟩, trivial⟩ rfl rfl, ⟨by omega, hf⟩, by omega⟩
  · have hge : cores.length ≤ i := by have := of_decide_eq_false hge; rw [List.length_map] at this; replace this : ¬ (i : Int) < cores.length := this; omega
    rw [List.drop_eq_nil_of_le hge] at hf
    conv => whnf
    refine ⟨fun _ => ?_, fun h => absurd rfl h⟩
    conv => whnf
    exact ⟨.inl (congrArg tb hf.symm), trivial⟩
set_option maxRecDepth 100000 in
set_option maxHeartbeats 2000000 in
theorem z_check (o : Ob) : K 22 [o.av] [] (.ret (tri (checkO o))) [] := by
  refine Ctr.of hT hmix Tryz.func22 rfl (fun _ _ => by kernel_rfl) rfl fun hok => ?_
  obtain ⟨memory, shared, locks, buffer, cores⟩ := o
  obtain ⟨_, hl0, hcs⟩ := ((hok.slot 0 rfl).agg _ (.tail _ (.tail _ (.tail _ (.tail _ (.head _)))))).tr.lst
  rw [List.length_map] at hl0
  have hl : cores.length ≤ 9223372036854775807 := hl0
  clear hok hl0
  have hS : checkO ⟨memory, shared, locks, buffer, cores⟩ = bif !shapedB ⟨memory, shared, locks, buffer, cores⟩ then (160, 0, 0) else coresCk memory.length cores 0 := rfl
  generalize hR : checkO ⟨memory, shared, locks, buffer, cores⟩ = R at hS ⊢
  clear hR
  conv => whnf
  refine acall.pure _ (z_shaped ⟨memory, shared, locks, buffer, cores⟩) rfl rfl fun _ => ?_
  conv => whnf
  refine csplit (fun h1 => ?_) (fun h1 => ?_)
  · rw [h1] at hS
    rw [hS]
    conv => whnf
    exact ⟨⟨.inl rfl, .inl rfl, .inl rfl, trivial⟩, trivial⟩
  rw [h1] at hS
  replace hS : R = coresCk memory.length cores 0 := hS
  rw [hS]
  clear hS h1
  conv => whnf
  refine LoopL.by (fun i : Nat => ⟨[(1, .ptr 0 0), (6, .tr (ti i))], [(0, .cells 25 [.tr (intsT memory), .tr (ti shared), .tr (ti locks), .tr (ti buffer), .tr (coresT cores)])], 60⟩)
    (fun i => i ≤ cores.length ∧ coresCk memory.length cores 0 = coresCk memory.length (cores.drop i) i) (fun i => cores.length - i) 0 [0] [] (Sub.mk' rfl ⟨⟨rfl, rfl⟩, .inl rfl, trivial⟩ ⟨⟨rfl, .inl rfl, .inl rfl, .inl rfl, .inl rfl, .inl rfl, trivial⟩, trivial⟩ rfl rfl) ⟨Nat.zero_le _, rfl⟩ ?_
  rintro i ⟨hi, hf⟩ -
  conv => whnf
  refine csplit (fun hlt => ?_) (fun hge => ?_)
  · have hlt : i < cores.length := by have := of_decide_eq_true hlt; rw [List.length_map] at this; replace this : (i : Int) < cores.length := this; omega
    obtain ⟨c, hd⟩ : ∃ c, cores[i]? = some c := ⟨cores[i], by simp [hlt]⟩
    have hrow : (cores.map Cor.cells)[i]? = some c.cells := by rw [List.getElem?_map, hd]; rfl
    rw [coresCk_at hd] at hf
    obtain ⟨_, hcl0, hci⟩ := ((hcs _ (List.mem_of_getElem? hrow)).2 (codeT c.code) (.tail _ (.head _))).lst
    rw [List.length_map] at hcl0
    obtain ⟨cn, cc⟩ := c
    have hcl : cc.length ≤ 9223372036854775807 := hcl0
    clear hcl0
    generalize hN : badAt (cc.length : Int) (memory.length : Int) cc 0 = N at hf
    conv => whnf
    refine LoopL.by (fun k : Nat => ⟨[(1, .ptr 0 0), (6, .tr (ti i)), (7, .tr (ti k))], [(0, .cells 25 [.tr (intsT memory), .tr (ti shared), .tr (ti locks), .tr (ti buffer), .tr (coresT cores)])], 60⟩)
      (fun k => k ≤ cc.length ∧ N = badAt cc.length memory.length (cc.drop k) k) (fun k => cc.length - k) 0 [0] [] (Sub.mk' rfl ⟨⟨rfl, rfl⟩, .inl rfl, .inl rfl, trivial⟩ ⟨⟨rfl, .inl rfl, .inl rfl, .inl rfl, .inl rfl, .inl rfl, trivial⟩, trivial⟩ rfl rfl) ⟨Nat.zero_le _, hN.symm⟩ ?_
    rintro k ⟨hk, hg⟩ -
    conv => whnf
    refine ⟨rfl, (show (0 : Int) ≤ i by omega), (show (i : Int) < ((cores.map Cor.cells).length : Int) by rw [List.length_map]; omega), fun row hr => ?_⟩
    cases hrow.symm.trans hr
    conv => whnf
    refine csplit (fun hlt2 => ?_) (fun hge2 => ?_)
    · have hlt2 : k < cc.length := by have := of_decide_eq_true hlt2; rw [List.length_map] at this; replace this : (k : Int) < cc.length := this; omega
      obtain ⟨x, hx⟩ : ∃ x, cc[k]? = some x := ⟨cc[k], by simp [hlt2]⟩
      have hrowx : (cc.map Ins.cells)[k]? = some x.cells := by rw [List.getElem?_map, hx]; rfl
      rw [badAt_at hx] at hg
      have hr := z_right x cc.length memory.length
      obtain ⟨x1, x2, x3, x4, x5, x6, x7, x8, x9⟩ := x
      conv => whnf
      refine ⟨rfl, (show (0 : Int) ≤ i by omega), (show (i : Int) < ((cores.map Cor.cells).length : Int) by rw [List.length_map]; omega), fun row hrr => ?_⟩
      cases hrow.symm.trans hrr
      conv => whnf
      refine ⟨rfl, (show (0 : Int) ≤ k by omega), (show (k : Int) < ((cc.map Ins.cells).length : Int) by rw [List.length_map]; omega), fun row hrr => ?_⟩
      cases hrowx.symm.trans hrr
      conv => whnf
      refine ⟨rfl, (show (0 : Int) ≤ i by omega), (show (i : Int) < ((cores.map Cor.cells).length : Int) by rw [List.length_map]; omega), fun row hrr => ?_⟩
      cases hrow.symm.trans hrr
      conv => whnf
      refine acall.gen [] [] _ _ _ _ hr rfl rfl rfl rfl ⟨aut, .inl (by simp), .inl (by simp), trivial⟩ trivial rfl rfl ?_
      conv => whnf
      refine ⟨by kernel_rfl, fun _ => ?_⟩
      conv => whnf
      refine csplit (fun h2 => ?_) (fun h2 => ?_)
      · rw [h2] at hg
        replace hg : N = (k : Int) := hg
        subst hg
        rw [show decide ((k : Int) ≥ 0) = true from decide_eq_true (by omega)] at hf
        rw [hf]
        conv => whnf
        exact ⟨⟨.inl rfl, .inl rfl, .inl rfl, trivial⟩, trivial⟩
      · rw [h2] at hg
        conv => whnf
        exact ⟨k + 1, [0], [], Sub.mk' rfl ⟨⟨rfl, rfl⟩, .inl rfl, .inl (ti_succ hlt2 hcl), trivial⟩ ⟨⟨rfl, .inl rfl, .inl rfl, .inl rfl, .inl rfl, .inl rfl, trivial⟩, trivial⟩ rfl rfl, ⟨by omega, hg⟩, by omega⟩
    · have hge2 : cc.length ≤ k := by have := of_decide_eq_false hge2; rw [List.length_map] at this; replace this : ¬ (k : Int) < cc.length := this; omega
      rw [List.drop_eq_nil_of_le hge2] at hg
      replace hg : N = -1 := hg
      subst hg
      conv => whnf
      refine ⟨fun _ => ?_, fun h => absurd rfl h⟩
      conv => whnf
      exact ⟨i + 1, [0], [], Sub.mk' rfl ⟨⟨rfl, rfl⟩, .inl (ti_succ hlt hl), trivial⟩ ⟨⟨rfl, .inl rfl, .inl rfl, .inl rfl, .inl rfl, .inl rfl, trivial⟩, trivial⟩ rfl rfl, ⟨by omega, hf⟩, by omega⟩
  · have hge : cores.length ≤ i := by have := of_decide_eq_false hge; rw [List.length_map] at this; replace this : ¬ (i : Int) < cores.length := this; omega
    rw [List.drop_eq_nil_of_le hge] at hf
    rw [hf]
    conv => whnf
    refine ⟨fun _ => ?_, fun h => absurd rfl h⟩
    conv => whnf
    exact ⟨⟨.inl rfl, .inl rfl, .inl rfl, trivial⟩, trivial⟩
end Go.Proofs.YtcpolpbeimhgfaaGreat.am

namespace Go.Proofs.YtcpolpbeimhgfaaGreat.am
open Go Go.Proofs
set_option maxRecDepth 100000 in
set_option maxHeartbeats 1000000 in
theorem z_RightX (dk dc da dd dw dp : Int) (dn : Bool) : K 35 [didA dk dc da dd dw dp dn] [] (.ret (.tr (tb (rightD ⟨dk, dc, da, dd, dw, dp, dn⟩)))) [] := by
  refine Ctr.of hT hmix Tryz.func35 rfl (fun _ _ => by kernel_rfl) rfl fun hok => ?_
  clear hok
  generalize hR : rightD ⟨dk, dc, da, dd, dw, dp, dn⟩ = R
  unfold rightD outD usdD addrK at hR
  simp only at hR
  conv => whnf
  (repeat' (refine csplit (fun g => ?_) (fun g => ?_) <;> first | exact ctf g (by assumption) | exact ctf (by assumption) g | conv => whnf))
  all_goals (refine ⟨.inl (congrArg tb ?_), trivial⟩; rw [← hR]; clear hR; simp only [*, Bool.true_or, Bool.or_true, Bool.false_or, Bool.or_false, Bool.not_true, Bool.not_false, Bool.false_and, Bool.true_and, Bool.and_false, Bool.and_true, cond_true, cond_false])
theorem z_Right (d : Did) : K 35 [d.av] [] (.ret (.tr (tb (rightD d)))) [] := z_RightX d.kind d.core d.at_ d.addr d.word d.put d.own
end Go.Proofs.YtcpolpbeimhgfaaGreat.am

namespace Go.Proofs.YtcpolpbeimhgfaaGreat.am
open Go Go.Proofs
set_option maxRecDepth 100000 in
theorem z_Rights (l : List Did) : K 23 [.tr (didsT l)] [] (.ret (.tr (tb (l.all rightD)))) [] := by
  refine Ctr.of hT hmix Tryz.func23 rfl (fun _ _ => by kernel_rfl) rfl fun hok => ?_
  have hl : l.length ≤ 9223372036854775807 := by have := (hok.slot 0 rfl).tr.lst.2.1; rwa [List.length_map] at this
  clear hok
  have hlm : (l.map Did.cells).length = l.length := List.length_map ..
  conv => whnf
  refine LoopL.by (fun i : Nat => ⟨[(5, .tr (didsT l)), (6, .tr (ti (l.length : Int))), (7, .tr (ti i))], [], 10⟩) (fun i => i ≤ l.length ∧ l.all rightD = (l.drop i).all rightD) (fun i => l.length - i) 0 [] [] (Sub.mk' rfl ⟨.inl rfl, .inl (by rw [← hlm]), .inl rfl, trivial⟩ trivial rfl rfl) ⟨Nat.zero_le _, rfl⟩ ?_
  rintro i ⟨hi, hall⟩ -
  conv => whnf
  refine csplit (fun hlt => ?_) (fun hge => ?_)
  · have hlt : i < l.length := by have := of_decide_eq_true hlt; omega
    obtain ⟨d, hd⟩ : ∃ d, l[i]? = some d := ⟨l[i], by simp [hlt]⟩
    rw [all_drop hd] at hall
    conv => whnf
    refine ⟨rfl, (show (0 : Int) ≤ i by omega), (show (i : Int) < (l.map Did.cells).length by rw [hlm]; omega), fun row hr => ?_⟩
    obtain ⟨d', hd', rfl⟩ := did_get hr
    obtain rfl : d = d' := Option.some.inj (hd.symm.trans hd')
    clear hr hd'
    have hct := z_Right d
    generalize rightD d = B at hct hall
    obtain ⟨dk, dc, da, dd, dw, dp, dn⟩ := d
    all_goals (
      conv => whnf
      refine acall.au [] [] hct ?_
      conv => whnf
      first | intro _ | skip
      conv => whnf
      cases B
      · conv => whnf
        exact ⟨.inl (congrArg tb hall.symm), trivial⟩
      · conv => whnf
        exact ⟨i + 1, [], [], Sub.mk' rfl ⟨.inl rfl, .inl rfl, .inl (ti_succ hlt hl), trivial⟩ trivial rfl rfl, ⟨hlt, hall⟩, by omega⟩)
  · have hge : i = l.length := by have := of_decide_eq_false hge; omega
    subst hge
    conv => whnf
    refine ⟨fun _ => ?_, fun h => absurd rfl h⟩
    conv => whnf
    refine ⟨.inl (congrArg tb ?_), trivial⟩
    rw [hall, List.drop_length]
    rfl
end Go.Proofs.YtcpolpbeimhgfaaGreat.am

namespace Go.Proofs.YtcpolpbeimhgfaaGreat.am
open Go Go.Proofs
def noE : Evt := ⟨0, 0, 0, 0, 0, false, 0⟩
def evOf (o : Ob) (d : Did) (i : Int) : Evt := (evD o d i).headD noE
theorem evOf_of {o : Ob} {d : Did} {i E th : Int} (hE : evK (whD o d).1 d = E) (ht : (whD o d).2 = th) : evOf o d i = (bif E == 0 then [] else bif E == 1 || E == 2 || E == 3 then [⟨E, d.core, th, d.word, d.put, d.own, i⟩] else bif E == 4 || E == 5 then [⟨E, d.core, th, 0, 0, false, i⟩] else bif E == 6 then [⟨E, d.core, 0, d.word, 0, false, i⟩] else [⟨E, d.core, 0, 0, 0, false, i⟩] : List Evt).headD noE := by unfold evOf; rw [evD_eq hE ht]
theorem evD_R (o : Ob) (d : Did) (i : Int) : evD o d i = bif (evOf o d i).kind != 0 then [evOf o d i] else [] := by
  unfold evOf
  rw [evD_eq rfl rfl]
  generalize evK (whD o d).1 d = E
  cases h0 : E == 0
  · have hb : (E != 0) = true := by unfold bne; rw [h0]; rfl
    cases (E == 1 || E == 2 || E == 3) <;> cases (E == 4 || E == 5) <;> cases E == 6 <;> (show _ = bif E != 0 then _ else _) <;> rw [hb] <;> rfl
  · rfl
theorem nge {a b : Int} (h : decide (a ≥ b) = true) : decide (a < b) = false := by rw [dec_ge] at h; exact not_t h
theorem nlt {a b : Int} (h : decide (a ≥ b) = false) : decide (a < b) = true := by rw [dec_ge] at h; exact not_f h
theorem nne {a b : Int} (h : (a != b) = true) : (a == b) = false := not_t h
set_option maxRecDepth 100000 in
set_option maxHeartbeats 1000000 in
theorem z_event1 (o : Ob) (dc da dd dw dp : Int) (dn : Bool) (i : Int) : K 24 [o.av, didA 1 dc da dd dw dp dn, .tr (ti i)] [] (.ret (.agg ((evOf o ⟨1, dc, da, dd, dw, dp, dn⟩ i).cells.map .tr))) [] := by
  refine Ctr.of hT hmix Tryz.func24 rfl (fun _ _ => by kernel_rfl) rfl fun hok => ?_
  clear hok
  obtain ⟨memory, shared, locks, buffer, cores⟩ := o
  generalize hV : evOf ⟨memory, shared, locks, buffer, cores⟩ ⟨1, dc, da, dd, dw, dp, dn⟩ i = V
  conv => whnf
  have hv : V = noE := by
    rw [← hV, evOf_of (E := 0) (th := 0) (by rw [whD_no rfl]; rfl) (by rw [whD_no rfl])]
    rfl
  subst hv
  exact ⟨⟨.inl rfl, .inl rfl, .inl rfl, .inl rfl, .inl rfl, .inl rfl, .inl rfl, trivial⟩, trivial⟩
set_option maxRecDepth 100000 in
set_option maxHeartbeats 1000000 in
theorem z_event2 (o : Ob) (dc da dd dw dp : Int) (dn : Bool) (i : Int) : K 24 [o.av, didA 2 dc da dd dw dp dn, .tr (ti i)] [] (.ret (.agg ((evOf o ⟨2, dc, da, dd, dw, dp, dn⟩ i).cells.map .tr))) [] := by
  refine Ctr.of hT hmix Tryz.func24 rfl (fun _ _ => by kernel_rfl) rfl fun hok => ?_
  clear hok
  obtain ⟨memory, shared, locks, buffer, cores⟩ := o
  generalize hV : evOf ⟨memory, shared, locks, buffer, cores⟩ ⟨2, dc, da, dd, dw, dp, dn⟩ i = V
  conv => whnf
  refine csplit (fun g1 => ?_) (fun g1 => ?_)
  · conv => whnf
    have hv : V = ⟨1, dc, dd, dw, dp, dn, i⟩ := by
      rw [← hV, evOf_of (E := 1) (th := dd) (by rw [whD_var rfl g1]; rfl) (by rw [whD_var rfl g1])]
      rfl
    subst hv
    exact ⟨⟨.inl rfl, .inl rfl, .inl rfl, .inl rfl, .inl rfl, .inl rfl, .inl rfl, trivial⟩, trivial⟩
  · conv => whnf
    refine csplit (fun g2 => ?_) (fun g2 => ?_)
    · conv => whnf
      have hv : V = noE := by
        rw [← hV, evOf_of (E := 0) (th := 0) (by rw [whD_else rfl g1 (nge g2)]; rfl) (by rw [whD_else rfl g1 (nge g2)])]
        rfl
      subst hv
      exact ⟨⟨.inl rfl, .inl rfl, .inl rfl, .inl rfl, .inl rfl, .inl rfl, .inl rfl, trivial⟩, trivial⟩
    · conv => whnf
      refine csplit (fun g3 => ?_) (fun g3 => ?_)
      · conv => whnf
        have hv : V = noE := by
          rw [← hV, evOf_of (E := 0) (th := wrp (dd - shared)) (by rw [whD_lock rfl g1 (nlt g2)]; rfl) (by rw [whD_lock rfl g1 (nlt g2)])]
          rfl
        subst hv
        exact ⟨⟨.inl rfl, .inl rfl, .inl rfl, .inl rfl, .inl rfl, .inl rfl, .inl rfl, trivial⟩, trivial⟩
      · conv => whnf
        have hv : V = noE := by
          rw [← hV, evOf_of (E := 0) (th := wrp (dd - shared)) (by rw [whD_lock rfl g1 (nlt g2)]; rfl) (by rw [whD_lock rfl g1 (nlt g2)])]
          rfl
        subst hv
        exact ⟨⟨.inl rfl, .inl rfl, .inl rfl, .inl rfl, .inl rfl, .inl rfl, .inl rfl, trivial⟩, trivial⟩
set_option maxRecDepth 100000 in
set_option maxHeartbeats 1000000 in
theorem z_event3 (o : Ob) (dc da dd dw dp : Int) (dn : Bool) (i : Int) : K 24 [o.av, didA 3 dc da dd dw dp dn, .tr (ti i)] [] (.ret (.agg ((evOf o ⟨3, dc, da, dd, dw, dp, dn⟩ i).cells.map .tr))) [] := by
  refine Ctr.of hT hmix Tryz.func24 rfl (fun _ _ => by kernel_rfl) rfl fun hok => ?_
  clear hok
  obtain ⟨memory, shared, locks, buffer, cores⟩ := o
  generalize hV : evOf ⟨memory, shared, locks, buffer, cores⟩ ⟨3, dc, da, dd, dw, dp, dn⟩ i = V
  have hv : V = noE := by
    rw [← hV, evOf_of (E := 0) (th := (whD ⟨memory, shared, locks, buffer, cores⟩ ⟨3, dc, da, dd, dw, dp, dn⟩).2) rfl rfl]
    rfl
  subst hv
  conv => whnf
  exact ⟨⟨.inl rfl, .inl rfl, .inl rfl, .inl rfl, .inl rfl, .inl rfl, .inl rfl, trivial⟩, trivial⟩
set_option maxRecDepth 100000 in
set_option maxHeartbeats 1000000 in
theorem z_event4 (o : Ob) (dc da dd dw dp : Int) (dn : Bool) (i : Int) : K 24 [o.av, didA 4 dc da dd dw dp dn, .tr (ti i)] [] (.ret (.agg ((evOf o ⟨4, dc, da, dd, dw, dp, dn⟩ i).cells.map .tr))) [] := by
  refine Ctr.of hT hmix Tryz.func24 rfl (fun _ _ => by kernel_rfl) rfl fun hok => ?_
  clear hok
  obtain ⟨memory, shared, locks, buffer, cores⟩ := o
  generalize hV : evOf ⟨memory, shared, locks, buffer, cores⟩ ⟨4, dc, da, dd, dw, dp, dn⟩ i = V
  conv => whnf
  refine csplit (fun g1 => ?_) (fun g1 => ?_)
  · conv => whnf
    have hv : V = ⟨3, dc, dd, dw, dp, dn, i⟩ := by
      rw [← hV, evOf_of (E := 3) (th := dd) (by rw [whD_var rfl g1]; rfl) (by rw [whD_var rfl g1])]
      rfl
    subst hv
    exact ⟨⟨.inl rfl, .inl rfl, .inl rfl, .inl rfl, .inl rfl, .inl rfl, .inl rfl, trivial⟩, trivial⟩
  · conv => whnf
    refine csplit (fun g2 => ?_) (fun g2 => ?_)
    · conv => whnf
      have hv : V = noE := by
        rw [← hV, evOf_of (E := 0) (th := 0) (by rw [whD_else rfl g1 (nge g2)]; rfl) (by rw [whD_else rfl g1 (nge g2)])]
        rfl
      subst hv
      exact ⟨⟨.inl rfl, .inl rfl, .inl rfl, .inl rfl, .inl rfl, .inl rfl, .inl rfl, trivial⟩, trivial⟩
    · conv => whnf
      refine csplit (fun g3 => ?_) (fun g3 => ?_)
      · conv => whnf
        have hv : V = noE := by
          rw [← hV, evOf_of (E := 0) (th := wrp (dd - shared)) (by rw [whD_lock rfl g1 (nlt g2)]; show (bif (2 : Int) == 2 && (dw == 0 && dp != 0) then 4 else onE 3 2) = 0; rw [nne g3]; rfl) (by rw [whD_lock rfl g1 (nlt g2)])]
          rfl
        subst hv
        exact ⟨⟨.inl rfl, .inl rfl, .inl rfl, .inl rfl, .inl rfl, .inl rfl, .inl rfl, trivial⟩, trivial⟩
      · conv => whnf
        obtain rfl : dw = 0 := by simpa using g3
        refine csplit (fun g4 => ?_) (fun g4 => ?_)
        · conv => whnf
          have hv : V = ⟨4, dc, wrp (dd - shared), 0, 0, false, i⟩ := by
            rw [← hV, evOf_of (E := 4) (th := wrp (dd - shared)) (by rw [whD_lock rfl g1 (nlt g2)]; show (bif (2 : Int) == 2 && ((0 : Int) == 0 && dp != 0) then 4 else onE 3 2) = 4; rw [show (dp != 0) = true from g4]; rfl) (by rw [whD_lock rfl g1 (nlt g2)])]
            rfl
          subst hv
          exact ⟨⟨.inl rfl, .inl rfl, .inl rfl, .inl rfl, .inl rfl, .inl rfl, .inl rfl, trivial⟩, trivial⟩
        · conv => whnf
          have hv : V = noE := by
            rw [← hV, evOf_of (E := 0) (th := wrp (dd - shared)) (by rw [whD_lock rfl g1 (nlt g2)]; show (bif (2 : Int) == 2 && ((0 : Int) == 0 && dp != 0) then 4 else onE 3 2) = 0; rw [show (dp != 0) = false from g4]; rfl) (by rw [whD_lock rfl g1 (nlt g2)])]
            rfl
          subst hv
          exact ⟨⟨.inl rfl, .inl rfl, .inl rfl, .inl rfl, .inl rfl, .inl rfl, .inl rfl, trivial⟩, trivial⟩
set_option maxRecDepth 100000 in
set_option maxHeartbeats 1000000 in
theorem z_event5 (o : Ob) (dc da dd dw dp : Int) (dn : Bool) (i : Int) : K 24 [o.av, didA 5 dc da dd dw dp dn, .tr (ti i)] [] (.ret (.agg ((evOf o ⟨5, dc, da, dd, dw, dp, dn⟩ i).cells.map .tr))) [] := by
  refine Ctr.of hT hmix Tryz.func24 rfl (fun _ _ => by kernel_rfl) rfl fun hok => ?_
  clear hok
  obtain ⟨memory, shared, locks, buffer, cores⟩ := o
  generalize hV : evOf ⟨memory, shared, locks, buffer, cores⟩ ⟨5, dc, da, dd, dw, dp, dn⟩ i = V
  conv => whnf
  have hv : V = noE := by
    rw [← hV, evOf_of (E := 0) (th := 0) (by rw [whD_no rfl]; rfl) (by rw [whD_no rfl])]
    rfl
  subst hv
  exact ⟨⟨.inl rfl, .inl rfl, .inl rfl, .inl rfl, .inl rfl, .inl rfl, .inl rfl, trivial⟩, trivial⟩
set_option maxRecDepth 100000 in
set_option maxHeartbeats 1000000 in
theorem z_event6 (o : Ob) (dc da dd dw dp : Int) (dn : Bool) (i : Int) : K 24 [o.av, didA 6 dc da dd dw dp dn, .tr (ti i)] [] (.ret (.agg ((evOf o ⟨6, dc, da, dd, dw, dp, dn⟩ i).cells.map .tr))) [] := by
  refine Ctr.of hT hmix Tryz.func24 rfl (fun _ _ => by kernel_rfl) rfl fun hok => ?_
  clear hok
  obtain ⟨memory, shared, locks, buffer, cores⟩ := o
  generalize hV : evOf ⟨memory, shared, locks, buffer, cores⟩ ⟨6, dc, da, dd, dw, dp, dn⟩ i = V
  conv => whnf
  have hv : V = ⟨6, dc, 0, dw, 0, false, i⟩ := by
    rw [← hV, evOf_of (E := 6) (th := 0) (by rw [whD_no rfl]; rfl) (by rw [whD_no rfl])]
    rfl
  subst hv
  exact ⟨⟨.inl rfl, .inl rfl, .inl rfl, .inl rfl, .inl rfl, .inl rfl, .inl rfl, trivial⟩, trivial⟩
set_option maxRecDepth 100000 in
set_option maxHeartbeats 1000000 in
theorem z_event7 (o : Ob) (dc da dd dw dp : Int) (dn : Bool) (i : Int) (hz : dw = 0) : K 24 [o.av, didA 7 dc da dd dw dp dn, .tr (ti i)] [] (.ret (.agg ((evOf o ⟨7, dc, da, dd, dw, dp, dn⟩ i).cells.map .tr))) [] := by
  refine Ctr.of hT hmix Tryz.func24 rfl (fun _ _ => by kernel_rfl) rfl fun hok => ?_
  clear hok
  obtain ⟨memory, shared, locks, buffer, cores⟩ := o
  generalize hV : evOf ⟨memory, shared, locks, buffer, cores⟩ ⟨7, dc, da, dd, dw, dp, dn⟩ i = V
  subst hz
  conv => whnf
  have hv : V = ⟨7, dc, 0, 0, 0, false, i⟩ := by
    rw [← hV, evOf_of (E := 7) (th := 0) (by rw [whD_no rfl]; rfl) (by rw [whD_no rfl])]
    rfl
  subst hv
  exact ⟨⟨.inl rfl, .inl rfl, .inl rfl, .inl rfl, .inl rfl, .inl rfl, .inl rfl, trivial⟩, trivial⟩
set_option maxRecDepth 100000 in
set_option maxHeartbeats 1000000 in
theorem z_event8 (o : Ob) (dc da dd dw dp : Int) (dn : Bool) (i : Int) : K 24 [o.av, didA 8 dc da dd dw dp dn, .tr (ti i)] [] (.ret (.agg ((evOf o ⟨8, dc, da, dd, dw, dp, dn⟩ i).cells.map .tr))) [] := by
  refine Ctr.of hT hmix Tryz.func24 rfl (fun _ _ => by kernel_rfl) rfl fun hok => ?_
  clear hok
  obtain ⟨memory, shared, locks, buffer, cores⟩ := o
  generalize hV : evOf ⟨memory, shared, locks, buffer, cores⟩ ⟨8, dc, da, dd, dw, dp, dn⟩ i = V
  conv => whnf
  refine csplit (fun g1 => ?_) (fun g1 => ?_)
  · conv => whnf
    have hv : V = ⟨2, dc, dd, dw, dp, dn, i⟩ := by
      rw [← hV, evOf_of (E := 2) (th := dd) (by rw [whD_var rfl g1]; rfl) (by rw [whD_var rfl g1])]
      rfl
    subst hv
    exact ⟨⟨.inl rfl, .inl rfl, .inl rfl, .inl rfl, .inl rfl, .inl rfl, .inl rfl, trivial⟩, trivial⟩
  · conv => whnf
    refine csplit (fun g2 => ?_) (fun g2 => ?_)
    · conv => whnf
      have hv : V = noE := by
        rw [← hV, evOf_of (E := 0) (th := 0) (by rw [whD_else rfl g1 (nge g2)]; rfl) (by rw [whD_else rfl g1 (nge g2)])]
        rfl
      subst hv
      exact ⟨⟨.inl rfl, .inl rfl, .inl rfl, .inl rfl, .inl rfl, .inl rfl, .inl rfl, trivial⟩, trivial⟩
    · conv => whnf
      refine csplit (fun g3 => ?_) (fun g3 => ?_)
      · conv => whnf
        have hv : V = noE := by
          rw [← hV, evOf_of (E := 0) (th := wrp (dd - shared)) (by rw [whD_lock rfl g1 (nlt g2)]; show (bif (2 : Int) == 2 && dw == 0 then 5 else onE 2 2) = 0; rw [nne g3]; rfl) (by rw [whD_lock rfl g1 (nlt g2)])]
          rfl
        subst hv
        exact ⟨⟨.inl rfl, .inl rfl, .inl rfl, .inl rfl, .inl rfl, .inl rfl, .inl rfl, trivial⟩, trivial⟩
      · conv => whnf
        obtain rfl : dw = 0 := by simpa using g3
        have hv : V = ⟨5, dc, wrp (dd - shared), 0, 0, false, i⟩ := by
          rw [← hV, evOf_of (E := 5) (th := wrp (dd - shared)) (by rw [whD_lock rfl g1 (nlt g2)]; rfl) (by rw [whD_lock rfl g1 (nlt g2)])]
          rfl
        subst hv
        exact ⟨⟨.inl rfl, .inl rfl, .inl rfl, .inl rfl, .inl rfl, .inl rfl, .inl rfl, trivial⟩, trivial⟩
theorem right_halt {d : Did} (h : rightD d = true) (hk : d.kind = 7) : d.word = 0 := by
  unfold rightD usdD at h
  cases ho : outD d with
  | true => rw [ho] at h; cases h
  | false =>
    rw [ho] at h
    simp only [cond_false, Bool.and_eq_true, Bool.or_eq_true] at h
    have h2 := h.2.1
    rw [hk] at h2
    rcases h2 with h2 | h2 | h2
    · exact absurd h2 (by decide)
    · exact absurd h2 (by decide)
    · simpa using h2
theorem z_event (o : Ob) (d : Did) (i : Int) (hr : rightD d = true) (h0 : 0 ≤ d.kind) : K 24 [o.av, d.av, .tr (ti i)] [] (.ret (.agg ((evOf o d i).cells.map .tr))) [] := by
  have hk := right_kind' hr
  have hh := right_halt hr
  obtain ⟨dk, dc, da, dd, dw, dp, dn⟩ := d
  simp only at hk h0 hh
  rcases hk with rfl | rfl | rfl | rfl | rfl | rfl | rfl | rfl | hk
  · exact z_event1 o dc da dd dw dp dn i
  · exact z_event2 o dc da dd dw dp dn i
  · exact z_event3 o dc da dd dw dp dn i
  · exact z_event4 o dc da dd dw dp dn i
  · exact z_event5 o dc da dd dw dp dn i
  · exact z_event6 o dc da dd dw dp dn i
  · exact z_event7 o dc da dd dw dp dn i (hh rfl)
  · exact z_event8 o dc da dd dw dp dn i
  · omega
end Go.Proofs.YtcpolpbeimhgfaaGreat.am

namespace Go.Proofs.YtcpolpbeimhgfaaGreat.ws
open Go Go.RowKit Go.Lib

/-- what stands in the block after j digits -/
def prRow (l : List UInt8) : Array Value := (List.replicate (20 - l.length) (Value.int .u8 0) ++ l.map fun c => Value.int .u8 c.toNat).toArray

theorem prRow_eq (l : List UInt8) : (prRow l).toList = List.replicate (20 - l.length) (Value.int .u8 0) ++ l.map fun c => Value.int .u8 c.toNat := rfl
theorem prRow_get (l : List UInt8) (p : Nat) (hp : 1 ≤ p) (hl : p + l.length = 20) : (prRow l)[p - 1]? = some (.int .u8 0) := by
  unfold prRow
  have h : 20 - l.length = (p - 1) + 1 := by omega
  rw [List.getElem?_toArray, List.getElem?_append_left (by simp; omega), h, List.getElem?_replicate, if_pos (by omega)]
theorem prRow_set (l : List UInt8) (c : UInt8) (p : Nat) (hp : 1 ≤ p) (hl : p + l.length = 20) : (prRow l).setIfInBounds (p - 1) (.int .u8 c.toNat) = prRow (c :: l) := by
  unfold prRow
  have h : 20 - l.length = (p - 1) + 1 := by omega
  have h' : 20 - (c :: l).length = p - 1 := by simp; omega
  rw [h, h', List.setIfInBounds_toArray, List.replicate_succ', List.append_assoc]
  congr 1
  rw [List.set_append_right _ _ (by simp)]
  simp
theorem prRow_at (l : List UInt8) (p i : Nat) (hl : p + l.length = 20) (hi : i < l.length) : (prRow l)[p + i]? = some (.int .u8 (l[i]'hi).toNat) := by
  unfold prRow
  rw [List.getElem?_toArray, List.getElem?_append_right (by simp; omega)]
  simp [show p + i - (20 - l.length) = i by omega, hi]
theorem slice_end (B p : Nat) (hp : 1 ≤ p) (hp2 : p ≤ 20) (W : World) :
    (Instr.sliceAt 169 (.pointer (some ⟨B, 0, none⟩)) (some (.int .i64 ((p : Int) - 1))) none none).run Tryz.prog W = .ok (.slice (some ⟨B, p - 1, none⟩) (21 - p) (21 - p)) W := by
  have hal : Tryz.prog.arrayLen 169 = 20 := by kernel_rfl
  have hu : Tryz.prog.underlying 169 = some (.array (Tryz.prog.arrayLen 169) (Tryz.prog.elem 169)) := by kernel_rfl
  have hz : ∀ W, (sizeOf (Tryz.prog.elem 169)).run Tryz.prog W = .ok 1 W := fun W => by kernel_rfl
  rw [run_sliceAt_array_l W _ _ hu .i64 _ (by omega) (by rw [hal]; omega), hz]
  simp only [Result.andThen, slicedAt, hal]
  have e : ((p : Int) - 1).toNat = p - 1 := by omega
  rw [e, if_neg (by omega)]
  have e2 : (⟨B, 0, none⟩ : Addr).add ((p - 1) * 1) = ⟨B, p - 1, none⟩ := by
    unfold Addr.add
    by_cases h : (p - 1) * 1 = 0
    · rw [if_pos h, show p - 1 = 0 by omega]
    · rw [if_neg h]; simp
  rw [e2, show 20 - (p - 1) = 21 - p by omega]
theorem conv_end (l : List UInt8) (p n : Nat) (w : World) (hl : p + l.length = 20) (hn : l.length = n) :
    (convert 101 9 (.slice (some ⟨w.heap.size, p, none⟩) n n)).run Tryz.prog (w.alloc (.cells (prRow l) 169)) = .ok (.string ⟨l.toArray⟩) (w.alloc (.cells (prRow l) 169)) := by
  subst hn
  refine run_convert_bytes_back _ _ _ 5 _ _ l Tryz.underlying101 Tryz.underlying5 Tryz.underlying9 fun j hj => ?_
  have e : (⟨w.heap.size, p, none⟩ : Addr).add j = ⟨w.heap.size, p + j, none⟩ := by
    unfold Addr.add; split <;> simp_all
  rw [e, World.cell?_alloc_at _ _ _ _ rfl, prRow_at l p j hl hj]
theorem dig_toNat (n : Nat) : (dch (n % 10)).toNat = 48 + n % 10 := dch_toNat (by omega)

theorem pow_bound {n j : Nat} (h : n * 10 ^ j ≤ 9223372036854775808) (hn : 0 < n) : j ≤ 18 := by
  apply Decidable.byContradiction
  intro hj
  have h1 : 10 ^ 19 ≤ 10 ^ j := Nat.pow_le_pow_right (by decide) (by omega)
  have h2 : 1 * 10 ^ j ≤ n * 10 ^ j := Nat.mul_le_mul_right _ hn
  have h3 : (10 : Nat) ^ 19 = 10000000000000000000 := by decide
  omega
theorem pow_step {n j N : Nat} (h : n * 10 ^ j ≤ N) : n / 10 * 10 ^ (j + 1) ≤ N := by
  have h1 : n / 10 * 10 ≤ n := Nat.div_mul_le_self n 10
  have h2 := Nat.mul_le_mul_right (10 ^ j) h1
  have h3 : n / 10 * 10 ^ (j + 1) = n / 10 * 10 * 10 ^ j := by rw [Nat.pow_succ, Nat.mul_assoc, Nat.mul_comm 10]
  omega

def rowOf (p : Nat) (d : Int) (l : List UInt8) : Array Value := (prRow l).setIfInBounds (p - 1) (.int .u8 d)
theorem rowOf_eq (p m : Nat) (l : List UInt8) (hp : 1 ≤ p) (hl : p + l.length = 20) : (prRow l).setIfInBounds (p - 1) (.int .u8 (48 + (m : Int) % 10)) = prRow (dch (m % 10) :: l) := by
  rw [← prRow_set l _ p hp hl, dig_toNat]
  rfl
theorem minus_eq (p : Nat) (l : List UInt8) (hp : 1 ≤ p) (hl : p + l.length = 20) : (prRow l).setIfInBounds (p - 1) (.int .u8 45) = prRow (45 :: l) := prRow_set l 45 p hp hl

set_option maxRecDepth 100000 in
set_option maxHeartbeats 1000000 in
theorem print_pos (N : Nat) (w : World) (hN : N ≤ 9223372036854775807) :
    Calls Tryz.prog 67 #[.int .i64 N] w fun e w' => e = .returned (.string ⟨(prn N).toArray⟩) ∧ Below w.heap.size w w' := by
  have R : Hid (prn N = dig N) := by
    show prn N = dig N
    unfold prn; rw [if_neg (by omega)]; rfl
  go_enter Tryz.func67, Tryz.ntmps67
  go_wp2
  go_loopw [4, 5] (fun a n wr => ∃ (l : List UInt8) (p m : Nat), p + l.length = 20 ∧ 1 ≤ p ∧ a = .int .i64 p ∧ n = .int .u64 m ∧ m ≤ N ∧ Hid ((0 < l.length → 0 < m) ∧ m * 10 ^ l.length ≤ N ∧ dig N = dig m ++ l) ∧ wr = w.alloc (.cells (prRow l) 169)) (fun a _ _ => (intOf a).toNat)
  case atStart => exact ⟨[], 20, N, rfl, by omega, rfl, rfl, by omega, ⟨fun h => absurd h (by decide), by simp, by simp⟩, rfl⟩
  case round =>
    obtain ⟨l, p, m, hp, hp1, rfl, rfl, hmN, H, rfl⟩ := hrel
    have hg := prRow_get l p hp1 hp
    have hsl := slice_end w.heap.size p hp1 (by omega)
    have hrow := rowOf_eq p m l hp1 hp
    by_cases h9 : m < 10
    · have hz : (((m : Int) / 10) == 0) = true := by simp; omega
      have hcv := conv_end (dch (m % 10) :: l) (p - 1) (21 - p) w (by simp; omega) (by simp; omega)
      go_wp2
      go_ret
      refine ⟨ret_str ?_, (Below.refl _ _).alloc (Nat.le_refl _) _⟩
      rw [R.out, H.out.2.2, dig_small h9, show m % 10 = m by omega]
      rfl
    · have hz : (((m : Int) / 10) == 0) = false := by simp; omega
      go_wp2
      have hl18 : l.length + 1 ≤ 18 := pow_bound (n := m / 10) (by have := pow_step H.out.2.1; omega) (by omega)
      go_roundw
      case rel =>
        exact ⟨dch (m % 10) :: l, p - 1, m / 10, by simp; omega, by omega, by go_num, by go_num, by omega, ⟨fun _ => by omega, pow_step H.out.2.1, by rw [H.out.2.2, dig_big h9, List.append_assoc]; rfl⟩, rfl⟩
      case measure => simp [intOf]; omega

set_option maxRecDepth 100000 in
set_option maxHeartbeats 1000000 in
theorem print_neg (N : Nat) (w : World) (hN : N ≤ 9223372036854775808) (h0 : 0 < N) :
    Calls Tryz.prog 67 #[.int .i64 (-(N : Int))] w fun e w' => e = .returned (.string ⟨(prn (-(N : Int))).toArray⟩) ∧ Below w.heap.size w w' := by
  have R : Hid (prn (-(N : Int)) = 45 :: dig N) := by
    show prn _ = _
    unfold prn; rw [if_pos (by omega), Int.neg_neg]; rfl
  have hlt : -(N : Int) < 0 := by omega
  have hw : IntKind.u64.wrap (-(IntKind.u64.wrap (-(N : Int)))) = N := by rw [IntKind.wrap_u64, IntKind.wrap_u64]; omega
  go_enter Tryz.func67, Tryz.ntmps67
  go_wp2
  go_loopw [4, 5] (fun a n wr => ∃ (l : List UInt8) (p m : Nat), p + l.length = 20 ∧ 2 ≤ p ∧ a = .int .i64 p ∧ n = .int .u64 m ∧ m ≤ N ∧ Hid ((0 < l.length → 0 < m) ∧ m * 10 ^ l.length ≤ N ∧ dig N = dig m ++ l) ∧ wr = w.alloc (.cells (prRow l) 169)) (fun a _ _ => (intOf a).toNat)
  case atStart => exact ⟨[], 20, N, rfl, by omega, rfl, rfl, by omega, ⟨fun h => absurd h (by decide), by simp, by simp⟩, rfl⟩
  case round =>
    obtain ⟨l, p, m, hp, hp1, rfl, rfl, hmN, H, rfl⟩ := hrel
    have hg := prRow_get l p (by omega) hp
    have hrow := rowOf_eq p m l (by omega) hp
    by_cases h9 : m < 10
    · have hz : (((m : Int) / 10) == 0) = true := by simp; omega
      have hp' : p - 1 + (dch (m % 10) :: l).length = 20 := by simp; omega
      have hg' := prRow_get (dch (m % 10) :: l) (p - 1) (by omega) hp'
      have hmin := minus_eq (p - 1) (dch (m % 10) :: l) (by omega) hp'
      have hsl := slice_end w.heap.size (p - 1) (by omega) (by omega)
      have hcv := conv_end (45 :: dch (m % 10) :: l) (p - 1 - 1) (21 - (p - 1)) w (by simp; omega) (by simp; omega)
      have e : ((p - 1 : Nat) : Int) = (p : Int) - 1 := by omega
      rw [e] at hsl
      clear e hp'
      go_wp2
      go_ret
      refine ⟨ret_str ?_, (Below.refl _ _).alloc (Nat.le_refl _) _⟩
      rw [R.out, H.out.2.2, dig_small h9, show m % 10 = m by omega]
      rfl
    · have hz : (((m : Int) / 10) == 0) = false := by simp; omega
      go_wp2
      have hl18 : l.length + 1 ≤ 18 := pow_bound (n := m / 10) (by have := pow_step H.out.2.1; omega) (by omega)
      go_roundw
      case rel =>
        exact ⟨dch (m % 10) :: l, p - 1, m / 10, by simp; omega, by omega, by go_num, by go_num, by omega, ⟨fun _ => by omega, pow_step H.out.2.1, by rw [H.out.2.2, dig_big h9, List.append_assoc]; rfl⟩, rfl⟩
      case measure => simp [intOf]; omega

theorem print_any (v : Int) (w : World) (h1 : -9223372036854775808 ≤ v) (h2 : v ≤ 9223372036854775807) :
    Calls Tryz.prog 67 #[.int .i64 v] w fun e w' => e = .returned (.string ⟨(prn v).toArray⟩) ∧ Below w.heap.size w w' := by
  by_cases h : 0 ≤ v
  · obtain ⟨N, rfl⟩ := Int.eq_ofNat_of_zero_le h
    exact print_pos N w (by omega)
  · obtain ⟨N, hN⟩ := Int.eq_ofNat_of_zero_le (a := -v) (by omega)
    obtain rfl : v = -(N : Int) := by omega
    exact print_neg N w (by omega) (by omega)
end Go.Proofs.YtcpolpbeimhgfaaGreat.ws

namespace Go.Proofs.YtcpolpbeimhgfaaGreat.am
open Go Go.Proofs
end Go.Proofs.YtcpolpbeimhgfaaGreat.am

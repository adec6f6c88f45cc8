/- The abstract machine: a range over a function, part three: a function's contract. Plain law: words and signs there and back. No program. -/
import Derived.Test.YtcpolpbeimhgfaaGreatDoorJ4
set_option linter.all false

namespace Go.Proofs.YtcpolpbeimhgfaaGreatDoor.am
open Go
set_option linter.unusedSimpArgs false

/-- pieces of code, one behind the other -/
def seqs : List Code → Code → Code
  | [], d => d
  | a :: r, d => .seq a (seqs r d)
noncomputable def awpS (X : Gh → World → Prop) (P : Program) (T : Ty) (k N : Nat) (cuts : List Nat) (Q : QL) (l : List Code) : LS → Prop :=
  List.rec (motive := fun _ => LS → Prop) (fun s => Q .normal s) (fun a _ ih => fun s => awpL X P T k N cuts a (thnL ih Q) s) l
section
variable {X : Gh → World → Prop} {P : Program} {T : Ty} {k N n : Nat}
theorem awpS_sound {cuts : List Nat} (hT : TOk P T) (hmix : P.follows .mixedOrders = true) {d : Code} {Qg : Exit → Act → World → Prop} {g0 : Gh} {w0 : World} {Q : QL} (hk : X g0 w0 ∧ ∀ i, k ≤ i → g0 i = .un)
    (hn : ∀ ls g act w, Q .normal ls → St g0 w0 N g act w ls.st → d.wp P Qg act w) (hx : ∀ x ls g e act w, x ≠ .normal → Q x ls → St g0 w0 N g act w ls.st → AX.is g w x e → Qg e act w) :
    ∀ (pre : List Code) (s : LS), awpS X P T k N cuts Q pre s → ∀ g w act, St g0 w0 N g act w s.st → (seqs pre d).wp P Qg act w := by
  intro pre
  induction pre with
  | nil => intro s h g w act hs; exact hn s g act w h hs
  | cons a r ih =>
    intro s h g w act hs
    have h : awpL X P T k N cuts a (thnL (awpS X P T k N cuts Q r) Q) s := h
    refine wp_seq (Go.wp_mono (awpL_sound hT hmix a _ s h g0 g w0 w act hk hs) ?_)
    rintro e act' w' ⟨x, s', g', ⟨ls, rfl, h1⟩, h2, h3⟩
    cases x with
    | normal =>
      cases e with
      | normal => exact ih ls h1 g' w' act' h2
      | _ => exact h3.elim
    | _ => cases e <;> first | exact h3.elim | exact hx _ ls g' _ act' w' (by simp) h1 h2 h3
/-- from one moment to a later one, where more and fewer blocks are nobody's business -/
structure Gx (K : Nat) (X0 : Nat → Prop) (g : Gh) (w : World) (g' : Gh) (w' : World) : Prop where
  os : w'.os = w.os
  tape : w'.tape = w.tape
  output : w'.output = w.output
  size : w.heap.size ≤ w'.heap.size
  block : ∀ b, okB g w b → okB g' w' b ∧ w'.heap[b]? = w.heap[b]?
  xb : ∀ b, X0 b → w'.heap[b]? = w.heap[b]?
  X : ∀ b, X0 b → g'.X b
  un : ∀ h, h < K → g h ≠ .un → g' h ≠ .un
  live : ∀ h l, h < K → g' h = .live l → g h = .live l ∨ g h = .un
  new : ∀ h b, Owns g' h b → (∃ h2, Owns g h2 b) ∨ w.heap.size ≤ b
variable {K : Nat} {X0 : Nat → Prop} {g g' g'' : Gh} {w w' w'' : World}
theorem Gx.of_grow (h : Grow g w g' w') (hX : ∀ b, X0 b → g.X b) : Gx K X0 g w g' w' :=
  ⟨h.os, h.tape, h.output, h.size, fun b hb => h.ok hb, fun b hb => h.xb b (hX b hb), fun b hb => by rw [h.X]; exact hX b hb, fun x _ => h.un x, fun x l _ => h.live x l, h.new⟩
theorem Gx.trans (h : Gx K X0 g w g' w') (q : Gx K X0 g' w' g'' w'') : Gx K X0 g w g'' w'' := by
  refine ⟨q.os.trans h.os, q.tape.trans h.tape, q.output.trans h.output, Nat.le_trans h.size q.size, fun b hb => ?_, fun b hb => (q.xb b hb).trans (h.xb b hb), q.X, fun x hx e => q.un x hx (h.un x hx e), fun x l hx e => ?_, fun x b e => ?_⟩
  · obtain ⟨h1, h2⟩ := h.block b hb
    obtain ⟨h3, h4⟩ := q.block b h1
    exact ⟨h3, h4.trans h2⟩
  · rcases q.live x l hx e with e | e
    · exact h.live x l hx e
    · refine .inr ?_
      cases hg : g x with
      | un => rfl
      | dead => exact absurd e (h.un x hx (by rw [hg]; simp))
      | live l => exact absurd e (h.un x hx (by rw [hg]; simp))
  · rcases q.new x b e with ⟨h2, e3⟩ | e
    · exact h.new h2 b e3
    · exact .inr (Nat.le_trans h.size e)
theorem Gx.turn {l : Nat} {o : Obj} (hl : g.X l) (hne : ¬ X0 l) (hX : ∀ b, X0 b → g.X b) : Gx K X0 g w g (w.putObj l o) :=
  ⟨rfl, rfl, rfl, by simp, turn_ok hl, fun b hb => World.putObj_heap_other fun (h : b = l) => hne (h ▸ hb), hX, fun _ _ h => h, fun _ _ _ h => .inl h, fun h b e => .inl ⟨h, e⟩⟩
theorem Gx.cut {k : Nat} (hK : K ≤ k) (hX : ∀ b, X0 b → g.X b) : Gx K X0 g w (gcut g k) w :=
  ⟨rfl, rfl, rfl, Nat.le_refl _, fun b hb => ⟨gcut_ok hb, rfl⟩, fun _ _ => rfl, hX, fun h hh e => by rw [gcut_lt (by omega)]; exact e, fun h l hh e => by rw [gcut_lt (by omega)] at e; exact .inl e, fun h b e => .inl ⟨h, gcut_owns e⟩⟩
theorem Gx.grow (h : Gx K g.X g w g' w') (hk : ∀ i, K ≤ i → g i = .un) (hX : g'.X = g.X) : Grow g w g' w' := by
  refine ⟨h.os, h.tape, h.output, h.size, fun b hb => (h.block b hb).2, h.xb, hX, fun x hx => ?_, fun x l hx => ?_, h.new⟩
  · rcases Nat.lt_or_ge x K with q | q
    · exact h.un x q hx
    · exact absurd (hk x q) hx
  · rcases Nat.lt_or_ge x K with q | q
    · exact h.live x l q hx
    · exact .inr (hk x q)
/-- only the first handles are kept -/
theorem cutd {k0 : Nat} {tmps : Array Value} {ls : LS} (hlow : lowS k0 ls ls.nx = true) (hfr : ∀ i a, lk ls.tl i = some a → i < N ∧ Rep g w (tmps.getD i undef) a) (hm : MSt g w (lkM ls.bl)) :
    (∀ i a, lk ls.tl i = some a → i < N ∧ Rep (gcut g ls.nx) w (tmps.getD i undef) a) ∧ MSt (gcut g ls.nx) w (lkM ls.bl) ∧ ∀ i, ls.nx ≤ i → gcut g ls.nx i = .un := by
  unfold lowS at hlow
  simp only [Bool.and_eq_true, List.all_eq_true] at hlow
  replace hlow := hlow.2
  refine ⟨fun i a hi => ⟨(hfr i a hi).1, (hfr i a hi).2.low (fun b hb => gcut_ok hb) (fun i hi => gcut_lt hi) (hlow.1 _ (lk_in hi))⟩, ⟨fun h b hb => ?_, fun h h' b e1 e2 => hm.inj h h' b (gcut_owns e1) (gcut_owns e2), fun h b e1 => hm.lt h b (gcut_owns e1), hm.xlt, fun h b e1 => hm.xl h b (gcut_owns e1), fun b Q hq => ⟨⟨(hm.gl b Q hq).1.1, fun h ho => (hm.gl b Q hq).1.2 h (gcut_owns ho)⟩, (hm.gl b Q hq).2⟩⟩, fun i hi => by simp [gcut, Nat.not_lt.2 hi]⟩
  have hb2 : lk ls.bl h = some (some b) := by
    have hb' : (lk ls.bl h).join = some b := hb
    cases e : lk ls.bl h with
    | none => rw [e] at hb'; cases hb'
    | some x => rw [e] at hb'; exact congrArg some hb'
  obtain ⟨q1, q2⟩ := (by simpa using hlow.2 _ (lk_in hb2) : Nat.blt h ls.nx = true ∧ b.lowH ls.nx = true)
  obtain ⟨l, e1, e2⟩ := hm.blk h b hb
  exact ⟨l, (gcut_lt (Nat.le_of_ble_eq_true q1)).trans e1, e2.low (fun b hb => gcut_ok hb) (fun i hi => gcut_lt hi) q2⟩
/-- the loop: from the call of the iterator on, and what lies behind -/
def RangeOk (P : Program) (T : Ty) (k N : Nat) (cuts cutsI : List Nat) (gop : Operand) (ps : Array Tmp) (asg bd rest : Code) (fI NI : Nat) (cI : Code) (Q : QL) (s : LS) : Prop :=
  lowS k s s.nx = true ∧ ∃ caps, evA (lk s.tl) gop = some (.fn fI caps) ∧ Nat.ble (1 + caps.length) NI = true ∧
    ∀ l : Nat, awpL (YX ⟨N, s.tl, ps, asg, bd⟩ l) P T s.nx NI cutsI cI (fun x sI => (x = .normal ∨ x = .ret) ∧ lowS s.nx ⟨s.tl, sI.bl, sI.nx⟩ sI.nx = true ∧ awpL XT P T sI.nx N cuts rest Q ⟨s.tl, sI.bl, sI.nx⟩) ⟨numL 0 (yldT l :: caps), s.bl, s.nx⟩
def RetQ (T : Ty) (k : Nat) (rs : List ResultVar) (res : AV) (bout : List (Option Blk)) : QL := fun x s => (x = .normal ∨ x = .ret) ∧ ∃ ρ, rhoOk k ρ = true ∧ ρ.length = bout.length ∧ afinR T ρ rs (.ret res) bout x s.st
theorem Ctr.range (cuts cutsI : List Nat) (hT : TOk P T) (hmix : P.follows .mixedOrders = true) {f fI bid : Nat} {fn fnI : Func} {pre : List Code} {r7 rest cI asg bd : Code} {gop : Operand} {ps : Array Tmp}
    (hf : P.funcs[f]? = some fn) (hb : fn.body = some (seqs pre (.seq (.seq r7 (.block bid (.rangeFunc gop ps asg bd))) rest))) (hcall : Callable P f)
    (hfI : P.funcs[fI]? = some fnI) (hbI : fnI.body = some cI) (hcI : Callable P fI) (hrI : fnI.results = #[]) {args : List AV} {bin : List Blk} {res : AV} {bout : List (Option Blk)} (hN : Nat.ble args.length fn.ntmps = true)
    (h : SOk (AS.init args bin) → awpS XT P T bin.length fn.ntmps cuts (fun x s => match x with
      | .normal => awpL XT P T bin.length fn.ntmps cuts r7 (fun x s => x = .normal ∧ RangeOk P T bin.length fn.ntmps cuts cutsI gop ps asg bd rest fI fnI.ntmps cI (RetQ T bin.length fn.results.toList res bout) s) s
      | x => x = .ret ∧ RetQ T bin.length fn.results.toList res bout x s) pre (initL args bin)) : Ctr P f args bin (.ret res) bout := by
  refine ⟨hcall, fun g w vs hun hm hsz hvs => (callsIn_wide (n := 0)).1 (callsIn_of_wp_marks hf hb trivial ((wpIn_wide (n := 0)).2 ?_))⟩
  have h0 := St.enter (N := fn.ntmps) hun hm hsz hvs (Nat.le_of_ble_eq_true hN)
  have hin := initL_st args bin
  have fin : ∀ {D : List Deferred} {x : AX} {ls : LS} {g' : Gh} {e : Exit} {act' : Act} {w' : World}, RetQ T bin.length fn.results.toList res bout x ls → St (g.at D) w fn.ntmps g' act' w' ls.st → AX.is g' w' x e →
      (e = .normal ∨ e = .ret) ∧ ∃ v, (results fn act'.tmps).run P w' = .ok v w' ∧ ∃ g', Grow g w g' w' ∧ MSt g' w' (ofLO bout) ∧ Under g' bout.length ∧ (AE.ret res).is g' w' (.returned v) := by
    rintro D x ls g' e act' w' ⟨_, ρ, hρ, hρl, ha⟩ h2 h3
    obtain ⟨q1, v, q2, g'', q3, q4, q5, q6⟩ := post_ret hT (fn := fn) hun hρ hρl ha h2 h3
    exact ⟨q1, v, q2, g'', q3, q4, q5, q6⟩
  refine awpS_sound (g0 := g.at []) hT hmix ⟨trivial, hun⟩ ?_ ?_ pre (initL args bin) (h h0.ok) g w _ (by rw [hin]; exact h0)
  · intro ls g1 act1 w1 hq hst
    refine wp_seq (wp_seq (Go.wp_mono (awpL_sound hT hmix r7 _ ls hq (g.at []) g1 w w1 act1 ⟨trivial, hun⟩ hst) ?_))
    clear hq hst
    rintro e act1 w1 ⟨x, s, g1, ⟨ls, rfl, rfl, hlow, caps, hcap, hNI, hI⟩, h2, h3⟩
    cases e with
    | normal =>
      show (Code.block bid (.rangeFunc gop ps asg bd)).wp P _ act1 w1
      refine wp_block ((wpIn_wide (n := 0)).1 (wpIn_rangeFunc ?_))
      have hkk : bin.length ≤ ls.nx := by unfold lowS at hlow; simp only [Bool.and_eq_true] at hlow; exact Nat.le_of_ble_eq_true hlow.1
      obtain ⟨f1, m1, u1⟩ := cutd hlow h2.fr h2.mem
      have G1 : Gx bin.length g.X g w (gcut g1 ls.nx) w1 := (Gx.of_grow h2.grow.of_at fun _ h => h).trans (Gx.cut hkk fun b hb => by rw [h2.grow.X]; exact hb)
      have hsz1 : act1.tmps.size = fn.ntmps := h2.size
      have hdf1 : act1.defers = [] := h2.defers
      have hxlt1 : ∀ b, g.X b → b < w1.heap.size := fun b hb => h2.mem.xlt b (by rw [h2.grow.X]; exact hb)
      have hX1 : (gcut g1 ls.nx).X = g.X := h2.grow.X
      generalize gcut g1 ls.nx = g1 at f1 m1 u1 G1 hX1
      clear h2 h3
      obtain ⟨v1, v2⟩ : ∃ cs, act1.eval gop = .func (.func fI) #[] cs ∧ cs.size = caps.length ∧ ∀ (i : Nat) (v : Value) (a : AV), cs[i]? = some v → caps[i]? = some a → Rep g1 w1 v a := by
        have := evA_ok f1 _ _ hcap
        generalize act1.eval gop = v at this
        cases this with
        | fn e1 e2 => exact ⟨_, rfl, e1, e2⟩
      obtain ⟨hgv, csz, crep⟩ := v2
      intro fnid _
      generalize hlD : w1.heap.size = D at *
      have hW : ∃ W2, (w1.alloc (.deferred (some []))).alloc (.loop { state := .ready, pending := none, fn := fnid, tmps := act1.tmps, params := ps, assign := asg, body := bd, defers := D }) = W2 := ⟨_, rfl⟩
      obtain ⟨W2, hW⟩ := hW
      have hs2 : W2.heap.size = D + 2 := by rw [← hW, World.size_alloc, World.size_alloc, hlD]
      have hL2 : W2.heap[D + 1]? = some (.loop { state := .ready, pending := none, fn := fnid, tmps := act1.tmps, params := ps, assign := asg, body := bd, defers := D }) := by
        rw [← hW]
        have := World.alloc_heap_new (w1.alloc (.deferred (some []))) (.loop { state := .ready, pending := none, fn := fnid, tmps := act1.tmps, params := ps, assign := asg, body := bd, defers := D })
        rwa [World.size_alloc, hlD] at this
      have hK2 : W2.heap[D]? = some (.deferred (some [])) := by
        rw [← hW]
        have := World.alloc_heap_new w1 (.deferred (some []))
        rw [hlD] at this
        exact (Go.RowKit.Below.heap_alloc _ _ _ (by rw [World.size_alloc]; omega)).trans this
      have hold : ∀ b, b < D → W2.heap[b]? = w1.heap[b]? := fun b hb => by
        rw [← hW]
        exact (Go.RowKit.Below.heap_alloc _ _ _ (by rw [World.size_alloc]; omega)).trans (Go.RowKit.Below.heap_alloc _ _ _ (by omega))
      have ok2 : ∀ b, okB g1 w1 b → okB (g1.also fun b => b = D ∨ b = D + 1) W2 b ∧ W2.heap[b]? = w1.heap[b]? := fun b hb => by
        have hlt : b < D := by have := hb.1; omega
        exact ⟨⟨by omega, fun h => h.elim hb.2.1 (fun h => by omega), hb.2.2⟩, hold b hlt⟩
      have hnogl : ∀ b Q, glob b Q → b < D := fun b Q hq => by have := (m1.gl b Q hq).1.1; omega
      have m2 : MSt (g1.also fun b => b = D ∨ b = D + 1) W2 (lkM ls.bl) := by
        refine MSt.chg (g := g1) (g' := g1.also fun b => b = D ∨ b = D + 1) rfl rfl ok2 (fun h b e => hold b (by have := m1.lt h b e; omega)) (by omega) (fun b hb => ?_) (fun h b e hb => ?_) (fun b Q hq => hold b (hnogl b Q hq)) m1
        · rcases hb with hb | hb
          · have := m1.xlt b hb; omega
          · omega
        · have := m1.lt h b e
          exact hb.elim (m1.xl h b e) (fun h => by omega)
      have G2 : Gx bin.length g.X g1 w1 (g1.also fun b => b = D ∨ b = D + 1) W2 :=
        ⟨by rw [← hW]; rfl, by rw [← hW]; rfl, by rw [← hW]; rfl, by omega, ok2, fun b hb => hold b (by have := hxlt1 b hb; omega), fun b hb => .inl (by rw [hX1]; exact hb), fun _ _ h => h, fun _ _ _ h => .inl h, fun h b e => .inl ⟨h, e⟩⟩
      have f2 : ∀ i a, lk ls.tl i = some a → i < fn.ntmps ∧ Rep (g1.also fun b => b = D ∨ b = D + 1) W2 (act1.tmps.getD i undef) a := fun i a hi => ⟨(f1 i a hi).1, Rep.chg (g := g1) (w := w1) (g' := g1.also fun b => b = D ∨ b = D + 1) rfl ok2 (f1 i a hi).2⟩
      have c2 : ∀ (i : Nat) (v : Value) (a : AV), v1[i]? = some v → caps[i]? = some a → Rep (g1.also fun b => b = D ∨ b = D + 1) W2 v a := fun i v a e1 e2 => Rep.chg (g := g1) (w := w1) (g' := g1.also fun b => b = D ∨ b = D + 1) rfl ok2 (crep i v a e1 e2)
      have hXD : (g1.also fun b => b = D ∨ b = D + 1).X D := .inr (.inl rfl)
      have hXL : (g1.also fun b => b = D ∨ b = D + 1).X (D + 1) := .inr (.inr rfl)
      have hXX : ∀ b, g.X b → (g1.also fun b => b = D ∨ b = D + 1).X b := fun b hb => .inl (by rw [hX1]; exact hb)
      have u2 : ∀ i, ls.nx ≤ i → (g1.also fun b => b = D ∨ b = D + 1) i = .un := u1
      generalize (g1.also fun b => b = D ∨ b = D + 1) = g2 at m2 G2 f2 c2 hXD hXL hXX u2
      clear ok2
      refine ⟨D + 1, [{ target := .collected D, args := #[] }], W2, { target := .fn (.func fI) v1, args := #[.func (.yield (D + 1)) #[] #[]] }, W2, fI, #[.func (.yield (D + 1)) #[] #[]] ++ v1, W2, ?_, ?_, fun _ _ => trivial, ?_, fun h => (by cases h), ?_⟩
      · rw [← hW, ← hlD]
        exact run_enterLoop_outer _ _ _ _ _
      · simp only [resolve, hgv]
        simp [go_sem]
      · simp only [invoke]
        rw [hcI]
      · refine callsIn_wide.2 (calls_of_wp hfI hbI (Go.wp_mono (awpL_sound hT hmix cI _ _ (hI (D + 1)) (g2.at []) g2 W2 W2 _ ⟨⟨hXL, fun Q hq => by have := hnogl _ Q hq; omega, fnid, act1.tmps, D, hL2, hsz1, fun i a hi => ⟨(f2 i a hi).1, Rep.chg (g := g2) (w := W2) (g' := g2.at []) rfl (fun b hb => ⟨hb, rfl⟩) (f2 i a hi).2⟩⟩, u2⟩ ?_) ?_))
        · refine ⟨by simp; have := Nat.le_of_ble_eq_true hNI; omega, rfl, fun i a hi => ?_, m2, fun h hh => u2 h (Nat.le_trans hh (Nat.mod_le _ _)), Grow.at _ _ _⟩
          have hi : lk (numL 0 (yldT (D + 1) :: caps)) i = some a := hi
          rw [numL_lk] at hi
          simp only [Nat.zero_le, if_true, Nat.sub_zero] at hi
          have hlt : i < (yldT (D + 1) :: caps).length := (List.getElem?_eq_some_iff.1 hi).1
          have hlt2 : i < 1 + caps.length := by simp at hlt; omega
          refine ⟨by have := Nat.le_of_ble_eq_true hNI; omega, ?_⟩
          have hVs : (#[Value.func (.yield (D + 1)) #[] #[]] ++ v1).size = 1 + caps.length := by rw [Array.size_append, csz]; rfl
          have hV0 : (#[Value.func (.yield (D + 1)) #[] #[]] ++ v1)[0]? = some (Value.func (.yield (D + 1)) #[] #[]) := by rw [Array.getElem?_append_left (Nat.zero_lt_one)]; rfl
          have hVi : ∀ j, (#[Value.func (.yield (D + 1)) #[] #[]] ++ v1)[j + 1]? = v1[j]? := fun j => by rw [Array.getElem?_append_right (by show 1 ≤ j + 1; omega)]; rfl
          generalize (#[Value.func (.yield (D + 1)) #[] #[]] ++ v1) = V at hVs hV0 hVi
          have hv : V[i]? = some (V[i]'(by omega)) := by simp
          have hget : (V ++ Array.replicate (fnI.ntmps - V.size) undef).getD i undef = V[i]'(by omega) := by
            rw [Array.getD, dif_pos (by simp; omega)]
            simp [Array.getElem_append, show i < V.size by omega]
          rw [hget]
          cases i with
          | zero =>
            have : V[0]'(by omega) = Value.func (.yield (D + 1)) #[] #[] := Option.some.inj (hv.symm.trans hV0)
            rw [this]
            cases hi
            exact .tr (.v ⟨rfl, rfl⟩)
          | succ i =>
            have hi : caps[i]? = some a := hi
            exact c2 i _ a ((hVi i).symm.trans hv) hi
        · rintro e actI w3 ⟨x, sI, g3, ⟨lsI, rfl, hx, hlowI, hrest⟩, q2, q3⟩
          have Gq := q2.grow.of_at
          have hL3 := (Gq.xb _ hXL).trans hL2
          have hXL3 : g3.X (D + 1) := by rw [Gq.X]; exact hXL
          have hXD3 : g3.X D := by rw [Gq.X]; exact hXD
          have hXX3 : ∀ b, g.X b → g3.X b := fun b hb => by rw [Gq.X]; exact hXX b hb
          obtain ⟨vr, hvr, _⟩ := run_results hT (fn := fnI) q2.fr q2.mem (l := []) (by rw [hrI]; rfl)
          have hgoes : rangePost Fence.wide 0 P (D + 1) (Exit.inBlock bid (Exit.then (rest.wp P (bodyPostM Fence.wide 0 P fn fun e w' => ∃ g', Grow g w g' w' ∧ MSt g' w' (ofLO bout) ∧ Under g' bout.length ∧ (AE.ret res).is g' w' e)) (bodyPostM Fence.wide 0 P fn fun e w' => ∃ g', Grow g w g' w' ∧ MSt g' w' (ofLO bout) ∧ Under g' bout.length ∧ (AE.ret res).is g' w' e))) { act1 with defers := [{ target := .collected D, args := #[] }] ++ act1.defers } (.returned vr) w3 := by
            refine ⟨none, _, run_endLoop hL3 (by simp), ?_⟩
            generalize (Obj.loop _) = ox
            show rest.wp P _ { act1 with defers := [{ target := .collected D, args := #[] }] ++ act1.defers } (w3.putObj (D + 1) ox)
            have t4 := turn_ok (w := w3) (o := ox) hXL3
            obtain ⟨f4, m4, u4⟩ := cutd (N := fn.ntmps) (g := g3) (w := w3.putObj (D + 1) ox) (tmps := act1.tmps) hlowI (fun i a hi => ⟨(f2 i a hi).1, (((f2 i a hi).2).grow Gq).chg rfl t4⟩) (q2.mem.turn hXL3 fun Q hq => by have := hnogl _ Q hq; omega)
            have hk4 : ls.nx ≤ lsI.nx := by unfold lowS at hlowI; simp only [Bool.and_eq_true] at hlowI; exact Nat.le_of_ble_eq_true hlowI.1
            have hnX : ∀ b, D ≤ b → ¬ g.X b := fun b hb hx => by have := hxlt1 b hx; omega
            have G4 : Gx bin.length g.X g w (gcut g3 lsI.nx) (w3.putObj (D + 1) ox) :=
              ((G1.trans G2).trans (Gx.of_grow Gq hXX)).trans ((Gx.turn hXL3 (hnX _ (by omega)) hXX3).trans (Gx.cut (by omega) hXX3))
            have hK4 : (w3.putObj (D + 1) ox).heap[D]? = some (.deferred (some [])) := (World.putObj_heap_other (by omega)).trans ((Gq.xb _ hXD).trans hK2)
            refine Go.wp_mono (awpL_sound hT hmix rest _ _ hrest ((gcut g3 lsI.nx).at [{ target := .collected D, args := #[] }]) (gcut g3 lsI.nx) (w3.putObj (D + 1) ox) (w3.putObj (D + 1) ox) _ ⟨trivial, u4⟩ ⟨hsz1, by show _ ++ act1.defers = _; rw [hdf1]; rfl, f4, m4, fun h hh => u4 h (Nat.le_trans hh (Nat.mod_le _ _)), Grow.at _ _ _⟩) ?_
            rintro e act5 w5 ⟨x, s5, g5, ⟨ls5, rfl, h5⟩, p2, p3⟩
            have Gp := p2.grow.of_at
            have hXD4 : (gcut g3 lsI.nx).X D := hXD3
            have hXX4 : ∀ b, g.X b → (gcut g3 lsI.nx).X b := hXX3
            have hXD5 : g5.X D := by rw [Gp.X]; exact hXD4
            have hXX5 : ∀ b, g.X b → g5.X b := fun b hb => by rw [Gp.X]; exact hXX4 b hb
            have hK5 := (Gp.xb _ hXD4).trans hK4
            have t6 := turn_ok (w := w5) (o := .deferred none) hXD5
            have G6 : Gx bin.length g.X g w (g5.back g.X) (w5.putObj D (.deferred none)) :=
              (G4.trans (Gx.of_grow Gp hXX4)).trans ((Gx.turn hXD5 (hnX _ (Nat.le_refl _)) hXX5).trans ⟨rfl, rfl, rfl, Nat.le_refl _, back_ok hXX5, fun _ _ => rfl, fun _ h => h, fun _ _ h => h, fun _ _ _ h => .inl h, fun h b e => .inl ⟨h, e⟩⟩)
            have hst6 : St (g.at [{ target := .collected D, args := #[] }]) w fn.ntmps (g5.back g.X) act5 (w5.putObj D (.deferred none)) ls5.st :=
              ⟨p2.size, p2.defers, fun i a hi => ⟨(p2.fr i a hi).1, Rep.chg (g := g5) (g' := g5.back g.X) rfl (back_ok hXX5) (((p2.fr i a hi).2).chg rfl t6)⟩, (p2.mem.turn hXD5 fun Q hq => by have := hnogl _ Q hq; omega).back hXX5, p2.un, (G6.grow hun rfl).to_at⟩
            have p3' : AX.is (g5.back g.X) (w5.putObj D (.deferred none)) x e := by
              obtain ⟨hx, _⟩ := h5
              rcases hx with rfl | rfl <;> cases e <;> first | exact p3 | exact p3.elim
            obtain ⟨he, v, r1, r2⟩ := fin h5 hst6 p3'
            have hd5 : act5.defers = [{ target := .collected D, args := #[] }] := p2.defers
            have hL : LeavesInM Fence.wide 0 P fn act5.tmps (fun e w' => ∃ g', Grow g w g' w' ∧ MSt g' w' (ofLO bout) ∧ Under g' bout.length ∧ (AE.ret res).is g' w' e) act5.defers .returning w5 := by
              rw [hd5]
              exact ⟨by simp, .inl ⟨D, _, rfl, run_takeDeferred hK5, v, r1, r2⟩⟩
            rcases he with rfl | rfl <;> exact hL
          rcases hx with rfl | rfl
          · cases e with
            | normal => exact ⟨q2.defers, vr, hvr, hgoes⟩
            | _ => exact q3.elim
          · cases e with
            | ret => exact ⟨q2.defers, vr, hvr, hgoes⟩
            | _ => exact q3.elim
    | _ => exact h3.elim
  · intro x ls g1 e act1 w1 hne hq hst h3
    cases x with
    | normal => exact absurd rfl hne
    | ret =>
      obtain ⟨he, v, r1, r2⟩ := fin hq.2 hst h3
      have hd : act1.defers = [] := hst.defers
      have hL : LeavesInM Fence.wide 0 P fn act1.tmps (fun e w' => ∃ g', Grow g w g' w' ∧ MSt g' w' (ofLO bout) ∧ Under g' bout.length ∧ (AE.ret res).is g' w' e) act1.defers .returning w1 := by
        rw [hd]
        exact ⟨v, r1, r2⟩
      rcases he with rfl | rfl <;> exact hL
    | exit i => exact absurd hq.1 (by simp)
    | pan a => exact absurd hq.1 (by simp)
end
end Go.Proofs.YtcpolpbeimhgfaaGreatDoor.am

namespace Go.Proofs.YtcpolpbeimhgfaaGreatDoor.ws
open Go Go.RowKit

theorem dig_pos (n : Nat) : 0 < (dig n).length := by
  by_cases h : n < 10
  · rw [dig_small h]; simp
  · rw [dig_big h]; simp
theorem okV_lo (neg : Bool) : okV neg 0 = 0 := by cases neg <;> rfl
theorem pgo_dig (neg : Bool) (at_ : Nat) : ∀ (k n : Nat) (r : List UInt8), n < 10 ^ (k + 1) → n ≤ most neg → (neg = true → 0 < n) → pgo neg at_ (dig n ++ r) at_ 0 = pgo neg at_ r (at_ + (dig n).length) n
  | 0, n, r, h, hm, hn => by
    have hs : n < 10 := by simpa using h
    rw [dig_small hs]
    have hc := dch_toNat hs
    show pgo neg at_ (dch n :: r) at_ 0 = _
    rw [pgo_go (decide_eq_false ?_), hc]
    · simp
    · rw [hc]
      rintro (h | h | h | ⟨h, _, h3⟩ | h)
      · omega
      · omega
      · omega
      · have := hn h; omega
      · omega
  | k + 1, n, r, h, hm, hn => by
    by_cases hs : n < 10
    · exact pgo_dig neg at_ 0 n r (by simpa using hs) hm hn
    · rw [dig_big hs, List.append_assoc, pgo_dig neg at_ k (n / 10) _ (by rw [Nat.pow_succ] at h; omega) (by omega) (fun _ => by omega)]
      have hc := dch_toNat (d := n % 10) (by omega)
      have hp := dig_pos (n / 10)
      show pgo neg at_ (dch (n % 10) :: r) _ _ = _
      rw [pgo_go (decide_eq_false ?_), hc]
      · rw [show 10 * (n / 10) + (48 + n % 10 - 48) = n by omega]
        simp [Nat.add_assoc]
      · rw [hc]
        rintro (h | h | h | ⟨_, h, _⟩ | h)
        · omega
        · omega
        · omega
        · omega
        · omega
theorem dig_pow {n : Nat} (h : n ≤ 9223372036854775808) : n < 10 ^ (18 + 1) := Nat.lt_of_le_of_lt h (by decide)
theorem pgo_all (neg : Bool) (at_ n : Nat) (hm : n ≤ most neg) (hn : neg = true → 0 < n) : pgo neg at_ (dig n) at_ 0 = (okV neg n, 0, 0) := by
  have h := pgo_dig neg at_ 18 n [] (dig_pow (Nat.le_trans hm (most_le neg))) hm hn
  rw [List.append_nil] at h
  have := dig_pos n
  rw [h]
  unfold pgo
  rw [if_neg (by omega)]
theorem dig_head (n : Nat) : (dig n).head? ≠ some 45 := by
  suffices h : ∀ k n, n < 10 ^ (k + 1) → (dig n).head? ≠ some 45 by
    exact h n n (Nat.lt_of_lt_of_le (Nat.lt_pow_self (by decide)) (Nat.pow_le_pow_right (by decide) (by omega)))
  intro k
  induction k with
  | zero =>
    intro n h
    have hs : n < 10 := by simpa using h
    rw [dig_small hs]
    intro hc
    have e : dch n = 45 := by simpa using hc
    have := dch_toNat hs
    rw [e] at this
    have : (45 : UInt8).toNat = 45 := rfl
    omega
  | succ k ih =>
    intro n h
    by_cases hs : n < 10
    · rw [dig_small hs]
      intro hc
      have e : dch n = 45 := by simpa using hc
      have := dch_toNat hs
      rw [e] at this
      have : (45 : UInt8).toNat = 45 := rfl
      omega
    · rw [dig_big hs]
      have hp := dig_pos (n / 10)
      cases hd : dig (n / 10) with
      | nil => rw [hd] at hp; simp at hp
      | cons a l =>
        have := ih (n / 10) (by rw [Nat.pow_succ] at h; omega)
        rw [hd] at this
        exact this
theorem prs_prn {v : Int} (h1 : -9223372036854775808 ≤ v) (h2 : v ≤ 9223372036854775807) : prs (prn v) = (v, 0, 0) := by
  unfold prn
  by_cases h : v < 0
  · rw [if_pos h]
    have e : prs (45 :: dig (-v).toNat) = pgo true 1 (dig (-v).toNat) 1 0 := by simp [prs, isNeg]
    rw [e, pgo_all true 1 _ (by unfold most; simp; omega) (fun _ => by omega)]
    simp [okV]; omega
  · rw [if_neg h]
    have hd := dig_head v.toNat
    have e0 : isNeg (dig v.toNat) = false := by
      unfold isNeg
      simpa using hd
    have e : prs (dig v.toNat) = pgo false 0 (dig v.toNat) 0 0 := by simp [prs, e0]
    rw [e, pgo_all false 0 _ (by unfold most; simp; omega) (fun h => by cases h)]
    simp [okV]; omega

/-- what is read, behind a first digit -/
theorem pgo_back (neg : Bool) (at_ : Nat) : ∀ (l : List UInt8) (i n : Nat), at_ < i → n ≤ most neg →
    (∃ p : Nat, pgo neg at_ l i n = (0, 10, (p : Int)) ∧ p ≤ i + l.length) ∨ (∃ m : Nat, pgo neg at_ l i n = (okV neg m, 0, 0) ∧ dig m = dig n ++ l ∧ n ≤ m ∧ m ≤ most neg)
  | [], i, n, hi, hm => .inr ⟨n, by unfold pgo; rw [if_neg (by omega)], by simp, Nat.le_refl _, hm⟩
  | c :: r, i, n, hi, hm => by
    cases hb : bad neg at_ i n c.toNat
    · have hb' := of_decide_eq_false hb
      rw [pgo_go hb]
      have hn : n ≠ 0 := fun h => hb' (.inr (.inr (.inl ⟨hi, h⟩)))
      have h1 : ¬ c.toNat < 48 := fun h => hb' (.inl h)
      have h2 : ¬ 57 < c.toNat := fun h => hb' (.inr (.inl h))
      have h3 : ¬ most neg < 10 * n + (c.toNat - 48) := fun h => hb' (.inr (.inr (.inr (.inr h))))
      rcases pgo_back neg at_ r (i + 1) (10 * n + (c.toNat - 48)) (by omega) (by omega) with ⟨p, hp, hl⟩ | ⟨m, hp, hd, hle, hmm⟩
      · exact .inl ⟨p, hp, by simp; omega⟩
      · refine .inr ⟨m, hp, ?_, by omega, hmm⟩
        rw [hd, dig_big (by omega), List.append_assoc]
        have e1 : (10 * n + (c.toNat - 48)) / 10 = n := by omega
        have e2 : (10 * n + (c.toNat - 48)) % 10 = c.toNat - 48 := by omega
        rw [e1, e2]
        have e3 : dch (c.toNat - 48) = c := by
          apply UInt8.toNat_inj.1
          rw [dch_toNat (by omega)]; omega
        rw [e3]; rfl
    · rw [pgo_bad hb]
      exact .inl ⟨i, rfl, by simp⟩
theorem pgo_begin (neg : Bool) (at_ : Nat) (l : List UInt8) :
    (∃ p : Nat, pgo neg at_ l at_ 0 = (0, 10, (p : Int)) ∧ p ≤ at_ + l.length) ∨ (∃ m : Nat, pgo neg at_ l at_ 0 = (okV neg m, 0, 0) ∧ dig m = l ∧ (neg = true → 0 < m) ∧ m ≤ most neg) := by
  cases l with
  | nil => exact .inl ⟨at_, by unfold pgo; rw [if_pos rfl], by simp⟩
  | cons c r =>
    cases hb : bad neg at_ at_ 0 c.toNat
    · have hb' := of_decide_eq_false hb
      rw [pgo_go hb]
      have h1 : ¬ c.toNat < 48 := fun h => hb' (.inl h)
      have h2 : ¬ 57 < c.toNat := fun h => hb' (.inr (.inl h))
      have h3 : ¬ most neg < 10 * 0 + (c.toNat - 48) := fun h => hb' (.inr (.inr (.inr (.inr h))))
      have h4 : neg = true → c.toNat ≠ 48 := fun hn hc => hb' (.inr (.inr (.inr (.inl ⟨hn, rfl, hc⟩))))
      rcases pgo_back neg at_ r (at_ + 1) (10 * 0 + (c.toNat - 48)) (by omega) (by omega) with ⟨p, hp, hl⟩ | ⟨m, hp, hd, hle, hmm⟩
      · exact .inl ⟨p, hp, by simp; omega⟩
      · refine .inr ⟨m, hp, ?_, fun hn => by have := h4 hn; omega, hmm⟩
        rw [hd, dig_small (by omega)]
        have e3 : dch (10 * 0 + (c.toNat - 48)) = c := by
          apply UInt8.toNat_inj.1
          rw [dch_toNat (by omega)]; omega
        rw [e3]; rfl
    · rw [pgo_bad hb]
      exact .inl ⟨at_, rfl, by simp⟩
/-- a text is a word's own, or it is refused at a place within it -/
theorem prs_back (l : List UInt8) : (∃ p : Nat, prs l = (0, 10, (p : Int)) ∧ p ≤ l.length) ∨ (∃ v : Int, prs l = (v, 0, 0) ∧ prn v = l ∧ -9223372036854775808 ≤ v ∧ v ≤ 9223372036854775807) := by
  cases hn : isNeg l
  · have e : prs l = pgo false 0 l 0 0 := by simp [prs, hn]
    rw [e]
    rcases pgo_begin false 0 l with ⟨p, hp, hl⟩ | ⟨m, hp, hd, _, hm⟩
    · exact .inl ⟨p, hp, by omega⟩
    · have hm' : m ≤ 9223372036854775807 := hm
      refine .inr ⟨m, hp, ?_, by omega, by omega⟩
      unfold prn; rw [if_neg (by omega), ← hd]; rfl
  · obtain ⟨r, rfl⟩ : ∃ r, l = 45 :: r := by
      cases l with
      | nil => simp [isNeg] at hn
      | cons c r => exact ⟨r, by simp [isNeg] at hn; rw [hn]⟩
    have e : prs (45 :: r) = pgo true 1 r 1 0 := by simp [prs, hn]
    rw [e]
    rcases pgo_begin true 1 r with ⟨p, hp, hl⟩ | ⟨m, hp, hd, h0, hm⟩
    · exact .inl ⟨p, hp, by simp; omega⟩
    · have hm' : m ≤ 9223372036854775808 := hm
      have := h0 rfl
      refine .inr ⟨-(m : Int), hp, ?_, by omega, by omega⟩
      unfold prn; rw [if_pos (by omega), Int.neg_neg, ← hd]; rfl

end Go.Proofs.YtcpolpbeimhgfaaGreatDoor.ws

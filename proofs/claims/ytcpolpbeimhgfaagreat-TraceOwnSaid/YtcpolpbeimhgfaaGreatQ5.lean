/- The abstract machine: a range over a function, part three: a function's contract. Plain arithmetic of words: what the operators make of two words. No program. Plain law of reading and writing words. No program. -/
import Derived.Test.YtcpolpbeimhgfaaGreatQ4
import Derived.WalkKit
set_option linter.all false

namespace Go.Proofs.YtcpolpbeimhgfaaGreat.am
open Go
set_option linter.unusedSimpArgs false

/-- pieces of code, one behind the other -/
def seqs : List Code → Code → Code
  | [], d => d
  | a :: r, d => .seq a (seqs r d)
noncomputable def awpS (X : Gh → World → Prop) (P : Program) (T : Ty) (k N : Nat) (cuts : List Nat) (Q : QL) (l : List Code) : LS → Prop :=
  List.rec (motive := fun _ => LS → Prop) (fun s => Q .normal s) (fun a _ ih => fun s => awpL X P T k N cuts a (thnL ih Q) s) l
section
variable {X : Gh → World → Prop} {P : Program} {T : Ty} {k N n : Nat}
theorem awpS_sound {cuts : List Nat} (hT : TOk P T) (hmix : P.follows .mixedOrders = true) {d : Code} {Qg : Exit → Act → World → Prop} {g0 : Gh} {w0 : World} {Q : QL} (hk : X g0 w0 ∧ ∀ i, k ≤ i → g0 i = .un)
    (hn : ∀ ls g act w, Q .normal ls → St g0 w0 N g act w ls.st → d.wp P Qg act w) (hx : ∀ x ls g e act w, x ≠ .normal → Q x ls → St g0 w0 N g act w ls.st → AX.is g w x e → Qg e act w) :
    ∀ (pre : List Code) (s : LS), awpS X P T k N cuts Q pre s → ∀ g w act, St g0 w0 N g act w s.st → (seqs pre d).wp P Qg act w := by
  intro pre
  induction pre with
  | nil => intro s h g w act hs; exact hn s g act w h hs
  | cons a r ih =>
    intro s h g w act hs
    have h : awpL X P T k N cuts a (thnL (awpS X P T k N cuts Q r) Q) s := h
    refine wp_seq (Go.wp_mono (awpL_sound hT hmix a _ s h g0 g w0 w act hk hs) ?_)
    rintro e act' w' ⟨x, s', g', ⟨ls, rfl, h1⟩, h2, h3⟩
    cases x with
    | normal =>
      cases e with
      | normal => exact ih ls h1 g' w' act' h2
      | _ => exact h3.elim
    | _ => cases e <;> first | exact h3.elim | exact hx _ ls g' _ act' w' (by simp) h1 h2 h3
/-- from one moment to a later one, where more and fewer blocks are nobody's business -/
structure Gx (K : Nat) (X0 : Nat → Prop) (g : Gh) (w : World) (g' : Gh) (w' : World) : Prop where
  os : w'.os = w.os
  tape : w'.tape = w.tape
  output : w'.output = w.output
  size : w.heap.size ≤ w'.heap.size
  block : ∀ b, okB g w b → okB g' w' b ∧ w'.heap[b]? = w.heap[b]?
  xb : ∀ b, X0 b → w'.heap[b]? = w.heap[b]?
  X : ∀ b, X0 b → g'.X b
  un : ∀ h, h < K → g h ≠ .un → g' h ≠ .un
  live : ∀ h l, h < K → g' h = .live l → g h = .live l ∨ g h = .un
  new : ∀ h b, Owns g' h b → (∃ h2, Owns g h2 b) ∨ w.heap.size ≤ b
variable {K : Nat} {X0 : Nat → Prop} {g g' g'' : Gh} {w w' w'' : World}
theorem Gx.of_grow (h : Grow g w g' w') (hX : ∀ b, X0 b → g.X b) : Gx K X0 g w g' w' :=
  ⟨h.os, h.tape, h.output, h.size, fun b hb => h.ok hb, fun b hb => h.xb b (hX b hb), fun b hb => by rw [h.X]; exact hX b hb, fun x _ => h.un x, fun x l _ => h.live x l, h.new⟩
theorem Gx.trans (h : Gx K X0 g w g' w') (q : Gx K X0 g' w' g'' w'') : Gx K X0 g w g'' w'' := by
  refine ⟨q.os.trans h.os, q.tape.trans h.tape, q.output.trans h.output, Nat.le_trans h.size q.size, fun b hb => ?_, fun b hb => (q.xb b hb).trans (h.xb b hb), q.X, fun x hx e => q.un x hx (h.un x hx e), fun x l hx e => ?_, fun x b e => ?_⟩
  · obtain ⟨h1, h2⟩ := h.block b hb
    obtain ⟨h3, h4⟩ := q.block b h1
    exact ⟨h3, h4.trans h2⟩
  · rcases q.live x l hx e with e | e
    · exact h.live x l hx e
    · refine .inr ?_
      cases hg : g x with
      | un => rfl
      | dead => exact absurd e (h.un x hx (by rw [hg]; simp))
      | live l => exact absurd e (h.un x hx (by rw [hg]; simp))
  · rcases q.new x b e with ⟨h2, e3⟩ | e
    · exact h.new h2 b e3
    · exact .inr (Nat.le_trans h.size e)
theorem Gx.turn {l : Nat} {o : Obj} (hl : g.X l) (hne : ¬ X0 l) (hX : ∀ b, X0 b → g.X b) : Gx K X0 g w g (w.putObj l o) :=
  ⟨rfl, rfl, rfl, by simp, turn_ok hl, fun b hb => World.putObj_heap_other fun (h : b = l) => hne (h ▸ hb), hX, fun _ _ h => h, fun _ _ _ h => .inl h, fun h b e => .inl ⟨h, e⟩⟩
theorem Gx.cut {k : Nat} (hK : K ≤ k) (hX : ∀ b, X0 b → g.X b) : Gx K X0 g w (gcut g k) w :=
  ⟨rfl, rfl, rfl, Nat.le_refl _, fun b hb => ⟨gcut_ok hb, rfl⟩, fun _ _ => rfl, hX, fun h hh e => by rw [gcut_lt (by omega)]; exact e, fun h l hh e => by rw [gcut_lt (by omega)] at e; exact .inl e, fun h b e => .inl ⟨h, gcut_owns e⟩⟩
theorem Gx.grow (h : Gx K g.X g w g' w') (hk : ∀ i, K ≤ i → g i = .un) (hX : g'.X = g.X) : Grow g w g' w' := by
  refine ⟨h.os, h.tape, h.output, h.size, fun b hb => (h.block b hb).2, h.xb, hX, fun x hx => ?_, fun x l hx => ?_, h.new⟩
  · rcases Nat.lt_or_ge x K with q | q
    · exact h.un x q hx
    · exact absurd (hk x q) hx
  · rcases Nat.lt_or_ge x K with q | q
    · exact h.live x l q hx
    · exact .inr (hk x q)
/-- only the first handles are kept -/
theorem cutd {k0 : Nat} {tmps : Array Value} {ls : LS} (hlow : lowS k0 ls ls.nx = true) (hfr : ∀ i a, lk ls.tl i = some a → i < N ∧ Rep g w (tmps.getD i undef) a) (hm : MSt g w (lkM ls.bl)) :
    (∀ i a, lk ls.tl i = some a → i < N ∧ Rep (gcut g ls.nx) w (tmps.getD i undef) a) ∧ MSt (gcut g ls.nx) w (lkM ls.bl) ∧ ∀ i, ls.nx ≤ i → gcut g ls.nx i = .un := by
  unfold lowS at hlow
  simp only [Bool.and_eq_true, List.all_eq_true] at hlow
  replace hlow := hlow.2
  refine ⟨fun i a hi => ⟨(hfr i a hi).1, (hfr i a hi).2.low (fun b hb => gcut_ok hb) (fun i hi => gcut_lt hi) (hlow.1 _ (lk_in hi))⟩, ⟨fun h b hb => ?_, fun h h' b e1 e2 => hm.inj h h' b (gcut_owns e1) (gcut_owns e2), fun h b e1 => hm.lt h b (gcut_owns e1), hm.xlt, fun h b e1 => hm.xl h b (gcut_owns e1), fun b Q hq => ⟨⟨(hm.gl b Q hq).1.1, fun h ho => (hm.gl b Q hq).1.2 h (gcut_owns ho)⟩, (hm.gl b Q hq).2⟩⟩, fun i hi => by simp [gcut, Nat.not_lt.2 hi]⟩
  have hb2 : lk ls.bl h = some (some b) := by
    have hb' : (lk ls.bl h).join = some b := hb
    cases e : lk ls.bl h with
    | none => rw [e] at hb'; cases hb'
    | some x => rw [e] at hb'; exact congrArg some hb'
  obtain ⟨q1, q2⟩ := (by simpa using hlow.2 _ (lk_in hb2) : Nat.blt h ls.nx = true ∧ b.lowH ls.nx = true)
  obtain ⟨l, e1, e2⟩ := hm.blk h b hb
  exact ⟨l, (gcut_lt (Nat.le_of_ble_eq_true q1)).trans e1, e2.low (fun b hb => gcut_ok hb) (fun i hi => gcut_lt hi) q2⟩
/-- the loop: from the call of the iterator on, and what lies behind -/
def RangeOk (P : Program) (T : Ty) (k N : Nat) (cuts cutsI : List Nat) (gop : Operand) (ps : Array Tmp) (asg bd rest : Code) (fI NI : Nat) (cI : Code) (Q : QL) (s : LS) : Prop :=
  lowS k s s.nx = true ∧ ∃ caps, evA (lk s.tl) gop = some (.fn fI caps) ∧ Nat.ble (1 + caps.length) NI = true ∧
    ∀ l : Nat, awpL (YX ⟨N, s.tl, ps, asg, bd⟩ l) P T s.nx NI cutsI cI (fun x sI => (x = .normal ∨ x = .ret) ∧ lowS s.nx ⟨s.tl, sI.bl, sI.nx⟩ sI.nx = true ∧ awpL XT P T sI.nx N cuts rest Q ⟨s.tl, sI.bl, sI.nx⟩) ⟨numL 0 (yldT l :: caps), s.bl, s.nx⟩
def RetQ (T : Ty) (k : Nat) (rs : List ResultVar) (res : AV) (bout : List (Option Blk)) : QL := fun x s => (x = .normal ∨ x = .ret) ∧ ∃ ρ, rhoOk k ρ = true ∧ ρ.length = bout.length ∧ afinR T ρ rs (.ret res) bout x s.st
theorem Ctr.range (cuts cutsI : List Nat) (hT : TOk P T) (hmix : P.follows .mixedOrders = true) {f fI bid : Nat} {fn fnI : Func} {pre : List Code} {r7 rest cI asg bd : Code} {gop : Operand} {ps : Array Tmp}
    (hf : P.funcs[f]? = some fn) (hb : fn.body = some (seqs pre (.seq (.seq r7 (.block bid (.rangeFunc gop ps asg bd))) rest))) (hcall : Callable P f)
    (hfI : P.funcs[fI]? = some fnI) (hbI : fnI.body = some cI) (hcI : Callable P fI) (hrI : fnI.results = #[]) {args : List AV} {bin : List Blk} {res : AV} {bout : List (Option Blk)} (hN : Nat.ble args.length fn.ntmps = true)
    (h : SOk (AS.init args bin) → awpS XT P T bin.length fn.ntmps cuts (fun x s => match x with
      | .normal => awpL XT P T bin.length fn.ntmps cuts r7 (fun x s => x = .normal ∧ RangeOk P T bin.length fn.ntmps cuts cutsI gop ps asg bd rest fI fnI.ntmps cI (RetQ T bin.length fn.results.toList res bout) s) s
      | x => x = .ret ∧ RetQ T bin.length fn.results.toList res bout x s) pre (initL args bin)) : Ctr P f args bin (.ret res) bout := by
  refine ⟨hcall, fun g w vs hun hm hsz hvs => (callsIn_wide (n := 0)).1 (callsIn_of_wp_marks hf hb trivial ((wpIn_wide (n := 0)).2 ?_))⟩
  have h0 := St.enter (N := fn.ntmps) hun hm hsz hvs (Nat.le_of_ble_eq_true hN)
  have hin := initL_st args bin
  have fin : ∀ {D : List Deferred} {x : AX} {ls : LS} {g' : Gh} {e : Exit} {act' : Act} {w' : World}, RetQ T bin.length fn.results.toList res bout x ls → St (g.at D) w fn.ntmps g' act' w' ls.st → AX.is g' w' x e →
      (e = .normal ∨ e = .ret) ∧ ∃ v, (results fn act'.tmps).run P w' = .ok v w' ∧ ∃ g', Grow g w g' w' ∧ MSt g' w' (ofLO bout) ∧ Under g' bout.length ∧ (AE.ret res).is g' w' (.returned v) := by
    rintro D x ls g' e act' w' ⟨_, ρ, hρ, hρl, ha⟩ h2 h3
    obtain ⟨q1, v, q2, g'', q3, q4, q5, q6⟩ := post_ret hT (fn := fn) hun hρ hρl ha h2 h3
    exact ⟨q1, v, q2, g'', q3, q4, q5, q6⟩
  refine awpS_sound (g0 := g.at []) hT hmix ⟨trivial, hun⟩ ?_ ?_ pre (initL args bin) (h h0.ok) g w _ (by rw [hin]; exact h0)
  · intro ls g1 act1 w1 hq hst
    refine wp_seq (wp_seq (Go.wp_mono (awpL_sound hT hmix r7 _ ls hq (g.at []) g1 w w1 act1 ⟨trivial, hun⟩ hst) ?_))
    clear hq hst
    rintro e act1 w1 ⟨x, s, g1, ⟨ls, rfl, rfl, hlow, caps, hcap, hNI, hI⟩, h2, h3⟩
    cases e with
    | normal =>
      show (Code.block bid (.rangeFunc gop ps asg bd)).wp P _ act1 w1
      refine wp_block ((wpIn_wide (n := 0)).1 (wpIn_rangeFunc ?_))
      have hkk : bin.length ≤ ls.nx := by unfold lowS at hlow; simp only [Bool.and_eq_true] at hlow; exact Nat.le_of_ble_eq_true hlow.1
      obtain ⟨f1, m1, u1⟩ := cutd hlow h2.fr h2.mem
      have G1 : Gx bin.length g.X g w (gcut g1 ls.nx) w1 := (Gx.of_grow h2.grow.of_at fun _ h => h).trans (Gx.cut hkk fun b hb => by rw [h2.grow.X]; exact hb)
      have hsz1 : act1.tmps.size = fn.ntmps := h2.size
      have hdf1 : act1.defers = [] := h2.defers
      have hxlt1 : ∀ b, g.X b → b < w1.heap.size := fun b hb => h2.mem.xlt b (by rw [h2.grow.X]; exact hb)
      have hX1 : (gcut g1 ls.nx).X = g.X := h2.grow.X
      generalize gcut g1 ls.nx = g1 at f1 m1 u1 G1 hX1
      clear h2 h3
      obtain ⟨v1, v2⟩ : ∃ cs, act1.eval gop = .func (.func fI) #[] cs ∧ cs.size = caps.length ∧ ∀ (i : Nat) (v : Value) (a : AV), cs[i]? = some v → caps[i]? = some a → Rep g1 w1 v a := by
        have := evA_ok f1 _ _ hcap
        generalize act1.eval gop = v at this
        cases this with
        | fn e1 e2 => exact ⟨_, rfl, e1, e2⟩
      obtain ⟨hgv, csz, crep⟩ := v2
      intro fnid _
      generalize hlD : w1.heap.size = D at *
      have hW : ∃ W2, (w1.alloc (.deferred (some []))).alloc (.loop { state := .ready, pending := none, fn := fnid, tmps := act1.tmps, params := ps, assign := asg, body := bd, defers := D }) = W2 := ⟨_, rfl⟩
      obtain ⟨W2, hW⟩ := hW
      have hs2 : W2.heap.size = D + 2 := by rw [← hW, World.size_alloc, World.size_alloc, hlD]
      have hL2 : W2.heap[D + 1]? = some (.loop { state := .ready, pending := none, fn := fnid, tmps := act1.tmps, params := ps, assign := asg, body := bd, defers := D }) := by
        rw [← hW]
        have := World.alloc_heap_new (w1.alloc (.deferred (some []))) (.loop { state := .ready, pending := none, fn := fnid, tmps := act1.tmps, params := ps, assign := asg, body := bd, defers := D })
        rwa [World.size_alloc, hlD] at this
      have hK2 : W2.heap[D]? = some (.deferred (some [])) := by
        rw [← hW]
        have := World.alloc_heap_new w1 (.deferred (some []))
        rw [hlD] at this
        exact (Go.RowKit.Below.heap_alloc _ _ _ (by rw [World.size_alloc]; omega)).trans this
      have hold : ∀ b, b < D → W2.heap[b]? = w1.heap[b]? := fun b hb => by
        rw [← hW]
        exact (Go.RowKit.Below.heap_alloc _ _ _ (by rw [World.size_alloc]; omega)).trans (Go.RowKit.Below.heap_alloc _ _ _ (by omega))
      have ok2 : ∀ b, okB g1 w1 b → okB (g1.also fun b => b = D ∨ b = D + 1) W2 b ∧ W2.heap[b]? = w1.heap[b]? := fun b hb => by
        have hlt : b < D := by have := hb.1; omega
        exact ⟨⟨by omega, fun h => h.elim hb.2.1 (fun h => by omega), hb.2.2⟩, hold b hlt⟩
      have hnogl : ∀ b Q, glob b Q → b < D := fun b Q hq => by have := (m1.gl b Q hq).1.1; omega
      have m2 : MSt (g1.also fun b => b = D ∨ b = D + 1) W2 (lkM ls.bl) := by
        refine MSt.chg (g := g1) (g' := g1.also fun b => b = D ∨ b = D + 1) rfl rfl ok2 (fun h b e => hold b (by have := m1.lt h b e; omega)) (by omega) (fun b hb => ?_) (fun h b e hb => ?_) (fun b Q hq => hold b (hnogl b Q hq)) m1
        · rcases hb with hb | hb
          · have := m1.xlt b hb; omega
          · omega
        · have := m1.lt h b e
          exact hb.elim (m1.xl h b e) (fun h => by omega)
      have G2 : Gx bin.length g.X g1 w1 (g1.also fun b => b = D ∨ b = D + 1) W2 :=
        ⟨by rw [← hW]; rfl, by rw [← hW]; rfl, by rw [← hW]; rfl, by omega, ok2, fun b hb => hold b (by have := hxlt1 b hb; omega), fun b hb => .inl (by rw [hX1]; exact hb), fun _ _ h => h, fun _ _ _ h => .inl h, fun h b e => .inl ⟨h, e⟩⟩
      have f2 : ∀ i a, lk ls.tl i = some a → i < fn.ntmps ∧ Rep (g1.also fun b => b = D ∨ b = D + 1) W2 (act1.tmps.getD i undef) a := fun i a hi => ⟨(f1 i a hi).1, Rep.chg (g := g1) (w := w1) (g' := g1.also fun b => b = D ∨ b = D + 1) rfl ok2 (f1 i a hi).2⟩
      have c2 : ∀ (i : Nat) (v : Value) (a : AV), v1[i]? = some v → caps[i]? = some a → Rep (g1.also fun b => b = D ∨ b = D + 1) W2 v a := fun i v a e1 e2 => Rep.chg (g := g1) (w := w1) (g' := g1.also fun b => b = D ∨ b = D + 1) rfl ok2 (crep i v a e1 e2)
      have hXD : (g1.also fun b => b = D ∨ b = D + 1).X D := .inr (.inl rfl)
      have hXL : (g1.also fun b => b = D ∨ b = D + 1).X (D + 1) := .inr (.inr rfl)
      have hXX : ∀ b, g.X b → (g1.also fun b => b = D ∨ b = D + 1).X b := fun b hb => .inl (by rw [hX1]; exact hb)
      have u2 : ∀ i, ls.nx ≤ i → (g1.also fun b => b = D ∨ b = D + 1) i = .un := u1
      generalize (g1.also fun b => b = D ∨ b = D + 1) = g2 at m2 G2 f2 c2 hXD hXL hXX u2
      clear ok2
      refine ⟨D + 1, [{ target := .collected D, args := #[] }], W2, { target := .fn (.func fI) v1, args := #[.func (.yield (D + 1)) #[] #[]] }, W2, fI, #[.func (.yield (D + 1)) #[] #[]] ++ v1, W2, ?_, ?_, fun _ _ => trivial, ?_, fun h => (by cases h), ?_⟩
      · rw [← hW, ← hlD]
        exact run_enterLoop_outer _ _ _ _ _
      · simp only [resolve, hgv]
        simp [go_sem]
      · simp only [invoke]
        rw [hcI]
      · refine callsIn_wide.2 (calls_of_wp hfI hbI (Go.wp_mono (awpL_sound hT hmix cI _ _ (hI (D + 1)) (g2.at []) g2 W2 W2 _ ⟨⟨hXL, fun Q hq => by have := hnogl _ Q hq; omega, fnid, act1.tmps, D, hL2, hsz1, fun i a hi => ⟨(f2 i a hi).1, Rep.chg (g := g2) (w := W2) (g' := g2.at []) rfl (fun b hb => ⟨hb, rfl⟩) (f2 i a hi).2⟩⟩, u2⟩ ?_) ?_))
        · refine ⟨by simp; have := Nat.le_of_ble_eq_true hNI; omega, rfl, fun i a hi => ?_, m2, fun h hh => u2 h (Nat.le_trans hh (Nat.mod_le _ _)), Grow.at _ _ _⟩
          have hi : lk (numL 0 (yldT (D + 1) :: caps)) i = some a := hi
          rw [numL_lk] at hi
          simp only [Nat.zero_le, if_true, Nat.sub_zero] at hi
          have hlt : i < (yldT (D + 1) :: caps).length := (List.getElem?_eq_some_iff.1 hi).1
          have hlt2 : i < 1 + caps.length := by simp at hlt; omega
          refine ⟨by have := Nat.le_of_ble_eq_true hNI; omega, ?_⟩
          have hVs : (#[Value.func (.yield (D + 1)) #[] #[]] ++ v1).size = 1 + caps.length := by rw [Array.size_append, csz]; rfl
          have hV0 : (#[Value.func (.yield (D + 1)) #[] #[]] ++ v1)[0]? = some (Value.func (.yield (D + 1)) #[] #[]) := by rw [Array.getElem?_append_left (Nat.zero_lt_one)]; rfl
          have hVi : ∀ j, (#[Value.func (.yield (D + 1)) #[] #[]] ++ v1)[j + 1]? = v1[j]? := fun j => by rw [Array.getElem?_append_right (by show 1 ≤ j + 1; omega)]; rfl
          generalize (#[Value.func (.yield (D + 1)) #[] #[]] ++ v1) = V at hVs hV0 hVi
          have hv : V[i]? = some (V[i]'(by omega)) := by simp
          have hget : (V ++ Array.replicate (fnI.ntmps - V.size) undef).getD i undef = V[i]'(by omega) := by
            rw [Array.getD, dif_pos (by simp; omega)]
            simp [Array.getElem_append, show i < V.size by omega]
          rw [hget]
          cases i with
          | zero =>
            have : V[0]'(by omega) = Value.func (.yield (D + 1)) #[] #[] := Option.some.inj (hv.symm.trans hV0)
            rw [this]
            cases hi
            exact .tr (.v ⟨rfl, rfl⟩)
          | succ i =>
            have hi : caps[i]? = some a := hi
            exact c2 i _ a ((hVi i).symm.trans hv) hi
        · rintro e actI w3 ⟨x, sI, g3, ⟨lsI, rfl, hx, hlowI, hrest⟩, q2, q3⟩
          have Gq := q2.grow.of_at
          have hL3 := (Gq.xb _ hXL).trans hL2
          have hXL3 : g3.X (D + 1) := by rw [Gq.X]; exact hXL
          have hXD3 : g3.X D := by rw [Gq.X]; exact hXD
          have hXX3 : ∀ b, g.X b → g3.X b := fun b hb => by rw [Gq.X]; exact hXX b hb
          obtain ⟨vr, hvr, _⟩ := run_results hT (fn := fnI) q2.fr q2.mem (l := []) (by rw [hrI]; rfl)
          have hgoes : rangePost Fence.wide 0 P (D + 1) (Exit.inBlock bid (Exit.then (rest.wp P (bodyPostM Fence.wide 0 P fn fun e w' => ∃ g', Grow g w g' w' ∧ MSt g' w' (ofLO bout) ∧ Under g' bout.length ∧ (AE.ret res).is g' w' e)) (bodyPostM Fence.wide 0 P fn fun e w' => ∃ g', Grow g w g' w' ∧ MSt g' w' (ofLO bout) ∧ Under g' bout.length ∧ (AE.ret res).is g' w' e))) { act1 with defers := [{ target := .collected D, args := #[] }] ++ act1.defers } (.returned vr) w3 := by
            refine ⟨none, _, run_endLoop hL3 (by simp), ?_⟩
            generalize (Obj.loop _) = ox
            show rest.wp P _ { act1 with defers := [{ target := .collected D, args := #[] }] ++ act1.defers } (w3.putObj (D + 1) ox)
            have t4 := turn_ok (w := w3) (o := ox) hXL3
            obtain ⟨f4, m4, u4⟩ := cutd (N := fn.ntmps) (g := g3) (w := w3.putObj (D + 1) ox) (tmps := act1.tmps) hlowI (fun i a hi => ⟨(f2 i a hi).1, (((f2 i a hi).2).grow Gq).chg rfl t4⟩) (q2.mem.turn hXL3 fun Q hq => by have := hnogl _ Q hq; omega)
            have hk4 : ls.nx ≤ lsI.nx := by unfold lowS at hlowI; simp only [Bool.and_eq_true] at hlowI; exact Nat.le_of_ble_eq_true hlowI.1
            have hnX : ∀ b, D ≤ b → ¬ g.X b := fun b hb hx => by have := hxlt1 b hx; omega
            have G4 : Gx bin.length g.X g w (gcut g3 lsI.nx) (w3.putObj (D + 1) ox) :=
              ((G1.trans G2).trans (Gx.of_grow Gq hXX)).trans ((Gx.turn hXL3 (hnX _ (by omega)) hXX3).trans (Gx.cut (by omega) hXX3))
            have hK4 : (w3.putObj (D + 1) ox).heap[D]? = some (.deferred (some [])) := (World.putObj_heap_other (by omega)).trans ((Gq.xb _ hXD).trans hK2)
            refine Go.wp_mono (awpL_sound hT hmix rest _ _ hrest ((gcut g3 lsI.nx).at [{ target := .collected D, args := #[] }]) (gcut g3 lsI.nx) (w3.putObj (D + 1) ox) (w3.putObj (D + 1) ox) _ ⟨trivial, u4⟩ ⟨hsz1, by show _ ++ act1.defers = _; rw [hdf1]; rfl, f4, m4, fun h hh => u4 h (Nat.le_trans hh (Nat.mod_le _ _)), Grow.at _ _ _⟩) ?_
            rintro e act5 w5 ⟨x, s5, g5, ⟨ls5, rfl, h5⟩, p2, p3⟩
            have Gp := p2.grow.of_at
            have hXD4 : (gcut g3 lsI.nx).X D := hXD3
            have hXX4 : ∀ b, g.X b → (gcut g3 lsI.nx).X b := hXX3
            have hXD5 : g5.X D := by rw [Gp.X]; exact hXD4
            have hXX5 : ∀ b, g.X b → g5.X b := fun b hb => by rw [Gp.X]; exact hXX4 b hb
            have hK5 := (Gp.xb _ hXD4).trans hK4
            have t6 := turn_ok (w := w5) (o := .deferred none) hXD5
            have G6 : Gx bin.length g.X g w (g5.back g.X) (w5.putObj D (.deferred none)) :=
              (G4.trans (Gx.of_grow Gp hXX4)).trans ((Gx.turn hXD5 (hnX _ (Nat.le_refl _)) hXX5).trans ⟨rfl, rfl, rfl, Nat.le_refl _, back_ok hXX5, fun _ _ => rfl, fun _ h => h, fun _ _ h => h, fun _ _ _ h => .inl h, fun h b e => .inl ⟨h, e⟩⟩)
            have hst6 : St (g.at [{ target := .collected D, args := #[] }]) w fn.ntmps (g5.back g.X) act5 (w5.putObj D (.deferred none)) ls5.st :=
              ⟨p2.size, p2.defers, fun i a hi => ⟨(p2.fr i a hi).1, Rep.chg (g := g5) (g' := g5.back g.X) rfl (back_ok hXX5) (((p2.fr i a hi).2).chg rfl t6)⟩, (p2.mem.turn hXD5 fun Q hq => by have := hnogl _ Q hq; omega).back hXX5, p2.un, (G6.grow hun rfl).to_at⟩
            have p3' : AX.is (g5.back g.X) (w5.putObj D (.deferred none)) x e := by
              obtain ⟨hx, _⟩ := h5
              rcases hx with rfl | rfl <;> cases e <;> first | exact p3 | exact p3.elim
            obtain ⟨he, v, r1, r2⟩ := fin h5 hst6 p3'
            have hd5 : act5.defers = [{ target := .collected D, args := #[] }] := p2.defers
            have hL : LeavesInM Fence.wide 0 P fn act5.tmps (fun e w' => ∃ g', Grow g w g' w' ∧ MSt g' w' (ofLO bout) ∧ Under g' bout.length ∧ (AE.ret res).is g' w' e) act5.defers .returning w5 := by
              rw [hd5]
              exact ⟨by simp, .inl ⟨D, _, rfl, run_takeDeferred hK5, v, r1, r2⟩⟩
            rcases he with rfl | rfl <;> exact hL
          rcases hx with rfl | rfl
          · cases e with
            | normal => exact ⟨q2.defers, vr, hvr, hgoes⟩
            | _ => exact q3.elim
          · cases e with
            | ret => exact ⟨q2.defers, vr, hvr, hgoes⟩
            | _ => exact q3.elim
    | _ => exact h3.elim
  · intro x ls g1 e act1 w1 hne hq hst h3
    cases x with
    | normal => exact absurd rfl hne
    | ret =>
      obtain ⟨he, v, r1, r2⟩ := fin hq.2 hst h3
      have hd : act1.defers = [] := hst.defers
      have hL : LeavesInM Fence.wide 0 P fn act1.tmps (fun e w' => ∃ g', Grow g w g' w' ∧ MSt g' w' (ofLO bout) ∧ Under g' bout.length ∧ (AE.ret res).is g' w' e) act1.defers .returning w1 := by
        rw [hd]
        exact ⟨v, r1, r2⟩
      rcases he with rfl | rfl <;> exact hL
    | exit i => exact absurd hq.1 (by simp)
    | pan a => exact absurd hq.1 (by simp)
end
end Go.Proofs.YtcpolpbeimhgfaaGreat.am

namespace Go.Proofs.YtcpolpbeimhgfaaGreat.ws
open Go Go.RowKit

theorem ret_int {k : IntKind} {a b : Int} (h : a = b) : Ending.returned (.int k a) = .returned (.int k b) := by rw [h]
theorem ret_bool {a b : Bool} (h : a = b) : Ending.returned (.bool a) = .returned (.bool b) := by rw [h]
theorem ret_str {a b : ByteArray} (h : a = b) : Ending.returned (.string a) = .returned (.string b) := by rw [h]

def shN (b : Int) : Nat := (b % 64).toNat
def band (a b : Int) : Int := IntKind.i64.wrap ((BitVec.ofInt 64 a &&& BitVec.ofInt 64 b).toNat)
def bor (a b : Int) : Int := IntKind.i64.wrap ((BitVec.ofInt 64 a ||| BitVec.ofInt 64 b).toNat)
def bxor (a b : Int) : Int := IntKind.i64.wrap ((BitVec.ofInt 64 a ^^^ BitVec.ofInt 64 b).toNat)
def quo (a b : Int) : Int := if b = 0 then 0 else wrap64 (a.tdiv b)
def tr (c : Bool) : Int := if c then 1 else 0
def rem (a b : Int) : Int := if b = 0 then a else wrap64 (a - wrap64 (quo a b * b))

/-- what the operator of two with number op makes of a and b -/
def doV (op : Nat) (a b : Int) : Int :=
  match op with
  | 1 => wrap64 (a + b) | 2 => wrap64 (a - b) | 3 => wrap64 (a * b) | 4 => quo a b | 5 => rem a b
  | 6 => band a b | 7 => bor a b | 8 => bxor a b
  | 9 => wrap64 (a * 2 ^ shN b) | 10 => a / 2 ^ shN b
  | 11 => tr (a == b) | 12 => tr (a != b) | 13 => tr (decide (a < b)) | 14 => tr (decide (a ≤ b))
  | 15 => tr (decide (b < a)) | 16 => tr (decide (b ≤ a)) | _ => 0
def oneV (op : Nat) (a : Int) : Int :=
  match op with
  | 17 => wrap64 (-a) | 18 => tr (a == 0) | _ => 0

theorem and63_nat (b : Int) : (BitVec.ofInt 64 b &&& BitVec.ofInt 64 63).toNat = shN b := by
  have e : (BitVec.ofInt 64 63).toNat = 2 ^ 6 - 1 := by decide
  rw [BitVec.toNat_and, e, Nat.and_two_pow_sub_one_eq_mod, BitVec.toNat_ofInt]
  unfold shN
  omega
theorem shN_lt (b : Int) : shN b < 64 := by unfold shN; omega
theorem shN_u64 (b : Int) : shN (IntKind.u64.wrap b) = shN b := by unfold shN; rw [IntKind.wrap_u64]; omega
theorem bits_and63 (b : Int) : bits BinOp.and IntKind.u64 (IntKind.u64.wrap b) 63 = ((shN b : Nat) : Int) := by
  have h := shN_lt b
  show IntKind.u64.wrap ((BitVec.ofInt 64 (IntKind.u64.wrap b) &&& BitVec.ofInt 64 63).toNat : Nat) = _
  rw [and63_nat, shN_u64, IntKind.wrap_u64]; omega
theorem bits_and63' (b : Int) : bits BinOp.and IntKind.i64 b 63 = ((shN b : Nat) : Int) := by
  have h := shN_lt b
  show IntKind.i64.wrap ((BitVec.ofInt 64 b &&& BitVec.ofInt 64 63).toNat : Nat) = _
  rw [and63_nat, IntKind.wrap_i64]; omega
theorem bits_band (a b : Int) : bits BinOp.and IntKind.i64 a b = band a b := rfl
theorem bits_bor (a b : Int) : bits BinOp.or IntKind.i64 a b = bor a b := rfl
theorem bits_bxor (a b : Int) : bits BinOp.xor IntKind.i64 a b = bxor a b := rfl

end Go.Proofs.YtcpolpbeimhgfaaGreat.ws

namespace Go.Proofs.YtcpolpbeimhgfaaGreat.ws
open Go Go.RowKit

def most (neg : Bool) : Nat := if neg then 9223372036854775808 else 9223372036854775807
theorem most_le (neg : Bool) : most neg ≤ 9223372036854775808 := by unfold most; split <;> omega
theorem most_ge (neg : Bool) : 9223372036854775807 ≤ most neg := by unfold most; split <;> omega
def bad (neg : Bool) (at_ i n c : Nat) : Bool := decide (c < 48 ∨ 57 < c ∨ (at_ < i ∧ n = 0) ∨ (neg = true ∧ i = at_ ∧ c = 48) ∨ most neg < 10 * n + (c - 48))
def okV (neg : Bool) (n : Nat) : Int := if neg then -n else n
/-- the number that is read: its value, the error, the place -/
def pgo (neg : Bool) (at_ : Nat) : List UInt8 → Nat → Nat → Int × Int × Int
  | [], i, n => if i = at_ then (0, 10, (i : Int)) else (okV neg n, 0, 0)
  | c :: r, i, n => if bad neg at_ i n c.toNat then (0, 10, (i : Int)) else pgo neg at_ r (i + 1) (10 * n + (c.toNat - 48))
def isNeg (l : List UInt8) : Bool := l.head? == some 45
def prs (l : List UInt8) : Int × Int × Int :=
  if isNeg l then pgo true 1 (l.drop 1) 1 0 else pgo false 0 l 0 0

theorem pgo_bad {neg : Bool} {at_ i n : Nat} {c : UInt8} {r : List UInt8} (h : bad neg at_ i n c.toNat = true) : pgo neg at_ (c :: r) i n = (0, 10, (i : Int)) := by simp [pgo, h]
theorem pgo_go {neg : Bool} {at_ i n : Nat} {c : UInt8} {r : List UInt8} (h : bad neg at_ i n c.toNat = false) : pgo neg at_ (c :: r) i n = pgo neg at_ r (i + 1) (10 * n + (c.toNat - 48)) := by simp [pgo, h]
theorem drop_at (s : ByteArray) (i : Nat) (h : i < s.size) : s.data.toList.drop i = s[i] :: s.data.toList.drop (i + 1) := by
  rw [List.drop_eq_getElem_cons (by simpa using h)]; rfl
theorem drop_end (s : ByteArray) (i : Nat) (h : s.size ≤ i) : s.data.toList.drop i = [] := List.drop_of_length_le (by simpa using h)

theorem toList_data (s : ByteArray) : s.toList = s.data.toList := ByteArray.toList_eq s
theorem ne_empty {s : ByteArray} (h : 0 < s.size) : s.toList.isEmpty = false := by
  rw [toList_data]
  cases hq : s.data.toList with
  | nil => have : s.data.toList.length = s.size := by simp
           rw [hq] at this; simp at this; omega
  | cons _ _ => rfl
theorem is_empty {s : ByteArray} (h : s.size = 0) : s.toList = [] := by
  rw [toList_data]
  exact List.length_eq_zero_iff.1 (by simpa using h)
theorem head_at (s : ByteArray) (h : 0 < s.size) : s.data.toList.head? = some (s[0]'h) := by
  have := drop_at s 0 h
  rw [List.drop_zero] at this
  rw [this]; rfl
theorem prs_pos {s : ByteArray} (h : 0 < s.size) (h0 : (s[0]'h).toNat ≠ 45) : prs s.data.toList = pgo false 0 (s.data.toList.drop 0) 0 0 := by
  have e : isNeg s.data.toList = false := by
    unfold isNeg
    rw [head_at s h]
    cases hq : (some (s[0]'h) == some (45 : UInt8))
    · rfl
    · exact absurd (by rw [show s[0]'h = 45 from by simpa using hq]; rfl) h0
  simp [prs, e]
theorem prs_neg {s : ByteArray} (h : 0 < s.size) (h0 : (s[0]'h).toNat = 45) : prs s.data.toList = pgo true 1 (s.data.toList.drop 1) 1 0 := by
  have e : isNeg s.data.toList = true := by
    unfold isNeg
    rw [head_at s h, show s[0]'h = 45 from UInt8.toNat_inj.1 h0]
    rfl
  simp [prs, e]
theorem prs_none {s : ByteArray} (h : s.size = 0) : prs s.data.toList = (0, 10, 0) := by
  have : s.data.toList = [] := List.length_eq_zero_iff.1 (by simpa using h)
  rw [this]; rfl
/-- a number that is read is below its bound: what the reader's own test says -/
theorem big_iff (neg : Bool) {n d : Nat} (hn : n ≤ most neg) (hd : d ≤ 9) :
    n * 10 / 18446744073709551616 + (n * 10 % 18446744073709551616 + d) / 18446744073709551616 = 0 ∧ (n * 10 % 18446744073709551616 + d) % 18446744073709551616 ≤ most neg ↔ 10 * n + d ≤ most neg := by
  have := most_le neg
  omega

/-- a digit's letter -/
def dch (d : Nat) : UInt8 := UInt8.ofNat (48 + d)
theorem dch_toNat {d : Nat} (h : d < 10) : (dch d).toNat = 48 + d := by unfold dch; rw [UInt8.toNat_ofNat']; omega
/-- the digits of a number -/
def dig (n : Nat) : List UInt8 := if n < 10 then [dch n] else dig (n / 10) ++ [dch (n % 10)]
  termination_by n
  decreasing_by omega
theorem dig_small {n : Nat} (h : n < 10) : dig n = [dch n] := by rw [dig, if_pos h]
theorem dig_big {n : Nat} (h : ¬ n < 10) : dig n = dig (n / 10) ++ [dch (n % 10)] := by rw [dig, if_neg h]
theorem dig_len : ∀ (k n : Nat), n < 10 ^ (k + 1) → (dig n).length ≤ k + 1
  | 0, n, h => by rw [dig_small (by simpa using h)]; simp
  | k + 1, n, h => by
    by_cases hn : n < 10
    · rw [dig_small hn]; simp
    · rw [dig_big hn]
      have := dig_len k (n / 10) (by rw [Nat.pow_succ] at h; omega)
      simp; omega
theorem dig_len64 {n : Nat} (h : n < 18446744073709551616) : (dig n).length ≤ 20 :=
  dig_len 19 n (Nat.lt_trans h (by decide))
def prn (w : Int) : List UInt8 := if w < 0 then 45 :: dig (-w).toNat else dig w.toNat

end Go.Proofs.YtcpolpbeimhgfaaGreat.ws

/- The abstract machine: a function that puts off one call of a closure, which may recover. The abstract machine: a function that puts off one call of a closure: its contract. The abstract machine: what a row reads of its arguments are trees. -/
import Derived.Recover
import Derived.Test.YtbpcbhmdjphodaaA3
import Derived.ProofKit
import Derived.OpenShut
import Derived.Carry
set_option linter.all false

namespace Go.Proofs.Ytbpcbhmdjphodaa.am
open Go
set_option linter.unusedSimpArgs false
/-- what the closure's recover gives, and the mode of the frame below -/
def Raised (b : Bool) (v : Value) (u : FrameMode) : Prop := match b with
  | false => v = .nilIface ∧ u = .returning
  | true => u = .panicking [{ v, recovered := false }]
def Quiet : AE := .ret (.tup [])
/-- a contract of a closure that is put off -/
structure CtrD (P : Program) (d : Nat) (b : Bool) (args : List AV) (pv : AV) (bin : List Blk) (bout : List (Option Blk)) : Prop where
  callable : Callable P d
  run : ∀ (g : Gh) (w : World) (vs : Array Value) (v : Value) (u : FrameMode), (∀ h, bin.length ≤ h → g h = .un) → MSt g w (ofL bin) → vs.size = args.length → (∀ (i : Nat) (v : Value) (a : AV), vs[i]? = some v → args[i]? = some a → Rep g w v a) → Rep g w v pv → Raised b v u →
    CallsD P d vs u w fun e u' w' => settle u' = .returning ∧ ∃ g', Grow g w g' w' ∧ MSt g' w' (ofLO bout) ∧ Under g' bout.length ∧ Quiet.is g' w' e
section
variable {P : Program} {T : Ty}
theorem post_ret (hT : TOk P T) {fn : Func} {k N : Nat} {g : Gh} {w : World} {D : List Deferred} {a : AV} {bout : List (Option Blk)} {x : AX} {s : AS} {g' : Gh} {e : Exit} {act' : Act} {w' : World} {ρ : List Nat} (hun : ∀ h, k ≤ h → g h = .un) (hρ : rhoOk k ρ = true) (hρl : ρ.length = bout.length)
    (h1 : afinR T ρ fn.results.toList (.ret a) bout x s) (h2 : St (g.at D) w N g' act' w' s) (h3 : x.is g' w' e) :
    (e = .normal ∨ e = .ret) ∧ ∃ v, (results fn act'.tmps).run P w' = .ok v w' ∧ ∃ g', Grow g w g' w' ∧ MSt g' w' (ofLO bout) ∧ Under g' bout.length ∧ Rep g' w' v a := by
  have under : Under (gsub g' ρ [] g'.X) bout.length := fun i hi l hl => by
    have : ρ[i]? = none := List.getElem?_eq_none (by omega)
    simp [gsub, this, has] at hl
  have hsub : SubOk g' w' ρ (fun h => !has ρ h) g'.X := by
    refine ⟨fun b hb => hb.2.1, fun i l b _ e1 e2 => h2.mem.xl i l b e1 e2, fun i hi hm => ?_⟩
    simp only [Bool.not_eq_true'] at hi
    rw [has_iff.2 hm] at hi; cases hi
  have fin : (match resAll T s fn.results.toList with | some l => cv s.m ρ [] (fun h => !has ρ h) (resAV l) a | none => False) ∧ cvO s.m ρ (fun h => !has ρ h) 0 bout →
      ∃ v, (results fn act'.tmps).run P w' = .ok v w' ∧ ∃ g', Grow g w g' w' ∧ MSt g' w' (ofLO bout) ∧ Under g' bout.length ∧ Rep g' w' v a := by
    rintro ⟨h4, h5⟩
    split at h4
    case h_2 => exact h4.elim
    rename_i l hl
    obtain ⟨v, r1, r2⟩ := run_results hT (fn := fn) h2.fr h2.mem hl
    have hst := (range_sub hρ h5).st (g0 := g.at D) hun h2
    exact ⟨v, r1, _, hst.grow.of_at, hst.mem, under, cv_rep hsub h2.mem r2 h4⟩
  cases x with
  | normal => cases e with
    | normal => exact ⟨.inl rfl, fin h1⟩
    | _ => exact h3.elim
  | ret => cases e with
    | ret => exact ⟨.inr rfl, fin h1⟩
    | _ => exact h3.elim
  | exit i => exact h1.elim
  | pan a => exact h1.elim
/-- a call's beginning -/
theorem St.enter {g : Gh} {w : World} {vs : Array Value} {args : List AV} {bin : List Blk} {N : Nat} (hun : ∀ h, bin.length ≤ h → g h = .un) (hm : MSt g w (ofL bin)) (hsz : vs.size = args.length) (hvs : ∀ (i : Nat) (v : Value) (a : AV), vs[i]? = some v → args[i]? = some a → Rep g w v a) (hN : args.length ≤ N) :
    St (g.at []) w N g { tmps := vs ++ Array.replicate (N - vs.size) undef, defers := [] } w (AS.init args bin) := by
  refine ⟨by simp; omega, rfl, fun i a hi => ?_, hm, hun, Grow.at _ _ _⟩
  have hi' : args[i]? = some a := hi
  have hlt : i < args.length := (List.getElem?_eq_some_iff.1 hi').1
  refine ⟨by omega, ?_⟩
  have hv : vs[i]? = some vs[i] := by simp [show i < vs.size by omega]
  have : (vs ++ Array.replicate (N - vs.size) undef).getD i undef = vs[i] := by
    rw [Array.getD, dif_pos (by simp; omega)]
    simp [Array.getElem_append, show i < vs.size by omega]
  rw [this]
  exact hvs i vs[i] a hv hi'
theorem raised_rec {b : Bool} {v : Value} {u : FrameMode} (h : Raised b v u) (c₀ : Frame) (cs : List Frame) (hu : c₀.mode = u) :
    ∃ u', settle u' = .returning ∧ ((recoverD (c₀ :: cs) = some (v, { c₀ with mode := u' } :: cs)) ∨ (recoverD (c₀ :: cs) = none ∧ v = .nilIface ∧ u' = u)) := by
  cases b with
  | false =>
    obtain ⟨h1, h2⟩ := h
    refine ⟨u, by rw [h2]; rfl, .inr ⟨?_, h1, rfl⟩⟩
    rw [h2] at hu
    simp [recoverD, hu]
  | true =>
    have h : u = .panicking [{ v, recovered := false }] := h
    rw [h] at hu
    refine ⟨.panicking [{ v, recovered := true }], by simp [settle], .inl ?_⟩
    simp [recoverD, hu]
theorem beq_swap (a b : Nat) : Nat.beq a b = Nat.beq b a := by
  by_cases h : a = b
  · subst h; rfl
  · rw [beq_ne h, beq_ne (Ne.symm h)]
/-- a closure that begins with x := recover() -/
theorem CtrD.of (hT : TOk P T) (hmix : P.follows .mixedOrders = true) {d : Nat} {fn : Func} {id : Nat} {o1 o2 : Oper} {rest : Code} {ai bi : Nat} (hf : P.funcs[d]? = some fn) (hb : fn.body = some (.seq (.region id #[o1, o2] false) rest)) (hcall : Callable P d)
    (ho1 : o1.op = .call { callee := .builtin .recover, args := #[], argTypes := #[] }) (hd1 : o1.dst = some ai) (hg1 : o1.guard = none) (ho2 : o2.op = .assign (.tmp ai)) (hd2 : o2.dst = some bi) (hg2 : o2.guard = none)
    {b : Bool} {args : List AV} {pv : AV} {bin : List Blk} {bout : List (Option Blk)} (hN : (Nat.ble args.length fn.ntmps && Nat.blt ai fn.ntmps && Nat.blt bi fn.ntmps) = true) (hpv : b = false → pv = .tr (.v .nilIface)) (cuts : List Nat)
    (h : awpL P T bin.length fn.ntmps cuts rest (fun x s => afin T bin.length fn.results.toList Quiet bout x s.st) ⟨(bi, pv) :: (ai, pv) :: numL 0 args, numB 0 bin, bin.length⟩) (hbo : Nat.beq bout.length bin.length = true := by rfl) : CtrD P d b args pv bin bout := by
  refine ⟨hcall, fun g w vs v u hun hm hsz hvs hv hr => callsD_of_wpS hf hb fun c₀ cs hu => wpS_seq (wpS_region ?_)⟩
  simp only [Bool.and_eq_true] at hN
  obtain ⟨⟨hN1, hN2⟩, hN3⟩ := hN
  have hN1 := Nat.le_of_ble_eq_true hN1
  have hN2 : ai < fn.ntmps := Nat.le_of_ble_eq_true hN2
  have hN3 : bi < fn.ntmps := Nat.le_of_ble_eq_true hN3
  obtain ⟨u', hu', hrec⟩ := raised_rec hr c₀ cs hu
  have h0 := St.enter (N := fn.ntmps) hun hm hsz hvs hN1
  generalize hact : ({ tmps := vs ++ Array.replicate (fn.ntmps - vs.size) undef, defers := [] } : Act) = act at h0
  have e1 : (execOp act.eval o1).run P w = .ok .recover w := by simp [execOp, ho1, resolve, invoke, builtin]
  have p1 := put_ok (dst := some ai) (t := (AS.init args bin).t) (v := v) (a := pv) h0.size h0.fr (Grow.refl g w) (by unfold dstOk; exact Nat.ble_eq_true_of_le hN2) hv
  have p2 := put_ok (dst := some bi) (v := v) (a := pv) p1.1 p1.2 (Grow.refl g w) (by unfold dstOk; exact Nat.ble_eq_true_of_le hN3) hv
  have hev : (act.put (some ai) v).eval (.tmp ai) = v := by
    show (act.tmps.setIfInBounds ai v).getD ai undef = v
    rw [getD_set (by rw [h0.size]; exact hN2), if_pos rfl]
  have e2 : (execOp (act.put (some ai) v).eval o2).run P w = .ok (.value v) w := by simp [execOp, ho2, hev]
  have w1 : Region.wanted o1 (yielded #[o1, o2] act.tmps) = true := by simp [Region.wanted, hg1]
  have w2 : ∀ t, Region.wanted o2 (yielded #[o1, o2] t) = true := fun t => by simp [Region.wanted, hg2]
  have key : ∀ cs', (∃ u', settle u' = .returning ∧ cs' = { c₀ with mode := u' } :: cs) → wpOpsS P #[o1, o2] (Exit.thenS (rest.wpS P (bodyPostS P fn c₀ cs fun e u' w' => settle u' = .returning ∧ ∃ g', Grow g w g' w' ∧ MSt g' w' (ofLO bout) ∧ Under g' bout.length ∧ Quiet.is g' w' e)) (bodyPostS P fn c₀ cs fun e u' w' => settle u' = .returning ∧ ∃ g', Grow g w g' w' ∧ MSt g' w' (ofLO bout) ∧ Under g' bout.length ∧ Quiet.is g' w' e)) [1] (act.put (some ai) v) cs' w := by
    rintro _ ⟨u2, hu2, rfl⟩
    have hg : (#[o1, o2] : Array Oper)[1]? = some o2 := rfl
    unfold wpOpsS
    rw [hg]
    simp only [w2, if_true, e2]
    rw [Oper.upon_value, hd2]
    unfold wpOpsS
    show rest.wpS P _ ((act.put (some ai) v).put (some bi) v) _ w
    have hst : St (g.at []) w fn.ntmps g ((act.put (some ai) v).put (some bi) v) w (⟨(bi, pv) :: (ai, pv) :: numL 0 args, numB 0 bin, bin.length⟩ : LS).st := by
      refine ⟨p2.1, h0.defers, fun i a hi => p2.2 i a ?_, ?_, hun, Grow.at _ _ _⟩
      · show (bif Nat.beq i bi then some pv else bif Nat.beq i ai then some pv else args[i]?) = some a
        have hi : lk ((bi, pv) :: (ai, pv) :: numL 0 args) i = some a := hi
        rw [lk_cons, lk_cons, numL_lk] at hi
        simp only [Nat.zero_le, if_true, Nat.sub_zero] at hi
        rw [beq_swap i bi, beq_swap i ai]
        exact hi
      · have : (⟨(bi, pv) :: (ai, pv) :: numL 0 args, numB 0 bin, bin.length⟩ : LS).st.m = ofL bin := by
          funext i; exact (numB_lk bin 0 i).trans (by simp [ofL])
        rw [this]; exact hm
    refine wpS_of_wp (Go.wp_mono (awpL_sound hT hmix rest _ _ h (g.at []) g w w _ hun hst) ?_)
    rintro e act' w' ⟨x, s, g', ⟨ls, rfl, h1⟩, h2, h3⟩
    obtain ⟨he, v', r1, r2⟩ := post_ret hT (fn := fn) hun (rho_range _) (by rw [List.length_range]; exact (Nat.eq_of_beq_eq_true hbo).symm) h1 h2 h3
    rcases he with rfl | rfl <;> exact ⟨h2.defers, u2, rfl, v', r1, hu2, r2⟩
  have hg : (#[o1, o2] : Array Oper)[0]? = some o1 := rfl
  show wpOpsS P #[o1, o2] _ [0, 1] act (c₀ :: cs) w
  unfold wpOpsS
  rw [hg]
  simp only [w1, if_true, e1, hd1]
  rcases hrec with hrec | ⟨hrec, hv0, hue⟩
  · rw [hrec]
    exact key _ ⟨u', hu', rfl⟩
  · rw [hrec, ← hv0]
    refine key _ ⟨u, by rw [← hue]; exact hu', ?_⟩
    rw [← hu]
end
end Go.Proofs.Ytbpcbhmdjphodaa.am

namespace Go.Proofs.Ytbpcbhmdjphodaa.am
open Go
set_option linter.unusedSimpArgs false
/-- the call that was put off, and the function's end behind it -/
def Dend (P : Program) (T : Ty) (k d : Nat) (b : Bool) (cl : List AV) (pv : AV) (rs : List ResultVar) (res : AV) (bout : List (Option Blk)) (s : LS) : Prop :=
  ∃ (ρ sn : List Nat) (as : List AV) (apv : AV) (bin' : List Blk) (bout' : List (Option Blk)), CallFit s.st.m s.nx (cl ++ [pv]) ρ ρ sn (as ++ [apv]) bin' Quiet bout' ∧ CtrD P d b as apv bin' bout' ∧
    ∃ ρ', rhoOk k ρ' = true ∧ ρ'.length = bout.length ∧ afinR T ρ' rs (.ret res) bout .ret ⟨s.st.t, updM s.st.m (callUp ρ sn Quiet bout'), s.nx + 1⟩
def Gfin (P : Program) (T : Ty) (k d : Nat) (cl : List AV) (rs : List ResultVar) (res : AV) (bout : List (Option Blk)) : QL
  | .normal, s | .ret, s => Dend P T k d false cl (.tr (.v .nilIface)) rs res bout s
  | .pan a, s => Dend P T k d true cl a rs res bout s
  | .exit _, _ => False
section
variable {P : Program} {T : Ty}
theorem dend_ok (hT : TOk P T) {fn : Func} {k d N : Nat} {b : Bool} {cl : List AV} {pv : AV} {res : AV} {bout : List (Option Blk)} {s : LS} (h : Dend P T k d b cl pv fn.results.toList res bout s)
    {g g1 g' : Gh} {w w1 w' : World} {D : List Deferred} {act' : Act} {cs : Array Value} {v : Value} {u : FrameMode} (hun : ∀ h, k ≤ h → g h = .un) (hG : Grow g w g1 w1) (h2 : St (g1.at D) w1 N g' act' w' s.st)
    (hsz : cs.size = cl.length) (hcs : ∀ (i : Nat) (v : Value) (a : AV), cs[i]? = some v → cl[i]? = some a → Rep g' w' v a) (hv : Rep g' w' v pv) (hr : Raised b v u) :
    Leaves P fn act'.tmps (fun e w' => ∃ g', Grow g w g' w' ∧ MSt g' w' (ofLO bout) ∧ Under g' bout.length ∧ (AE.ret res).is g' w' e) [{ target := .fn (.func d) cs, args := #[] }] u w' := by
  obtain ⟨ρ, sn, as, apv, bin', bout', hfit, hc, ρ', hρ, hρl, hfin⟩ := h
  have hne : u ≠ .run := by
    cases b with
    | false => rw [hr.2]; simp
    | true => rw [show u = .panicking [{ v, recovered := false }] from hr]; simp
  refine leaves_cons hne (f := d) (args := cs) ?_ ?_
  · simp only [invoke]
    rw [hc.callable]
    simp
  have hlen : cl.length = as.length := by
    have := (cvL_get hfit.args).1
    simp at this; exact this
  have := acall_core hfit (Run := fun R => CallsD P d cs u w' fun e u' w'' => settle u' = .returning ∧ R e w'') (fun R R' h1 h2 => h1.mono fun e u' w'' q => ⟨q.1, h2 e w'' q.2⟩) g' w' s.st.m (cs.push v)
    (fun gc hunc hmc hl hvs => by
      refine hc.run gc w' cs v u hunc hmc (by simp at hl; exact hl) (fun i x a e1 e2 => ?_) ?_ hr
      · have hi : i < cs.size := (Array.getElem?_eq_some_iff.1 e1).1
        refine hvs i x a ?_ ?_
        · rw [Array.getElem?_push, if_neg (by omega)]; exact e1
        · rw [List.getElem?_append_left (by omega)]; exact e2
      · refine hvs cs.size v apv (by simp) ?_
        rw [List.getElem?_append_right (by omega), show cs.size - as.length = 0 by omega]; rfl)
    h2.mem (h2.un _ (Nat.le_refl _)) (fun p hp => (rdOf_ok p hp).1) (by simp; omega) (fun i x a e1 e2 => by
      by_cases hi : i < cs.size
      · rw [Array.getElem?_push, if_neg (by omega)] at e1
        rw [List.getElem?_append_left (by omega)] at e2
        exact hcs i x a e1 e2
      · have hi2 := (Array.getElem?_eq_some_iff.1 e1).1
        simp at hi2
        have hi3 : i = cs.size := by omega
        subst hi3
        rw [Array.getElem?_push, if_pos rfl] at e1
        rw [List.getElem?_append_right (by omega), show cs.size - cl.length = 0 by omega] at e2
        cases e1; cases e2
        exact hv)
  refine this.mono fun e u' w'' hq => ?_
  obtain ⟨hset, gn, q1, q2, q3, q4⟩ := hq
  cases e with
  | returned v' =>
    show Leaves P fn act'.tmps _ [] (settle u') w''
    rw [hset]
    have hst : St (g.at D) w N gn act' w'' ⟨s.st.t, updM s.st.m (callUp ρ sn Quiet bout'), s.nx + 1⟩ :=
      ⟨h2.size, h2.defers, fun i a hi => ⟨(h2.fr i a hi).1, ((h2.fr i a hi).2).grow q3⟩, q2, fun h hh => q4 h (by show h ≠ s.nx; have : s.nx + 1 ≤ h := hh; omega) (h2.un h (by show s.nx ≤ h; have : s.nx + 1 ≤ h := hh; omega)), ((hG.trans h2.grow.of_at).trans q3).to_at⟩
    obtain ⟨_, v2, r1, r2⟩ := post_ret hT (fn := fn) (x := .ret) (e := .ret) hun hρ hρl hfin hst trivial
    exact ⟨v2, r1, r2⟩
  | panicked ch => exact q1.elim
  | outgrown => exact q1.elim
theorem evs_get {g : Gh} {w : World} {ev : Operand → Option AV} {ρ : Operand → Value} (hev : ∀ x b, ev x = some b → Rep g w (ρ x) b) {co : Array Operand} {cl : List AV} (h : evs ev co.toList = some cl) :
    (co.map ρ).size = cl.length ∧ ∀ (i : Nat) (v : Value) (a : AV), (co.map ρ)[i]? = some v → cl[i]? = some a → Rep g w v a := by
  obtain ⟨e1, e2⟩ := evs_ok hev _ _ h
  exact ⟨by simpa using e1, fun i v a q1 q2 => e2 i v a (by simpa using q1) q2⟩
/-- a function's contract, that puts off a call of a closure behind its first region -/
theorem Ctr.guard (cuts : List Nat) (hT : TOk P T) (hmix : P.follows .mixedOrders = true) {f d t i0 i1 : Nat} {fn : Func} {ops0 : Array Oper} {o1 o2 : Oper} {c : Code} {co : Array Operand} (hf : P.funcs[f]? = some fn)
    (hb : fn.body = some (.seq (.region i0 ops0 false) (.seq (.region i1 #[o1, o2] false) c))) (hcall : Callable P f)
    (ho1 : o1.op = .makeFunc (.func d) #[] co) (hd1 : o1.dst = some t) (hg1 : o1.guard = none) (ho2 : o2.op = .defer { callee := .value (.tmp t), args := #[], argTypes := #[] }) (hd2 : o2.dst = none) (hg2 : o2.guard = none)
    {args : List AV} {bin : List Blk} {res : AV} {bout : List (Option Blk)} (hN : (Nat.ble args.length fn.ntmps && Nat.blt t fn.ntmps) = true)
    (h : SOk (AS.init args bin) → awpL P T bin.length fn.ntmps cuts (.region i0 ops0 false) (fun x s => x = .normal ∧ ∃ cl, evs (evA s.st.t) co.toList = some cl ∧
      awpL P T s.nx fn.ntmps cuts c (Gfin P T bin.length d cl fn.results.toList res bout) ⟨(t, .fn d cl) :: s.tl, s.bl, s.nx⟩) (initL args bin)) : Ctr P f args bin (.ret res) bout := by
  refine ⟨hcall, fun g w vs hun hm hsz hvs => calls_of_wp_defers hf hb (wp_seq ?_)⟩
  simp only [Bool.and_eq_true] at hN
  have hN1 := Nat.le_of_ble_eq_true hN.1
  have hN2 : t < fn.ntmps := Nat.le_of_ble_eq_true hN.2
  have h0 := St.enter (N := fn.ntmps) hun hm hsz hvs hN1
  have hok : SOk (AS.init args bin) := h0.ok
  have hw := awpL_sound hT hmix _ _ _ (h hok)
  rw [initL_st] at hw
  refine Go.wp_mono (hw (g.at []) g w w _ hun h0) ?_
  rintro e act1 w1 ⟨x, s, g1, ⟨ls, rfl, rfl, cl, hcl, h1⟩, h2, h3⟩
  cases e with
  | normal =>
    show (Code.seq (.region i1 #[o1, o2] false) c).wp P _ act1 w1
    refine wp_seq (wp_region_list ?_)
    obtain ⟨v1, v2⟩ := evs_get (evA_ok h2.fr) hcl
    generalize hcs : co.map act1.eval = cs at v1 v2
    have e1 : (execOp act1.eval o1).run P w1 = .ok (.value (.func (.func d) #[] cs)) w1 := by
      rw [← hcs]
      simp [execOp, ho1, Instr.makeFunc]
    have w1' : Region.wanted o1 (yielded #[o1, o2] act1.tmps) = true := by simp [Region.wanted, hg1]
    have w2 : ∀ t, Region.wanted o2 (yielded #[o1, o2] t) = true := fun t => by simp [Region.wanted, hg2]
    have hfn : Rep g1 w1 (.func (.func d) #[] cs) (.fn d cl) := .fn v1 v2
    have p1 := put_ok (dst := some t) (v := .func (.func d) #[] cs) (a := .fn d cl) h2.size h2.fr (Grow.refl g1 w1) (by unfold dstOk; exact Nat.ble_eq_true_of_le hN2) hfn
    have hev : (act1.put (some t) (.func (.func d) #[] cs)).eval (.tmp t) = .func (.func d) #[] cs := by
      show (act1.tmps.setIfInBounds t _).getD t undef = _
      rw [getD_set (by rw [h2.size]; exact hN2), if_pos rfl]
    have e2 : (execOp (act1.put (some t) (.func (.func d) #[] cs)).eval o2).run P w1 = .ok (.defer { target := .fn (.func d) cs, args := #[] }) w1 := by
      simp [execOp, ho2, resolve, Deferred.ofValue, hev]
    show wpList P #[o1, o2] _ [o1, o2] act1 w1
    unfold wpList
    rw [if_pos w1']
    refine .inl ?_
    unfold Oper.wp
    rw [e1, Oper.upon_value, hd1]
    unfold wpList
    rw [if_pos (w2 _)]
    refine .inl ?_
    unfold Oper.wp
    rw [e2, Oper.upon_defer, hd2]
    unfold wpList
    show c.wp P _ { act1.put (some t) (.func (.func d) #[] cs) with defers := { target := .fn (.func d) cs, args := #[] } :: act1.defers } w1
    have hdf : act1.defers = [] := h2.defers
    rw [hdf]
    have hst : St (g1.at [{ target := .fn (.func d) cs, args := #[] }]) w1 fn.ntmps g1 { act1.put (some t) (.func (.func d) #[] cs) with defers := [{ target := .fn (.func d) cs, args := #[] }] } w1 (⟨(t, .fn d cl) :: ls.tl, ls.bl, ls.nx⟩ : LS).st := by
      refine ⟨p1.1, rfl, fun i a hi => p1.2 i a ?_, h2.mem, h2.un, Grow.at _ _ _⟩
      show (bif Nat.beq i t then some (AV.fn d cl) else lk ls.tl i) = some a
      have hi : lk ((t, AV.fn d cl) :: ls.tl) i = some a := hi
      rw [lk_cons] at hi
      rw [beq_swap i t]
      exact hi
    refine Go.wp_mono (awpL_sound hT hmix c _ _ h1 (g1.at [{ target := .fn (.func d) cs, args := #[] }]) g1 w1 w1 _ (fun i hi => h2.un i hi) hst) ?_
    rintro e act' w' ⟨x, s', g', ⟨ls', rfl, h4⟩, h5, h6⟩
    have hG : Grow g w g1 w1 := h2.grow.of_at
    have hcs' : ∀ (i : Nat) (v : Value) (a : AV), cs[i]? = some v → cl[i]? = some a → Rep g' w' v a := fun i v a q1 q2 => (v2 i v a q1 q2).grow h5.grow.of_at
    have hdf' : act'.defers = [{ target := .fn (.func d) cs, args := #[] }] := h5.defers
    have hnil : Rep g' w' .nilIface (.tr (.v .nilIface)) := .tr (.v trivial)
    cases x with
    | normal => cases e with
      | normal =>
        show Leaves P fn act'.tmps _ act'.defers .returning w'
        rw [hdf']
        exact dend_ok hT h4 hun hG h5 v1 hcs' hnil ⟨rfl, rfl⟩
      | _ => exact h6.elim
    | ret => cases e with
      | ret =>
        show Leaves P fn act'.tmps _ act'.defers .returning w'
        rw [hdf']
        exact dend_ok hT h4 hun hG h5 v1 hcs' hnil ⟨rfl, rfl⟩
      | _ => exact h6.elim
    | exit i => exact h4.elim
    | pan a => cases e with
      | panic ch =>
        obtain ⟨v, rfl, hv⟩ := h6
        show Leaves P fn act'.tmps _ act'.defers (.panicking [{ v, recovered := false }]) w'
        rw [hdf']
        exact dend_ok hT h4 hun hG h5 v1 hcs' hv rfl
      | _ => exact h6.elim
  | _ => exact h3.elim
theorem Dend.by {k d : Nat} {b : Bool} {cl : List AV} {pv : AV} {rs : List ResultVar} {res : AV} {bout : List (Option Blk)} {s : LS} (ρ sn : List Nat) {as : List AV} {apv : AV} {bin' : List Blk} {bout' : List (Option Blk)} (hc : CtrD P d b as apv bin' bout')
    (h1 : decide ρ.Nodup = true) (h2 : Nat.beq ρ.length bin'.length = true) (h3 : Nat.beq bout'.length bin'.length = true) (h4 : boutOk ρ.length bout' = true) (h5 : cvL s.st.m ρ [] (seenS ρ sn) (cl ++ [pv]) (as ++ [apv]))
    (h6 : cvO s.st.m ρ (seenS ρ sn) 0 (bin'.map some)) (h7 : (ρ ++ sn).all (fun k => (s.st.m k).isSome) = true) (ρ' : List Nat) (h9 : rhoOk k ρ' = true) (h10 : Nat.beq ρ'.length bout.length = true)
    (h : afinR T ρ' rs (.ret res) bout .ret ⟨s.st.t, updM s.st.m (callUp ρ sn Quiet bout'), s.nx + 1⟩) : Dend P T k d b cl pv rs res bout s := by
  refine ⟨ρ, sn, as, apv, bin', bout', ⟨of_decide_eq_true h1, Nat.eq_of_beq_eq_true h2, .inl rfl, (Nat.eq_of_beq_eq_true h3).trans (Nat.eq_of_beq_eq_true h2).symm, h4, h5, ?_, fun k hk => ?_, rfl⟩, hc, ρ', h9, Nat.eq_of_beq_eq_true h10, h⟩
  · have := cvO_ok h6
    have e : ofLO (bin'.map some) = ofL bin' := by
      funext i
      unfold ofLO ofL
      rw [List.getElem?_map]
      cases bin'[i]? <;> rfl
    rw [e] at this
    exact this
  · exact Option.isSome_iff_exists.1 (List.all_eq_true.1 h7 k hk)
end
end Go.Proofs.Ytbpcbhmdjphodaa.am

namespace Go.Proofs.Ytbpcbhmdjphodaa.am
open Go Go.RowKit Go.ChangeShapes Go.WideShapes Go.ChangeAt
set_option linter.unusedSimpArgs false

mutual
/-- trees of a type's cells -/
inductive Fits (P : Program) : Nat → List Tr → Prop
  | bool {t : Nat} (b : Bool) : P.underlying t = some .bool → Fits P t [.v (.bool b)]
  | int {t : Nat} {k : IntKind} (n : Int) : P.underlying t = some (.int k) → Fits P t [.v (.int k n)]
  | str {t : Nat} (s : ByteArray) : P.underlying t = some .string → Fits P t [.v (.string s)]
  | slice {t e : Nat} (rows : List (List Tr)) : P.underlying t = some (.slice e) → FitsR P e rows → Fits P t [.lst (P.cellsOf e) (P.bytesOf e) rows]
  | struct {t : Nat} {fs : Array Field} (l : List Tr) : P.underlying t = some (.struct fs) → FitsL P (fs.toList.map (·.type)) l → Fits P t l
inductive FitsR (P : Program) : Nat → List (List Tr) → Prop
  | nil {e : Nat} : FitsR P e []
  | cons {e : Nat} {r : List Tr} {rows : List (List Tr)} : Fits P e r → FitsR P e rows → FitsR P e (r :: rows)
inductive FitsL (P : Program) : List Nat → List Tr → Prop
  | nil : FitsL P [] []
  | cons {t : Nat} {ts : List Nat} {a b : List Tr} : Fits P t a → FitsL P ts b → FitsL P (t :: ts) (a ++ b)
end
/-- fields without gaps -/
def layB (P : Program) : List Field → Nat → Nat → Bool
  | [], o, n => Nat.beq o n
  | f :: fs, o, n => Nat.beq f.offset o && layB P fs (o + P.cellsOf f.type) n
/-- types that are made of numbers, truths, texts, slices and structs alone -/
def closedB (P : Program) (S : List Nat) : Bool := S.all fun t => Nat.blt 0 (P.cellsOf t) && match P.underlying t with
  | some .bool | some (.int _) | some .string => Nat.beq (P.cellsOf t) 1
  | some (.slice e) => Nat.beq (P.cellsOf t) 1 && S.contains e
  | some (.struct fs) => layB P fs.toList 0 (P.cellsOf t) && fs.toList.all fun f => S.contains f.type
  | _ => false

section
variable {P : Program} {H : Type} {enc : TypeId × Value → H} {w : World} {ok : Nat → Prop}
theorem lit_good {k : IntKind} {n : Int} (h : (Lit.int k n).wf = true) : good (.int k n) := by
  simpa [Lit.wf, good] using h
def RepL (ok : Nat → Prop) (w : World) (cs : List Value) (trs : List Tr) : Prop := cs.length = trs.length ∧ ∀ (i : Nat) (c : Value) (t : Tr), cs[i]? = some c → trs[i]? = some t → RepT ok w c t
theorem RepL.one {c : Value} {t : Tr} (h : RepT ok w c t) : RepL ok w [c] [t] := ⟨rfl, fun i c' t' h1 h2 => by
  cases i with
  | zero => simp at h1 h2; subst h1; subst h2; exact h
  | succ i => simp at h1⟩
theorem RepL.append {a b : List Value} {x y : List Tr} (h1 : RepL ok w a x) (h2 : RepL ok w b y) : RepL ok w (a ++ b) (x ++ y) := by
  refine ⟨by simp [h1.1, h2.1], fun i c t e1 e2 => ?_⟩
  by_cases hi : i < a.length
  · rw [List.getElem?_append_left hi] at e1
    rw [List.getElem?_append_left (by rw [← h1.1]; exact hi)] at e2
    exact h1.2 i c t e1 e2
  · rw [List.getElem?_append_right (by omega)] at e1
    rw [List.getElem?_append_right (by rw [← h1.1]; omega), ← h1.1] at e2
    exact h2.2 _ c t e1 e2
theorem all_app {l l' : List Nat} (h : (l ++ l').all (· ≤ reachBytes) = true) : l.all (· ≤ reachBytes) = true ∧ l'.all (· ≤ reachBytes) = true := by
  rw [List.all_append, Bool.and_eq_true] at h; exact h
theorem lit_reach : reachBytes = 140737488351232 := by decide
/-- the fields of a struct -/
theorem read_fields {S : List Nat} {fuel : Nat} (ih : ∀ t cs d ps, t ∈ S → DataW.trod enc P w 0 (fun _ => true) true fuel t cs = some (d, ps) → (d.weights P t).all (· ≤ reachBytes) = true → (∀ x ∈ ps, x.block < w.heap.size) → ∃ trs, Fits P t trs ∧ RepL ok w cs trs) (cs : List Value) :
    ∀ (fs : List Field) (xs : List (DataW H × List MemPlace)) (o n : Nat), cs.length = n → xs.length = fs.length → layB P fs o n = true → (∀ f ∈ fs, f.type ∈ S) → o ≤ n →
    (∀ (i : Nat) (f : Field), fs[i]? = some f → DataW.trod enc P w 0 (fun _ => true) true fuel f.type ((cs.drop f.offset).take (P.cellsOf f.type)) = xs[i]?) →
    (DataW.weightsEach P (fs.map (·.type)) (xs.map (·.1))).all (· ≤ reachBytes) = true → (∀ x ∈ xs.flatMap (·.2), x.block < w.heap.size) → ∃ trs, FitsL P (fs.map (·.type)) trs ∧ RepL ok w (cs.drop o) trs := by
  intro fs
  induction fs with
  | nil =>
    intro xs o n hn hx hl _ _ _ _ _
    have : o = n := Nat.eq_of_beq_eq_true hl
    refine ⟨[], .nil, ?_⟩
    rw [List.drop_of_length_le (by omega)]
    exact ⟨rfl, fun i c t h => by simp at h⟩
  | cons f fs ihf =>
    intro xs o n hn hx hl hS ho hf hw hp
    cases xs with
    | nil => simp at hx
    | cons x xs =>
      unfold layB at hl
      simp only [Bool.and_eq_true] at hl
      have hfo : f.offset = o := Nat.eq_of_beq_eq_true hl.1
      have h0 := hf 0 f rfl
      simp only [List.getElem?_cons_zero] at h0
      obtain ⟨hw1, hw2⟩ := all_app (by simpa [DataW.weightsEach] using hw : (x.1.weights P f.type ++ DataW.weightsEach P (fs.map (·.type)) (xs.map (·.1))).all (· ≤ reachBytes) = true)
      have hle : o + P.cellsOf f.type ≤ n := by
        have key : ∀ (fs : List Field) (a : Nat), layB P fs a n = true → a ≤ n := by
          intro fs
          induction fs with
          | nil => intro a h; have : a = n := Nat.eq_of_beq_eq_true h; omega
          | cons g gs ihg => intro a h; unfold layB at h; simp only [Bool.and_eq_true] at h; have := ihg _ h.2; omega
        exact key fs _ hl.2
      obtain ⟨t1, q1, q2⟩ := ih f.type _ x.1 x.2 (hS f (by simp)) (by rw [h0]) hw1 (fun y hy => hp y (by simp [hy]))
      obtain ⟨t2, q3, q4⟩ := ihf xs (o + P.cellsOf f.type) n hn (by simpa using hx) hl.2 (fun g hg => hS g (by simp [hg])) hle (fun i g hg => by have := hf (i + 1) g (by simpa using hg); simpa using this) hw2 (fun y hy => hp y (by simp at hy ⊢; exact .inr hy))
      refine ⟨t1 ++ t2, .cons q1 q3, ?_⟩
      have : cs.drop o = (cs.drop f.offset).take (P.cellsOf f.type) ++ cs.drop (o + P.cellsOf f.type) := by
        rw [hfo, ← List.drop_drop, List.take_append_drop]
      rw [this]
      exact q2.append q4
theorem fitsR_map {e : Nat} {rows : List (List Tr)} (h : ∀ r ∈ rows, Fits P e r) : FitsR P e rows := by
  induction rows with
  | nil => exact .nil
  | cons r rows ih => exact .cons (h r (by simp)) (ih fun r hr => h r (by simp [hr]))
theorem weights_mem {e : Nat} {l : List (DataW H)} (h : (DataW.weightsAll P e l).all (· ≤ reachBytes) = true) : ∀ d ∈ l, (d.weights P e).all (· ≤ reachBytes) = true := by
  induction l with
  | nil => intro d hd; simp at hd
  | cons x l ih =>
    unfold DataW.weightsAll at h
    obtain ⟨h1, h2⟩ := all_app h
    intro d hd
    simp only [List.mem_cons] at hd
    rcases hd with rfl | hd
    · exact h1
    · exact ih h2 d hd
theorem read {S : List Nat} (hS : closedB P S = true) (hok : ∀ b, b < w.heap.size → ok b) : ∀ (fuel : Nat) (t : Nat) (cs : List Value) (d : DataW H) (ps : List MemPlace), t ∈ S → DataW.trod enc P w 0 (fun _ => true) true fuel t cs = some (d, ps) →
    (d.weights P t).all (· ≤ reachBytes) = true → (∀ x ∈ ps, x.block < w.heap.size) → ∃ trs, Fits P t trs ∧ RepL ok w cs trs := by
  intro fuel
  induction fuel with
  | zero => intro t cs d ps _ h; simp [DataW.trod] at h
  | succ fuel ih =>
    intro t cs d ps ht h hw hp
    have hc := List.all_eq_true.1 hS t ht
    simp only [Bool.and_eq_true] at hc
    obtain ⟨hpos, hc⟩ := hc
    cases hu : P.underlying t with
    | none => rw [hu] at hc; cases hc
    | some u =>
      rw [hu] at hc
      cases u with
      | bool =>
        obtain ⟨b, rfl, _⟩ := DataW.trod_bool hu h
        exact ⟨_, .bool b hu, .one (.v trivial)⟩
      | int k =>
        obtain ⟨n, rfl, _, hwf⟩ := DataW.trod_int hu h
        exact ⟨_, .int n hu, .one (.v (lit_good hwf))⟩
      | string =>
        obtain ⟨s, rfl, _, hs⟩ := DataW.trod_string hu h
        exact ⟨_, .str s hu, .one (.v (by unfold maxLen at hs; exact hs))⟩
      | slice e =>
        simp only [Bool.and_eq_true] at hc
        have he : e ∈ S := List.contains_iff_mem.1 hc.2
        have hce := List.all_eq_true.1 hS e he
        simp only [Bool.and_eq_true] at hce
        have hcp : 0 < P.cellsOf e := Nat.le_of_ble_eq_true hce.1
        rcases DataW.trod_slice hu h with ⟨rfl, _⟩ | ⟨a, len, cap, elems, rest, n, hn, rfl, hx, _, h1, h2, h3, h4, h5, _⟩
        · exact ⟨_, .slice [] hu .nil, .one (RepT.nil _ _ (.v ⟨rfl, rfl, rfl⟩))⟩
        · obtain rfl : n = fuel := by omega
          simp only [Prod.mk.injEq] at hx
          obtain ⟨rfl, rfl⟩ := hx
          obtain ⟨h6, _⟩ := h5 rfl
          unfold DataW.weights at hw
          rw [hu] at hw
          simp only [List.all_cons, Bool.and_eq_true, List.length_map] at hw
          obtain ⟨hw0, hw1⟩ := hw
          obtain ⟨hw1, _⟩ := all_app hw1
          have hw0 := of_decide_eq_true hw0
          rw [lit_reach] at hw0
          have hcb : cap * P.bytesOf e ≤ 140737488351232 := by rw [h3, h6] at hw0; rw [show len + (cap - len) = cap by omega] at hw0; exact hw0
          -- each element
          have each : ∀ i, i < len → ∃ cs' trs, w.cells? 0 (a.add (i * P.cellsOf e)) (P.cellsOf e) = some cs' ∧ Fits P e trs ∧ RepL ok w cs' trs := by
            intro i hi
            have q := h4 i hi
            have hx' : elems[i]? = some (elems[i]'(by omega)) := by simp [h3, hi]
            rw [hx'] at q
            obtain ⟨cs', q1, q2⟩ := Option.bind_eq_some_iff.1 q
            obtain ⟨trs, q3, q4⟩ := ih e cs' (elems[i]'(by omega)).1 (elems[i]'(by omega)).2 he q2 (weights_mem hw1 _ (List.mem_map.2 ⟨_, List.getElem_mem _, rfl⟩)) (fun x hx => hp x (by
              refine List.mem_append_right _ (List.mem_flatMap.2 ⟨elems[i]'(by omega), List.mem_append_left _ (List.getElem_mem _), hx⟩)))
            exact ⟨cs', trs, q1, q3, q4⟩
          -- all of them
          have all : ∀ m, m ≤ len → ∃ (rows : List (List Tr)) (css : List (List Value)), rows.length = m ∧ css.length = m ∧ (∀ i, i < m → ∃ cs' trs, css[i]? = some cs' ∧ rows[i]? = some trs ∧ w.cells? 0 (a.add (i * P.cellsOf e)) (P.cellsOf e) = some cs' ∧ Fits P e trs ∧ RepL ok w cs' trs) := by
            intro m
            induction m with
            | zero => intro _; exact ⟨[], [], rfl, rfl, fun i hi => by omega⟩
            | succ m ihm =>
              intro hm
              obtain ⟨rows, css, q1, q2, q3⟩ := ihm (by omega)
              obtain ⟨cs', trs, q4, q5, q6⟩ := each m (by omega)
              refine ⟨rows ++ [trs], css ++ [cs'], by simp [q1], by simp [q2], fun i hi => ?_⟩
              by_cases hlt : i < m
              · obtain ⟨c1, t1, w1, w2, w3⟩ := q3 i hlt
                exact ⟨c1, t1, by rw [List.getElem?_append_left (by omega)]; exact w1, by rw [List.getElem?_append_left (by omega)]; exact w2, w3⟩
              · obtain rfl : i = m := by omega
                exact ⟨cs', trs, by rw [List.getElem?_append_right (by omega)]; simp [q2], by rw [List.getElem?_append_right (by omega)]; simp [q1], q4, q5, q6⟩
          obtain ⟨rows, css, r1, r2, r3⟩ := all len (Nat.le_refl _)
          refine ⟨_, .slice rows hu (fitsR_map fun r hr => ?_), .one ?_⟩
          · obtain ⟨i, hi⟩ := List.mem_iff_getElem?.1 hr
            obtain ⟨_, _, _, w2, _, w4, _⟩ := r3 i (by have := (List.getElem?_eq_some_iff.1 hi).1; omega)
            rw [hi] at w2; cases w2; exact w4
          · refine .lst (fun i j => ((css.getD i []).getD j default)) r1.symm h1 (by unfold maxLen at h2; exact h2) (Nat.le_trans (Nat.mul_le_mul_right _ h1) hcb) (fun h => by cases h) (fun i row hr => ?_) (fun i row j t hr hj => ?_)
            · have hi : i < len := by have := (List.getElem?_eq_some_iff.1 hr).1; omega
              obtain ⟨cs', trs, w1, w2, w3, w4, w5⟩ := r3 i hi
              rw [hr] at w2; cases w2
              have hsp : a.spot = none := by
                obtain ⟨cs0, _, _, _, z3, _, _⟩ := r3 0 (by omega)
                obtain ⟨_, c2, c3⟩ := World.cells?_some z3
                have := c3 0 hcp
                rw [List.getElem?_eq_getElem (by omega)] at this
                have := World.cell?_spot this
                simpa [Addr.add] using this
              obtain ⟨c1, c2, c3⟩ := World.cells?_some w3
              refine ⟨by rw [← w5.1]; exact c2, a.block, a.off, ?_, ?_, fun j hj => ?_⟩
              · obtain ⟨x, y, z⟩ := a; simp only at hsp; rw [hsp]
              · refine hok _ ?_
                have := c3 0 hcp
                rw [List.getElem?_eq_getElem (by omega)] at this
                have hb := World.cells?_block w3 hcp
                simp only [Addr.add] at hb
                split at hb <;> exact hb
              · have q := c3 j hj
                have hadd : (a.add (i * P.cellsOf e)).add j = ⟨a.block, a.off + i * P.cellsOf e + j, none⟩ := by
                  obtain ⟨x, y, z⟩ := a
                  simp only at hsp
                  subst hsp
                  unfold Addr.add
                  by_cases h1 : i * P.cellsOf e = 0
                  · rw [if_pos h1]
                    by_cases h2 : j = 0
                    · simp [h1, h2]
                    · simp [h1, h2]
                  · rw [if_neg h1]
                    by_cases h2 : j = 0
                    · simp [h2]
                    · simp [h2]
                rw [hadd] at q
                rw [q, List.getElem?_eq_getElem (by omega)]
                simp [w1, c2, hj, List.getD]
            · have hi : i < len := by have := (List.getElem?_eq_some_iff.1 hr).1; omega
              obtain ⟨cs', trs, w1, w2, w3, w4, w5⟩ := r3 i hi
              rw [hr] at w2; cases w2
              have hjl : j < cs'.length := by rw [w5.1]; exact (List.getElem?_eq_some_iff.1 hj).1
              have := w5.2 j (cs'[j]) t (by simp [hjl]) hj
              simpa [w1, List.getD, hjl] using this
      | struct fs =>
        simp only [Bool.and_eq_true] at hc
        obtain ⟨xs, n, hn, hx, hl, hlen, hf⟩ := DataW.trod_struct hu h
        obtain rfl : n = fuel := by omega
        simp only [Prod.mk.injEq] at hx
        obtain ⟨rfl, rfl⟩ := hx
        unfold DataW.weights at hw
        rw [hu] at hw
        obtain ⟨trs, q1, q2⟩ := read_fields (S := S) (fun t cs d ps a b c e => ih t cs d ps a b c e) cs fs.toList xs 0 (P.cellsOf t) hl (by simpa using hlen) hc.1 (fun f hf => List.contains_iff_mem.1 (List.all_eq_true.1 hc.2 f hf)) (Nat.zero_le _) (fun i f h => hf i f (by simpa using h)) hw hp
        exact ⟨trs, .struct trs hu q1, by simpa using q2⟩
      | _ => cases hc
end
end Go.Proofs.Ytbpcbhmdjphodaa.am

/- The abstract machine over states that stand as lists: its values are reckoned at once, so terms stay small. The abstract machine: calls in full. The abstract machine: a function that puts off one call of a closure, which may recover. The abstract machine: a function that puts off one call of a closure: its contract. The abstract machine: what a row reads of its arguments are trees. -/
import Derived.Test.YtbpcbhmdjphodaaGreatZ3
import Derived.Recover
import Derived.ProofKit
import Derived.OpenShut
import Derived.Carry
set_option linter.all false

namespace Go.Proofs.YtbpcbhmdjphodaaGreat.am
open Go
set_option linter.unusedSimpArgs false

structure LS where
  tl : List (Nat × AV)
  bl : List (Nat × Option Blk)
  nx : Nat
def lkM (bl : List (Nat × Option Blk)) : Mem := fun h => (lk bl h).join
def LS.st (s : LS) : AS := ⟨lk s.tl, lkM s.bl, s.nx⟩

/-! reckon, then go on -/
def fV (x : Value) (K : Value → Prop) : Prop := match x with
  | .int k n => K (.int k n)
  | .bool b => K (.bool b)
  | .string s => K (.string s)
  | x => K x
theorem fV_eq (x : Value) (K : Value → Prop) : fV x K = K x := by cases x <;> rfl
def fTr (t : Tr) (K : Tr → Prop) : Prop := match t with
  | .v x => fV x fun x => K (.v x)
  | .lst n B rows => K (.lst n B rows)
theorem fTr_eq (t : Tr) (K : Tr → Prop) : fTr t K = K t := by
  cases t with
  | v x => exact fV_eq x fun x => K (.v x)
  | lst n B rows => rfl
def fA1 (a : AV) (K : AV → Prop) : Prop := match a with
  | .tr t => fTr t fun t => K (.tr t)
  | a => K a
theorem fA1_eq (a : AV) (K : AV → Prop) : fA1 a K = K a := by
  cases a with
  | tr t => exact fTr_eq t fun t => K (.tr t)
  | _ => rfl
def fL : List AV → (List AV → Prop) → Prop
  | [], K => K []
  | a :: l, K => fL l fun l => fA1 a fun a => K (a :: l)
theorem fL_eq : ∀ (l : List AV) (K : List AV → Prop), fL l K = K l
  | [], K => rfl
  | a :: l, K => by unfold fL; rw [fL_eq l, fA1_eq]
def fA (a : AV) (K : AV → Prop) : Prop := match a with
  | .tr t => fTr t fun t => K (.tr t)
  | .agg l => fL l fun l => K (.agg l)
  | .tup l => fL l fun l => K (.tup l)
  | a => K a
theorem fA_eq (a : AV) (K : AV → Prop) : fA a K = K a := by
  cases a with
  | tr t => exact fTr_eq t fun t => K (.tr t)
  | agg l => exact fL_eq l fun l => K (.agg l)
  | tup l => exact fL_eq l fun l => K (.tup l)
  | _ => rfl
def fB (b : Option Blk) (K : Option Blk → Prop) : Prop := match b with
  | none => K none
  | some (.cells t l) => fL l fun l => K (some (.cells t l))
  | some b => K (some b)
theorem fB_eq (b : Option Blk) (K : Option Blk → Prop) : fB b K = K b := by
  rcases b with _ | b
  · rfl
  · cases b with
    | cells t l => exact fL_eq l fun l => K (some (.cells t l))
    | _ => rfl
def fN (n : Nat) (K : Nat → Prop) : Prop := match n with
  | 0 => K 0
  | k + 1 => K (k + 1)
theorem fN_eq (n : Nat) (K : Nat → Prop) : fN n K = K n := by cases n <;> rfl
def putL (tl : List (Nat × AV)) (dst : Option Nat) (a : AV) (K : List (Nat × AV) → Prop) : Prop := match dst with
  | some d => fA a fun a => K ((d, a) :: tl)
  | none => K tl
def putLs (tl : List (Nat × AV)) (dst : Option Nat) (a : AV) : List (Nat × AV) := match dst with
  | some d => (d, a) :: tl
  | none => tl
theorem putL_eq (tl : List (Nat × AV)) (dst : Option Nat) (a : AV) (K : List (Nat × AV) → Prop) : putL tl dst a K = K (putLs tl dst a) := by
  cases dst with
  | none => rfl
  | some d => exact fA_eq a fun a => K ((d, a) :: tl)
theorem beq_comm' (a b : Nat) : Nat.beq a b = Nat.beq b a := by
  cases h : Nat.beq a b with
  | true => rw [Nat.eq_of_beq_eq_true h, Nat.beq_refl]
  | false => cases h' : Nat.beq b a with
    | false => rfl
    | true => rw [Nat.eq_of_beq_eq_true h', Nat.beq_refl] at h; cases h
theorem putLs_lk (tl : List (Nat × AV)) (dst : Option Nat) (a : AV) : lk (putLs tl dst a) = putA (lk tl) dst a := by
  cases dst with
  | none => rfl
  | some d => funext i; show (bif Nat.beq d i then some a else lk tl i) = _; rw [beq_comm']; rfl
def putM : List (Nat × Option Blk) → List (Nat × Option Blk) → (List (Nat × Option Blk) → Prop) → Prop
  | [], bl, K => K bl
  | (h, b) :: r, bl, K => putM r bl fun bl => fB b fun b => K ((h, b) :: bl)
theorem putM_eq : ∀ (up bl : List (Nat × Option Blk)) (K : List (Nat × Option Blk) → Prop), putM up bl K = K (up ++ bl)
  | [], bl, K => rfl
  | (h, b) :: r, bl, K => by unfold putM; rw [putM_eq r, fB_eq]; rfl
theorem lk_app2 {α : Type} : ∀ (l r : List (Nat × α)) (h : Nat), lk (l ++ r) h = match lk l h with | some x => some x | none => lk r h
  | [], r, h => rfl
  | (k, x) :: l, r, h => by
      show (bif Nat.beq k h then some x else lk (l ++ r) h) = _
      rw [lk_app2 l r h, lk_cons]
      cases Nat.beq k h <;> rfl
theorem lkM_append (up bl : List (Nat × Option Blk)) : lkM (up ++ bl) = updM (lkM bl) up := by
  funext h
  unfold lkM updM
  rw [lk_app2]
  cases lk up h <;> rfl

def knowL (ops : Array Oper) (tl : List (Nat × AV)) (j : Nat) (b : Bool) : List (Nat × AV) := match ops[j]? with | some o => (match o.dst with | some d => (d, .tr (.v (.bool b))) :: tl | none => tl) | none => tl
theorem knowL_lk (ops : Array Oper) (tl : List (Nat × AV)) (j : Nat) (b : Bool) : lk (knowL ops tl j b) = gknow ops (lk tl) j b := by
  unfold knowL gknow
  cases ops[j]? with
  | none => rfl
  | some o => cases hd : o.dst with
    | none => simp only [hd]
    | some d => simp only [hd]; exact putLs_lk tl (some d) _
def fLt (l : List (Nat × AV)) (K : List (Nat × AV) → Prop) : Prop := match l with
  | [] => K []
  | p :: r => K (p :: r)
theorem fLt_eq (l : List (Nat × AV)) (K : List (Nat × AV) → Prop) : fLt l K = K l := by cases l <;> rfl
abbrev QL := AX → LS → Prop
abbrev RL := Nat → List (Nat × AV) → List (Nat × Option Blk) → Prop
/-- one operation, then the rest -/
def aopL (P : Program) (T : Ty) (N : Nat) (ops : Array Oper) (nh : Nat) (Q : QL) (o : Oper) (rest : RL) : RL := fun i tl bl =>
  bif dstOk N o.dst then
      (match o.guard with
      | none => astep P T true o (nh + i) (evA (lk tl)) (lkM bl) (fun a _ up => putL tl o.dst a fun tl => putM up bl fun bl => rest (i + 1) tl bl) (fun a _ up => putM up bl fun bl => Q (.pan a) ⟨tl, bl, nh + i + 1⟩)
      | some (j, want) => match gval ops (lk tl) j with
        | some .und => putL tl o.dst .und fun tl => rest (i + 1) tl bl
        | some (.tr (.v (.bool y))) => cond y
            (fLt (knowL ops tl j true) fun tl => gdo want (astep P T true o (nh + i) (evA (lk tl)) (lkM bl) (fun a _ up => putL tl o.dst a fun tl => putM up bl fun bl => rest (i + 1) tl bl) (fun a _ up => putM up bl fun bl => Q (.pan a) ⟨tl, bl, nh + i + 1⟩))
              (putL tl o.dst .und fun tl => rest (i + 1) tl bl))
            (fLt (knowL ops tl j false) fun tl => gdo (!want) (astep P T true o (nh + i) (evA (lk tl)) (lkM bl) (fun a _ up => putL tl o.dst a fun tl => putM up bl fun bl => rest (i + 1) tl bl) (fun a _ up => putM up bl fun bl => Q (.pan a) ⟨tl, bl, nh + i + 1⟩))
              (putL tl o.dst .und fun tl => rest (i + 1) tl bl))
        | _ => False) else False
noncomputable def aopsL (P : Program) (T : Ty) (N : Nat) (ops : Array Oper) (nh : Nat) (Q : QL) (l : List Oper) : RL :=
  List.rec (motive := fun _ => RL) (fun i tl bl => fN (nh + i) fun n => Q .normal ⟨tl, bl, n⟩) (fun o _ ih => aopL P T N ops nh Q o ih) l
theorem aopsL_nil (P : Program) (T : Ty) (N : Nat) (ops : Array Oper) (nh : Nat) (Q : QL) (i : Nat) (tl : List (Nat × AV)) (bl : List (Nat × Option Blk)) : aopsL P T N ops nh Q [] i tl bl = fN (nh + i) fun n => Q .normal ⟨tl, bl, n⟩ := rfl
theorem aopsL_cons (P : Program) (T : Ty) (N : Nat) (ops : Array Oper) (nh : Nat) (Q : QL) (o : Oper) (l : List Oper) (i : Nat) (tl : List (Nat × AV)) (bl : List (Nat × Option Blk)) : aopsL P T N ops nh Q (o :: l) i tl bl = aopL P T N ops nh Q o (aopsL P T N ops nh Q l) i tl bl := rfl
/-- what a state of lists says of one of functions -/
def Ql (Q : QL) : AX → AS → Prop := fun x s => ∃ l : LS, l.st = s ∧ Q x l
section
variable {P : Program} {T : Ty} {k N : Nat} {ops : Array Oper} {g0 : Gh} {w0 : World}
theorem aopsL_sound (hT : TOk P T) (nh : Nat) (Q : QL) : ∀ (l : List Oper) (i : Nat) (tl : List (Nat × AV)) (bl : List (Nat × Option Blk)) (g : Gh) (act : Act) (w : World), nh + (i + l.length) ≤ HMod → aopsL P T N ops nh Q l i tl bl → StR g0 w0 N (nh + i) g act w (lk tl) (lkM bl) → wpList P ops (Post g0 w0 N (Ql Q)) l act w := by
  intro l
  induction l with
  | nil =>
    intro i tl bl g act w _ h hs
    rw [aopsL_nil, fN_eq] at h
    exact ⟨.normal, _, g, ⟨_, rfl, h⟩, ⟨hs.size, hs.defers, hs.fr, hs.mem, hs.un, hs.grow⟩, trivial⟩
  | cons o r ih =>
    intro i tl bl g act w hb h hs
    rw [List.length_cons] at hb
    have hnb : nh + i < HMod := by omega
    rw [aopsL_cons] at h
    unfold aopL at h
    cases hd : dstOk N o.dst with
    | false => rw [hd] at h; exact h.elim
    | true =>
    rw [hd, cond_true] at h
    simp only [putL_eq, putM_eq, fLt_eq] at h
    have run : ∀ (tl : List (Nat × AV)), (∀ i a, lk tl i = some a → i < N ∧ Rep g w (act.tmps.getD i undef) a) → astep P T true o (nh + i) (evA (lk tl)) (lkM bl) (fun a _ up => aopsL P T N ops nh Q r (i + 1) (putLs tl o.dst a) (up ++ bl)) (fun a _ up => Q (.pan a) ⟨tl, up ++ bl, nh + i + 1⟩) → o.wp P act w (wpList P ops (Post g0 w0 N (Ql Q)) r) (Post g0 w0 N (Ql Q)) := by
      intro tl hf h
      rcases astep_ok hnb hT h with ⟨a, rd, up, hK, hru, hw⟩ | ⟨a, rd, up, hK, hru, hw⟩
      · refine hw g w (lkM bl) act _ _ hs.mem (fun k hk => hs.un k (Nat.le_of_eq hk.symm)) hru.1 (evA_ok hf) (fun _ v w' g' e1 e2 e3 e4 => ?_) (fun h => by cases h)
        obtain ⟨p1, p2⟩ := put_ok (dst := o.dst) hs.size hf e3 hd e1
        refine ih (i + 1) (putLs tl o.dst a) (up ++ bl) g' _ w' (by omega) (hK fun _ => ⟨g', w', v, e1⟩) ⟨p1, (put_defers ..).trans hs.defers, ?_, ?_, fun h hh => e4 h (by omega) (hs.un h (by omega)), hs.grow.trans e3⟩
        · rw [putLs_lk]; exact p2
        · rw [lkM_append]; exact e2
      · refine hw g w (lkM bl) act _ _ hs.mem (fun k hk => hs.un k (Nat.le_of_eq hk.symm)) hru.1 (evA_ok hf) (fun h => by cases h) (fun _ v w' g' e1 e2 e3 e4 => ?_)
        exact ⟨.pan a, _, g', ⟨_, rfl, hK fun _ => ⟨g', w', v, e1⟩⟩, ⟨hs.size, hs.defers, fun i b hb => ⟨(hf i b hb).1, ((hf i b hb).2).grow e3⟩, by show MSt g' w' (lkM (up ++ bl)); rw [lkM_append]; exact e2, fun h (hh : nh + i + 1 ≤ h % HMod) => e4 h (by omega) (hs.un h (by omega)), hs.grow.trans e3⟩, v, rfl, e1⟩
    have skip : ∀ (tl : List (Nat × AV)), (∀ i a, lk tl i = some a → i < N ∧ Rep g w (act.tmps.getD i undef) a) → aopsL P T N ops nh Q r (i + 1) (putLs tl o.dst .und) bl → wpList P ops (Post g0 w0 N (Ql Q)) r (act.put o.dst undef) w := by
      intro tl hf h
      obtain ⟨p1, p2⟩ := put_ok (dst := o.dst) (v := undef) (a := .und) hs.size hf (Grow.refl g w) hd .und
      refine ih (i + 1) (putLs tl o.dst .und) bl g _ w (by omega) h ⟨p1, (put_defers ..).trans hs.defers, ?_, hs.mem, fun h hh => hs.un h (by omega), hs.grow⟩
      rw [putLs_lk]; exact p2
    unfold wpList
    split at h
    · rename_i hg
      rw [if_pos (by simp [Region.wanted, hg])]
      exact .inl (run tl hs.fr h)
    · rename_i j want hg
      split at h
      · rename_i hv
        have := (yielded_ok hs.size hs.fr hv).1 rfl
        rw [if_neg (by simp [Region.wanted, hg, this])]
        exact skip tl hs.fr h
      · rename_i y hv
        have hy := (yielded_ok hs.size hs.fr hv).2 y rfl
        have hk := gknow_ok hs.fr hv
        rw [← knowL_lk] at hk
        cases y <;> cases want <;> simp only [cond_true, cond_false, Bool.not_true, Bool.not_false, gdo] at h
        · rw [if_pos (by simp [Region.wanted, hg, hy])]; exact .inl (run _ hk h)
        · rw [if_neg (by simp [Region.wanted, hg, hy])]; exact skip _ hk h
        · rw [if_neg (by simp [Region.wanted, hg, hy])]; exact skip _ hk h
        · rw [if_pos (by simp [Region.wanted, hg, hy])]; exact .inl (run _ hk h)
      · exact h.elim

/-! regions that draw their order -/
abbrev RF := Nat → List (Nat × AV) → List (Nat × Option Blk) → List Ft → Prop
/-- the last operation waits for all others -/
def lastOk (ops : Array Oper) : Bool := (List.range (ops.size - 1)).all fun j => bef ops ops.size (ops.size - 1) j
def adrwL (P : Program) (T : Ty) (N : Nat) (ops : Array Oper) (nh : Nat) (QP : QL) (o : Oper) (last : Bool) (rest : RF) : RF := fun i tl bl acc =>
  bif dstOk N o.dst then
      (match o.guard with
      | none => astep P T false o (nh + i) (evR ops o (lk tl)) (lkM bl) (fun a rd up => putL tl o.dst a fun tl => putM up bl fun bl => rest (i + 1) tl bl (acc ++ [⟨rd.map (·.1), up.map (·.1)⟩]))
          (fun a rd up => gdo last (lastOk ops = true ∧ drawOk ops (acc ++ [⟨rd.map (·.1), up.map (·.1)⟩]) = true ∧ putM up bl fun bl => QP (.pan a) ⟨tl, bl, nh + i + 1⟩) False)
      | some (j, want) => match gval ops (lk tl) j with
        | some .und => putL tl o.dst .und fun tl => rest (i + 1) tl bl (acc ++ [⟨[], []⟩])
        | some (.tr (.v (.bool y))) => cond y (gdo want (astep P T false o (nh + i) (evR ops o (lk tl)) (lkM bl) (fun a rd up => putL tl o.dst a fun tl => putM up bl fun bl => rest (i + 1) tl bl (acc ++ [⟨rd.map (·.1), up.map (·.1)⟩])) (fun _ _ _ => False)) (putL tl o.dst .und fun tl => rest (i + 1) tl bl (acc ++ [⟨[], []⟩])))
            (gdo (!want) (astep P T false o (nh + i) (evR ops o (lk tl)) (lkM bl) (fun a rd up => putL tl o.dst a fun tl => putM up bl fun bl => rest (i + 1) tl bl (acc ++ [⟨rd.map (·.1), up.map (·.1)⟩])) (fun _ _ _ => False)) (putL tl o.dst .und fun tl => rest (i + 1) tl bl (acc ++ [⟨[], []⟩])))
        | _ => False) else False
noncomputable def adrawsL (P : Program) (T : Ty) (N : Nat) (ops : Array Oper) (nh : Nat) (Q : LS → Prop) (QP : QL) (l : List Oper) : RF :=
  List.rec (motive := fun _ => RF) (fun i tl bl acc => drawOk ops acc = true ∧ fN (nh + i) fun n => Q ⟨tl, bl, n⟩) (fun o r ih => adrwL P T N ops nh QP o r.isEmpty ih) l
theorem adrawsL_nil (P : Program) (T : Ty) (N : Nat) (ops : Array Oper) (nh : Nat) (Q : LS → Prop) (QP : QL) (i : Nat) (tl : List (Nat × AV)) (bl : List (Nat × Option Blk)) (acc : List Ft) : adrawsL P T N ops nh Q QP [] i tl bl acc = (drawOk ops acc = true ∧ fN (nh + i) fun n => Q ⟨tl, bl, n⟩) := rfl
theorem adrawsL_cons (P : Program) (T : Ty) (N : Nat) (ops : Array Oper) (nh : Nat) (Q : LS → Prop) (QP : QL) (o : Oper) (l : List Oper) (i : Nat) (tl : List (Nat × AV)) (bl : List (Nat × Option Blk)) (acc : List Ft) : adrawsL P T N ops nh Q QP (o :: l) i tl bl acc = adrwL P T N ops nh QP o l.isEmpty (adrawsL P T N ops nh Q QP l) i tl bl acc := rfl
theorem st_put (tl : List (Nat × AV)) (bl : List (Nat × Option Blk)) (n : Nat) (dst : Option Nat) (a : AV) (up : List (Nat × Option Blk)) : (LS.st ⟨putLs tl dst a, up ++ bl, n⟩) = (LS.st ⟨tl, bl, n⟩).put dst a up := by
  unfold LS.st AS.put
  simp only [putLs_lk, lkM_append]
/-- how a drawn region ends -/
def DrEnd (P : Program) (N : Nat) (ops : Array Oper) (nh : Nat) (Q : LS → Prop) (QP : QL) (l : List Oper) (i : Nat) (s : AS) (acc : List Ft) : Prop :=
  (∃ cs sf, Recs P N ops nh l i s cs sf ∧ drawOk ops (acc ++ cs.map Rc.ft) = true ∧ ∃ ls : LS, ls.st = { sf with nx := nh + (i + l.length) } ∧ Q ls) ∨
  ∃ pre o cs c sf, l = pre ++ [o] ∧ Recs P N ops nh pre i s cs sf ∧ dstOk N o.dst = true ∧ wants ops sf.t o true ∧ RdUp sf.m (nh + (i + pre.length)) c.rd c.up ∧
    WStep P o (nh + (i + pre.length)) (evR ops o sf.t) c.rd c.up c.a true ∧ c.run = true ∧ lastOk ops = true ∧ drawOk ops (acc ++ (cs ++ [c]).map Rc.ft) = true ∧
    ∃ ls : LS, ls.st = ⟨sf.t, updM sf.m c.up, nh + (i + pre.length) + 1⟩ ∧ QP (.pan c.a) ls
theorem DrEnd.cons {nh : Nat} {Q : LS → Prop} {QP : QL} {o : Oper} {r : List Oper} {i : Nat} {s : AS} {acc : List Ft} {c : Rc} (h : DrEnd P N ops nh Q QP r (i + 1) (s.put o.dst c.a c.up) (acc ++ [c.ft]))
    (hd : dstOk N o.dst = true) (hw : wants ops s.t o c.run) (hru : RdUp s.m (nh + i) c.rd c.up) (h1 : c.run = true → WStep P o (nh + i) (evR ops o s.t) c.rd c.up c.a false) (h2 : c.run = false → c.a = .und ∧ c.up = []) :
    DrEnd P N ops nh Q QP (o :: r) i s acc := by
  rcases h with ⟨cs, sf, q1, q2, ls, q3, q4⟩ | ⟨pre, o', cs, c', sf, rfl, q1, q2, q3, q4, q5, q6, q7, q8, ls, q9, q10⟩
  · refine .inl ⟨c :: cs, sf, ⟨hd, hw, hru, h1, h2, q1⟩, by simpa using q2, ls, ?_, q4⟩
    rw [q3, List.length_cons, show i + 1 + r.length = i + (r.length + 1) by omega]
  · have e : i + 1 + pre.length = i + (o :: pre).length := by rw [List.length_cons]; omega
    rw [e] at q4 q5 q9
    exact .inr ⟨o :: pre, o', c :: cs, c', sf, rfl, ⟨hd, hw, hru, h1, h2, q1⟩, q2, q3, q4, q5, q6, q7, by simpa using q8, ls, q9, q10⟩
theorem adrawsL_recs (hT : TOk P T) (nh : Nat) (Q : LS → Prop) (QP : QL) (n : Nat) : ∀ (l : List Oper) (i : Nat) (tl : List (Nat × AV)) (bl : List (Nat × Option Blk)) (acc : List Ft), nh + (i + l.length) ≤ HMod → adrawsL P T N ops nh Q QP l i tl bl acc → DrEnd P N ops nh Q QP l i (LS.st ⟨tl, bl, n⟩) acc := by
  intro l
  induction l with
  | nil =>
    intro i tl bl acc _ h
    rw [adrawsL_nil, fN_eq] at h
    exact .inl ⟨[], _, rfl, by simpa using h.1, _, rfl, h.2⟩
  | cons o r ih =>
    intro i tl bl acc hb h
    rw [List.length_cons] at hb
    have hnb : nh + i < HMod := by omega
    rw [adrawsL_cons] at h
    unfold adrwL at h
    cases hd : dstOk N o.dst with
    | false => rw [hd] at h; exact h.elim
    | true =>
    rw [hd, cond_true] at h
    simp only [putL_eq, putM_eq] at h
    have run : ∀ (Pn : KK), (∀ a rd up, Pn a rd up → r = [] ∧ lastOk ops = true ∧ drawOk ops (acc ++ [⟨rd.map (·.1), up.map (·.1)⟩]) = true ∧ QP (.pan a) ⟨tl, up ++ bl, nh + i + 1⟩) →
        astep P T false o (nh + i) (evR ops o (lk tl)) (lkM bl) (fun a rd up => adrawsL P T N ops nh Q QP r (i + 1) (putLs tl o.dst a) (up ++ bl) (acc ++ [⟨rd.map (·.1), up.map (·.1)⟩])) Pn → wants ops (lk tl) o true →
        DrEnd P N ops nh Q QP (o :: r) i (LS.st ⟨tl, bl, n⟩) acc := by
      intro Pn hPn h hw
      rcases astep_ok hnb hT h with ⟨a, rd, up, hK, hru, hws⟩ | ⟨a, rd, up, hK, hru, hws⟩
      · have h1 := ih (i + 1) _ _ _ (by omega) (hK (fun h => by cases h))
        rw [st_put] at h1
        exact DrEnd.cons (c := ⟨a, rd, up, true⟩) h1 hd hw hru (fun _ => hws) (fun h => by cases h)
      · obtain ⟨rfl, h1, h2, h3⟩ := hPn _ _ _ (hK (fun h => by cases h))
        refine .inr ⟨[], o, [], ⟨a, rd, up, true⟩, _, rfl, rfl, hd, hw, hru, hws, rfl, h1, h2, _, ?_, h3⟩
        show (⟨lk tl, lkM (up ++ bl), nh + i + 1⟩ : AS) = ⟨lk tl, updM (lkM bl) up, nh + (i + 0) + 1⟩
        rw [lkM_append]; rfl
    have skip : adrawsL P T N ops nh Q QP r (i + 1) (putLs tl o.dst .und) bl (acc ++ [⟨[], []⟩]) → wants ops (lk tl) o false → DrEnd P N ops nh Q QP (o :: r) i (LS.st ⟨tl, bl, n⟩) acc := by
      intro h hw
      have h1 := ih (i + 1) _ _ _ (by omega) h
      rw [show LS.st ⟨putLs tl o.dst .und, bl, n⟩ = (LS.st ⟨tl, bl, n⟩).put o.dst .und [] from st_put tl bl n o.dst .und []] at h1
      exact DrEnd.cons (c := ⟨.und, [], [], false⟩) h1 hd hw ⟨by simp, by simp⟩ (fun h => by cases h) (fun _ => ⟨rfl, rfl⟩)
    split at h
    · rename_i hg
      refine run _ (fun a rd up hp => ?_) h (by simp [wants, hg])
      cases r with
      | nil => exact ⟨rfl, hp⟩
      | cons => exact hp.elim
    · rename_i j want hg
      split at h
      · rename_i hv
        exact skip h (by simp [wants, hg, hv])
      · rename_i y hv
        cases y <;> cases want <;> simp only [cond_true, cond_false, Bool.not_true, Bool.not_false, gdo] at h
        · exact run _ (fun _ _ _ h => h.elim) h (by simp [wants, hg, hv])
        · exact skip h (by simp [wants, hg, hv])
        · exact skip h (by simp [wants, hg, hv])
        · exact run _ (fun _ _ _ h => h.elim) h (by simp [wants, hg, hv])
      · exact h.elim
noncomputable def adrawL (P : Program) (T : Ty) (N : Nat) (ops : Array Oper) (Q : QL) (s : LS) : Prop :=
  adrawsL P T N ops s.nx (fun s' => SOk s'.st → Q .normal s') Q ops.toList 0 s.tl s.bl []
theorem adrawL_sound (hT : TOk P T) (hmix : P.follows .mixedOrders = true) {Q : QL} {s : LS} (hb : s.nx + ops.size ≤ HMod) (h : adrawL P T N ops Q s) {g : Gh} {w : World} {act : Act} (hs : St g0 w0 N g act w s.st) {id : Nat} : (Code.region id ops true).wp P (Post g0 w0 N (Ql Q)) act w := by
  have hInv : ∀ (R : Nat → Rc), Inv g0 w0 N ops s.nx R s.st (fun i => (Array.replicate ops.size false).getD i true) act { w with drawn := w.drawn + 1 } := by
    intro R
    refine ⟨hs.size, hs.defers, g, ?_⟩
    have e : (List.range ops.size).filter (fun i => (Array.replicate ops.size false).getD i true) = [] := by
      rw [List.filter_eq_nil_iff]
      intro k hk
      have := List.mem_range.1 hk
      simp [Array.getD, this]
    rw [e]
    have hg : Grow g w g { w with drawn := w.drawn + 1 } := ⟨rfl, rfl, rfl, Nat.le_refl _, fun _ _ => rfl, fun _ _ => rfl, rfl, fun _ h => h, fun _ _ h => .inl h, fun h b e => .inl ⟨h, e⟩⟩
    refine ⟨fun i a ha => ⟨(hs.fr i a ha).1, ((hs.fr i a ha).2).grow hg⟩, ⟨fun k b hb => ?_, hs.mem.inj, hs.mem.lt, hs.mem.xlt, hs.mem.xl⟩, fun h hh _ => hs.un h hh, hs.grow.trans hg⟩
    obtain ⟨l, e1, e2⟩ := hs.mem.blk k b hb
    exact ⟨l, e1, e2.grow hg fun _ _ => rfl⟩
  have hli : ∀ i, i < ops.size → (Array.replicate ops.size false).getD i true = true → ∀ d ∈ deps ops i, (Array.replicate ops.size false).getD d true = true := fun i hi hl => by simp [Array.getD, hi] at hl
  refine wp_region_any hmix ?_
  rcases adrawsL_recs hT _ _ _ s.nx _ _ _ _ _ (by simpa using hb) h with ⟨cs, sf, h1, h2, ls, h3, h4⟩ | ⟨pre, o, cs, c, sf, hl, h1, hd, hw, hru, hws, hrun, hlast, h2, ls, h3, h4⟩
  · obtain ⟨q1, q2, q3⟩ := Recs.at (R := recAt cs) (s0 := s.st) ops.toList 0 s.st cs sf h1 (fun j => by simp) (fun j _ => by simp) rfl
    simp only [Nat.zero_add, Array.length_toList] at q1 q2 q3 h3
    refine draw_any (nh := s.nx) (s0 := s.st) (g0 := g0) (w0 := w0) (N := N) (by simpa using h2) rfl (fun i o ho => q3 i o (by simpa using ho)) (fun act w g hst => ?_) ops.size _ act _ (by simp) (Nat.le_trans List.countP_le_length (by simp)) hli (hInv _)
    rw [← q1] at hst
    rw [← h3] at hst
    exact ⟨.normal, _, g, ⟨ls, rfl, h4 hst.ok⟩, hst, trivial⟩
  · have hsz : ops.size = pre.length + 1 := by rw [← Array.length_toList, hl]; simp
    have hget : ∀ j : Nat, ops[j]? = (pre ++ [o])[j]? := fun j => by
      have e : ops[j]? = ops.toList[j]? := by simp
      rw [e, hl]
    have hcl : cs.length = pre.length := (Recs.at2 (R := recAt cs) (s0 := s.st) pre 0 s.st cs sf h1 (fun j o' ho' => by rw [Nat.zero_add, hget, List.getElem?_append_left (List.getElem?_eq_some_iff.1 ho').1]; exact ho') (fun j _ => by rw [Nat.zero_add]) rfl).2.1
    have hR1 : ∀ j, j < pre.length → recAt (cs ++ [c]) j = recAt cs j := fun j hj => by unfold recAt; rw [List.getD_eq_getElem?_getD, List.getD_eq_getElem?_getD, List.getElem?_append_left (by omega)]
    have hR2 : recAt (cs ++ [c]) pre.length = c := by unfold recAt; rw [List.getD_eq_getElem?_getD, List.getElem?_append_right (by omega), hcl, Nat.sub_self]; rfl
    obtain ⟨q1, q2, q3⟩ := Recs.at2 (R := recAt (cs ++ [c])) (s0 := s.st) pre 0 s.st cs sf h1 (fun j o' ho' => by rw [Nat.zero_add, hget, List.getElem?_append_left (List.getElem?_eq_some_iff.1 ho').1]; exact ho') (fun j hj => by rw [Nat.zero_add]; exact hR1 j hj) rfl
    simp only [Nat.zero_add] at q1 q3 hru hws h3
    have hz1 : ops.size - 1 = pre.length := by omega
    refine draw_any2 (pz := true) (nh := s.nx) (s0 := s.st) (g0 := g0) (w0 := w0) (N := N) (cs := cs ++ [c]) (by simpa using h2) rfl (fun i o' ho' => ?_) (fun _ j hj => ?_) (fun _ act w g a1 a2 a3 a4 a5 a6 v w' g' b1 b2 b3 b4 => ?_) (fun _ => ⟨by omega, by rw [hz1, hR2]; exact hrun⟩) (fun _ _ _ h => by cases h)
      ops.size _ act _ (by simp) (Nat.le_trans List.countP_le_length (by simp)) hli (fun _ => by rw [Array.getD, dif_pos (by simp; omega)]; simp) (hInv _)
    · rw [hget] at ho'
      by_cases hi : i < pre.length
      · rw [List.getElem?_append_left hi] at ho'
        have := q3 i o' ho'
        rw [show (true && Nat.beq (i + 1) ops.size) = false by rw [Bool.true_and]; exact beq_ne (by omega)]
        exact this
      · have hi' : i = pre.length := by
          have := (List.getElem?_eq_some_iff.1 ho').1
          simp at this
          omega
        subst hi'
        rw [List.getElem?_append_right (Nat.le_refl _), Nat.sub_self] at ho'
        cases ho'
        rw [show (true && Nat.beq (pre.length + 1) ops.size) = true by rw [Bool.true_and, hsz, Nat.beq_refl], hR2, ← q1]
        exact ⟨hd, by rw [hrun]; exact hw, hru, fun _ => hws, fun h => by rw [hrun] at h; cases h⟩
    · unfold lastOk at hlast
      exact List.all_eq_true.1 hlast j (List.mem_range.2 (by omega))
    · rw [hz1] at a3 a4 a5 b1 b2 b4
      rw [hR2] at b1 b2
      rw [← q1] at a3 a4 b2
      refine ⟨.pan c.a, ls.st, g', ⟨ls, rfl, h4⟩, ?_, v, rfl, b1⟩
      rw [h3]
      exact ⟨a1, a2, fun i b hb => ⟨(a3 i b hb).1, ((a3 i b hb).2).grow b3⟩, b2, fun h (hh : s.nx + pre.length + 1 ≤ h % HMod) => b4 h (by omega) (a5 h (by omega)), a6.trans b3⟩

/-- a loop's state: slots, blocks, handles -/
structure LJ where
  tl : List (Nat × AV)
  bl : List (Nat × Blk)
  nx : Nat
/-! code -/
def thnL (next : LS → Prop) (Q : QL) : QL
  | .normal, s => next s
  | x, s => Q x s
def blkL (id : Nat) (Q : QL) : QL
  | .exit i, s => (i = id → Q .normal s) ∧ (i ≠ id → Q (.exit i) s)
  | x, s => Q x s
def mkL (tl : List (Nat × AV)) (bl : List (Nat × Blk)) (nx : Nat) : LS := ⟨tl, bl.map fun p => (p.1, some p.2), nx⟩
theorem mkL_st (tl : List (Nat × AV)) (bl : List (Nat × Blk)) (nx : Nat) : (mkL tl bl nx).st = mkS tl bl nx := by
  unfold mkL LS.st mkS
  congr 1
  funext h
  unfold lkM
  simp only
  induction bl with
  | nil => rfl
  | cons p r ih =>
    obtain ⟨k, x⟩ := p
    rw [List.map_cons, lk_cons, lk_cons]
    cases Nat.beq k h with
    | true => rfl
    | false => exact ih
def LoopL (k : Nat) (body : QL → LS → Prop) (Q : QL) (s : LS) : Prop :=
  ∃ (σ : Type) (J : σ → LJ) (I : σ → Prop) (μ : σ → Nat) (x0 : σ) (ρ nl : List Nat), Sub k ρ nl s.st (mkS (J x0).tl (J x0).bl (J x0).nx) ∧ I x0 ∧
    ∀ x, I x → SOk (mkS (J x).tl (J x).bl (J x).nx) → body (thnL (fun s' => ∃ x' ρ nl, Sub k ρ nl s'.st (mkS (J x').tl (J x').bl (J x').nx) ∧ I x' ∧ μ x' < μ x) Q) (mkL (J x).tl (J x).bl (J x).nx)
theorem LoopL.by {k : Nat} {body : QL → LS → Prop} {Q : QL} {s : LS} {σ : Type} (J : σ → LJ) (I : σ → Prop) (μ : σ → Nat) (x0 : σ) (ρ nl : List Nat) (h0 : Sub k ρ nl s.st (mkS (J x0).tl (J x0).bl (J x0).nx)) (hI : I x0)
    (h : ∀ x, I x → SOk (mkS (J x).tl (J x).bl (J x).nx) → body (thnL (fun s' => ∃ x' ρ nl, Sub k ρ nl s'.st (mkS (J x').tl (J x').bl (J x').nx) ∧ I x' ∧ μ x' < μ x) Q) (mkL (J x).tl (J x).bl (J x).nx)) : LoopL k body Q s := ⟨σ, J, I, μ, x0, ρ, nl, h0, hI, h⟩
abbrev WL := QL → LS → Prop
noncomputable def regL (P : Program) (T : Ty) (N : Nat) (ops : Array Oper) (draw : Bool) : WL := fun Q s => match draw with
  | true => bif Nat.ble (s.nx + ops.size) HMod then adrawL P T N ops Q s else False
  | false => match s with
    | ⟨tl, bl, nx⟩ => bif Nat.ble (nx + ops.size) HMod then aopsL P T N ops nx Q ops.toList 0 tl bl else False
/-- a cut between two pieces of code: what holds there -/
def CutL (k : Nat) (a b : WL) (Q : QL) (s : LS) : Prop :=
  ∃ (σ : Type) (J : σ → LJ) (I : σ → Prop), a (thnL (fun s' => ∃ x ρ nl, Sub k ρ nl s'.st (mkS (J x).tl (J x).bl (J x).nx) ∧ I x) Q) s ∧
    ∀ x, I x → SOk (mkS (J x).tl (J x).bl (J x).nx) → b Q (mkL (J x).tl (J x).bl (J x).nx)
theorem CutL.by {k : Nat} {a b : WL} {Q : QL} {s : LS} {σ : Type} (J : σ → LJ) (I : σ → Prop) (h1 : a (thnL (fun s' => ∃ x ρ nl, Sub k ρ nl s'.st (mkS (J x).tl (J x).bl (J x).nx) ∧ I x) Q) s)
    (h2 : ∀ x, I x → SOk (mkS (J x).tl (J x).bl (J x).nx) → b Q (mkL (J x).tl (J x).bl (J x).nx)) : CutL k a b Q s := ⟨σ, J, I, h1, h2⟩
/-- the number of the first region of a piece of code -/
noncomputable def firstId (c : Code) : Nat := Code.rec (motive := fun _ => Nat) 0 (fun id _ _ => id) (fun _ _ a _ => a) (fun _ _ _ i _ => 1000000 + i) (fun _ _ c => c) (fun _ c => c) (fun _ _ _ _ _ _ => 0) (fun _ => 0) (fun _ _ => 0) (fun _ => 0) (fun _ => 0) 0 (fun _ => 0) c
def seqL (k : Nat) (cut : Bool) (a b : WL) : WL := fun Q s => match cut with
  | true => CutL k a b Q s
  | false => a (thnL (b Q) Q) s
def condL (c : Operand) (a b : WL) : WL := fun Q s => acond (evA (lk s.tl) c) (a Q s) (b Q s)
noncomputable def awpL (P : Program) (T : Ty) (k N : Nat) (cuts : List Nat) (c : Code) : WL :=
  Code.rec (motive := fun _ => WL) (fun Q s => Q .normal s) (fun _ ops draw => regL P T N ops draw) (fun _ cb a b => seqL k (has cuts (firstId cb)) a b) (fun c _ _ a b => condL c a b)
    (fun id _ c => fun Q s => c (blkL id Q) s) (fun _ c => fun Q s => LoopL k c Q s) (fun _ _ _ _ _ _ => fun _ _ => False) (fun id => fun Q s => Q (.exit id) s)
    (fun _ _ => fun _ _ => False) (fun _ => fun _ _ => False) (fun _ => fun _ _ => False) (fun Q s => Q .ret s) (fun _ => fun _ _ => False) c
theorem awpL_sound {cuts : List Nat} (hT : TOk P T) (hmix : P.follows .mixedOrders = true) : ∀ (c : Code) (Q : QL) (s : LS), awpL P T k N cuts c Q s → Wp P k N c (Ql Q) s.st
  | .skip, Q, s, h => fun g0 g w0 w act hk hs => wp_skip ⟨.normal, s.st, g, ⟨s, rfl, h⟩, hs, trivial⟩
  | .region id ops false, Q, ⟨tl, bl, nx⟩, h => fun g0 g w0 w act hk hs => by
      have h : (bif Nat.ble (nx + ops.size) HMod then aopsL P T N ops nx Q ops.toList 0 tl bl else False) := h
      cases hb : Nat.ble (nx + ops.size) HMod with
      | false => rw [hb] at h; exact h.elim
      | true =>
        rw [hb, cond_true] at h
        exact wp_region_list (aopsL_sound hT nx Q ops.toList 0 tl bl g act w (by simpa using Nat.le_of_ble_eq_true hb) h ⟨hs.size, hs.defers, hs.fr, hs.mem, hs.un, hs.grow⟩)
  | .region id ops true, Q, s, h => fun g0 g w0 w act hk hs => by
      have h : (bif Nat.ble (s.nx + ops.size) HMod then adrawL P T N ops Q s else False) := h
      cases hb : Nat.ble (s.nx + ops.size) HMod with
      | false => rw [hb] at h; exact h.elim
      | true =>
        rw [hb, cond_true] at h
        exact adrawL_sound hT hmix (Nat.le_of_ble_eq_true hb) h hs
  | .seq a b, Q, s, h => by
      have h : seqL k (has cuts (firstId b)) (awpL P T k N cuts a) (awpL P T k N cuts b) Q s := h
      unfold seqL at h
      split at h
      · obtain ⟨σ, J, I, h1, h2⟩ := h
        refine Wp.seq ((awpL_sound hT hmix a _ s h1).mono fun x s' hx => ?_)
        obtain ⟨ls, rfl, hx⟩ := hx
        cases x with
        | normal =>
          obtain ⟨x, ρ, nl, hsub, hI⟩ := hx
          intro g0 g w0 w act hk hs
          obtain ⟨g', hst⟩ := hsub.st hk hs
          have := awpL_sound hT hmix b Q _ (h2 x hI hst.ok)
          rw [mkL_st] at this
          exact this g0 _ w0 w act hk hst
        | _ => exact ⟨ls, rfl, hx⟩
      · refine Wp.seq ((awpL_sound hT hmix a _ s h).mono fun x s' hx => ?_)
        obtain ⟨ls, rfl, hx⟩ := hx
        cases x with
        | normal => exact awpL_sound hT hmix b Q ls hx
        | _ => exact ⟨ls, rfl, hx⟩
  | .cond c a b, Q, s, h => fun g0 g w0 w act hk hs => by
      change acond (evA (lk s.tl) c) (awpL P T k N cuts a Q s) (awpL P T k N cuts b Q s) at h
      unfold acond at h
      split at h
      · rename_i y hy
        obtain ⟨e, _⟩ := val_inv (evA_ok hs.fr _ _ hy)
        exact wp_cond_split e (fun ht => awpL_sound hT hmix a Q s (by rw [ht] at h; exact h) g0 g w0 w act hk hs) (fun hf => awpL_sound hT hmix b Q s (by rw [hf] at h; exact h) g0 g w0 w act hk hs)
      · exact h.elim
  | .block id c, Q, s, h => Wp.block ((awpL_sound hT hmix c _ s h).mono fun x s' hx => by
      obtain ⟨ls, rfl, hx⟩ := hx
      cases x with
      | exit i => exact ⟨fun e => ⟨ls, rfl, hx.1 e⟩, fun e => ⟨ls, rfl, hx.2 e⟩⟩
      | _ => exact ⟨ls, rfl, hx⟩)
  | .loop c, Q, s, h => by
      obtain ⟨σ, J, I, μ, x0, ρ, nl, h0, hI, hr⟩ := h
      refine Wp.loop (fun x => mkS (J x).tl (J x).bl (J x).nx) I μ x0 h0 hI fun x hI hok => ?_
      have := awpL_sound hT hmix c _ _ (hr x hI hok)
      rw [mkL_st] at this
      refine this.mono fun y s' hy => ?_
      obtain ⟨ls, rfl, hy⟩ := hy
      cases y with
      | normal => exact hy
      | _ => exact ⟨ls, rfl, hy⟩
  | .exit id, Q, s, h => fun g0 g w0 w act hk hs => wp_exit ⟨.exit id, s.st, g, ⟨s, rfl, h⟩, hs, rfl⟩
  | .ret, Q, s, h => fun g0 g w0 w act hk hs => wp_ret ⟨.ret, s.st, g, ⟨s, rfl, h⟩, hs, trivial⟩
  | .rangeFunc .., _, _, h => h.elim
  | .scope _, _, _, h => h.elim
  | .label _, _, _, h => h.elim
  | .goto _, _, _, h => h.elim
  | .refuse _, _, _, h => h.elim
end
/-! functions -/
def numL : Nat → List AV → List (Nat × AV)
  | _, [] => []
  | i, a :: l => (i, a) :: numL (i + 1) l
def numB : Nat → List Blk → List (Nat × Option Blk)
  | _, [] => []
  | i, a :: l => (i, some a) :: numB (i + 1) l
theorem numL_lk : ∀ (l : List AV) (i j : Nat), lk (numL i l) j = if i ≤ j then l[j - i]? else none
  | [], i, j => by simp [numL, lk]
  | a :: l, i, j => by
      unfold numL
      rw [lk_cons, numL_lk l (i + 1) j]
      by_cases h : i = j
      · subst h; simp
      · rw [beq_ne h, cond_false]
        by_cases h2 : i ≤ j
        · rw [if_pos (by omega), if_pos h2, show j - i = (j - (i + 1)) + 1 by omega]; rfl
        · rw [if_neg (by omega), if_neg h2]
theorem numB_lk : ∀ (l : List Blk) (i j : Nat), lkM (numB i l) j = if i ≤ j then l[j - i]? else none
  | [], i, j => by simp [numB, lkM, lk]
  | a :: l, i, j => by
      have ih := numB_lk l (i + 1) j
      unfold lkM at ih ⊢
      unfold numB
      rw [lk_cons]
      by_cases h : i = j
      · subst h; simp
      · rw [beq_ne h, cond_false, ih]
        by_cases h2 : i ≤ j
        · rw [if_pos (by omega), if_pos h2, show j - i = (j - (i + 1)) + 1 by omega]; rfl
        · rw [if_neg (by omega), if_neg h2]
def initL (args : List AV) (bin : List Blk) : LS := ⟨numL 0 args, numB 0 bin, bin.length⟩
theorem initL_st (args : List AV) (bin : List Blk) : (initL args bin).st = AS.init args bin := by
  unfold initL LS.st AS.init
  congr 1
  · funext i; exact (numL_lk args 0 i).trans (by simp)
  · funext i; exact (numB_lk bin 0 i).trans (by simp [ofL])
/-- a function's contract, from its code: the machine over lists -/
theorem Ctr.cut (cuts : List Nat) {P : Program} {T : Ty} (hT : TOk P T) (hmix : P.follows .mixedOrders = true) {f : Nat} {fn : Func} {c : Code} (hf : P.funcs[f]? = some fn) (hb : fn.body = some c) (hcall : Callable P f) {args : List AV} {bin : List Blk} {res : AE} {bout : List (Option Blk)}
    (hN : Nat.ble args.length fn.ntmps = true) (h : SOk (AS.init args bin) → awpL P T bin.length fn.ntmps cuts c (fun x s => afin T bin.length fn.results.toList res bout x s.st) (initL args bin)) (hbo : Nat.beq bout.length bin.length = true := by rfl) : Ctr P f args bin res bout :=
  Ctr.intro (hbo := hbo) hT hf hb hcall hN fun hok => by
    have := awpL_sound hT hmix c _ _ (h hok)
    rw [initL_st] at this
    exact this.mono fun x s hx => by obtain ⟨ls, rfl, hx⟩ := hx; exact hx
theorem Ctr.of {P : Program} {T : Ty} (hT : TOk P T) (hmix : P.follows .mixedOrders = true) {f : Nat} {fn : Func} {c : Code} (hf : P.funcs[f]? = some fn) (hb : fn.body = some c) (hcall : Callable P f) {args : List AV} {bin : List Blk} {res : AE} {bout : List (Option Blk)}
    (hN : Nat.ble args.length fn.ntmps = true) (h : SOk (AS.init args bin) → awpL P T bin.length fn.ntmps [] c (fun x s => afin T bin.length fn.results.toList res bout x s.st) (initL args bin)) (hbo : Nat.beq bout.length bin.length = true := by rfl) : Ctr P f args bin res bout :=
  Ctr.cut (hbo := hbo) [] hT hmix hf hb hcall hN h
/-- a function that leaves new blocks: ρ lists the handles that are imported, and behind them the new ones -/
theorem Ctr.new (cuts : List Nat) {P : Program} {T : Ty} (hT : TOk P T) (hmix : P.follows .mixedOrders = true) {f : Nat} {fn : Func} {c : Code} (hf : P.funcs[f]? = some fn) (hb : fn.body = some c) (hcall : Callable P f) {args : List AV} {bin : List Blk} {res : AE} {bout : List (Option Blk)}
    (hN : Nat.ble args.length fn.ntmps = true) (h : SOk (AS.init args bin) → awpL P T bin.length fn.ntmps cuts c (fun x s => ∃ ρ, rhoOk bin.length ρ = true ∧ ρ.length = bout.length ∧ afinR T ρ fn.results.toList res bout x s.st) (initL args bin)) : Ctr P f args bin res bout :=
  Ctr.introR hT hf hb hcall hN fun hok => by
    have := awpL_sound hT hmix c _ _ (h hok)
    rw [initL_st] at this
    exact this.mono fun x s hx => by obtain ⟨ls, rfl, hx⟩ := hx; exact hx
/-- the same, where slices go back to their cells ahead of the return: hs lists the handles of those that have them within -/
theorem Ctr.pk (cuts : List Nat) {P : Program} {T : Ty} (hT : TOk P T) (hmix : P.follows .mixedOrders = true) {f : Nat} {fn : Func} {c : Code} (hf : P.funcs[f]? = some fn) (hb : fn.body = some c) (hcall : Callable P f) {args : List AV} {bin : List Blk} {res : AE} {bout : List (Option Blk)}
    (hN : Nat.ble args.length fn.ntmps = true) (h : SOk (AS.init args bin) → awpL P T bin.length fn.ntmps cuts c (fun x s => ∃ hs, apacks hs s.st.m fun m => ∃ ρ, rhoOk bin.length ρ = true ∧ ρ.length = bout.length ∧ afinR T ρ fn.results.toList res bout x ⟨s.st.t, m, s.st.nx⟩) (initL args bin)) : Ctr P f args bin res bout :=
  Ctr.introP hT hf hb hcall hN fun hok => by
    have := awpL_sound hT hmix c _ _ (h hok)
    rw [initL_st] at this
    exact this.mono fun x s hx => by obtain ⟨ls, rfl, hx⟩ := hx; exact hx
end Go.Proofs.YtbpcbhmdjphodaaGreat.am

namespace Go.Proofs.YtbpcbhmdjphodaaGreat.am
open Go

theorem acall.gen {P : Program} {m : Mem} {nh f : Nat} {xs : List AV} {K : EE} (ρ sn : List Nat) (as : List AV) (bin : List Blk) (res : AE) (bout : List (Option Blk)) (h : Ctr P f as bin res bout)
    (h1 : decide ρ.Nodup = true) (h2 : Nat.beq ρ.length bin.length = true) (h3 : Nat.beq bout.length bin.length = true) (h4 : boutOk ρ.length bout = true) (h5 : cvL m ρ [] (seenS ρ sn) xs as)
    (h6 : cvO m ρ (seenS ρ sn) 0 (bin.map some)) (h7 : (ρ ++ sn).all (fun k => (m k).isSome) = true) (h8 : res.lowH ρ.length = true)
    (hK : K (res.out ρ) (rdOf m (ρ ++ sn)) (callUp ρ sn res bout)) : acall P m nh f xs K := by
  refine ⟨ρ, ρ, sn, as, bin, res, bout, ⟨h, of_decide_eq_true h1, Nat.eq_of_beq_eq_true h2, by rw [Nat.sub_self]; simp [fresh], (Nat.eq_of_beq_eq_true h3).trans (Nat.eq_of_beq_eq_true h2).symm, h4, h5, ?_, fun k hk => ?_, h8⟩, hK⟩
  · have := cvO_ok h6
    have e : ofLO (bin.map some) = ofL bin := by
      funext i
      unfold ofLO ofL
      rw [List.getElem?_map]
      cases bin[i]? <;> rfl
    rw [e] at this
    exact this
  · exact Option.isSome_iff_exists.1 (List.all_eq_true.1 h7 k hk)
/-- a call that leaves new blocks -/
theorem acall.new {P : Program} {m : Mem} {nh f : Nat} {xs : List AV} {K : EE} (ρ sn : List Nat) (as : List AV) (bin : List Blk) (res : AE) (bout : List (Option Blk)) (h : Ctr P f as bin res bout)
    (h1 : decide ρ.Nodup = true) (h2 : Nat.beq ρ.length bin.length = true) (h3 : Nat.ble ρ.length bout.length = true) (h4 : boutOk bout.length bout = true) (h5 : cvL m ρ [] (seenS ρ sn) xs as)
    (h6 : cvO m ρ (seenS ρ sn) 0 (bin.map some)) (h7 : (ρ ++ sn).all (fun k => (m k).isSome) = true) (h8 : res.lowH bout.length = true)
    (hK : K (res.out (ρ ++ fresh nh (bout.length - ρ.length))) (rdOf m (ρ ++ sn)) (callUp (ρ ++ fresh nh (bout.length - ρ.length)) sn res bout)) : acall P m nh f xs K := by
  have hle := Nat.le_of_ble_eq_true h3
  have hl : (ρ ++ fresh nh (bout.length - ρ.length)).length = bout.length := by rw [List.length_append, fresh_len]; omega
  refine ⟨ρ, ρ ++ fresh nh (bout.length - ρ.length), sn, as, bin, res, bout, ⟨h, of_decide_eq_true h1, Nat.eq_of_beq_eq_true h2, by rw [hl], hl.symm, by rw [hl]; exact h4, h5, ?_, fun k hk => ?_, by rw [hl]; exact h8⟩, hK⟩
  · have := cvO_ok h6
    have e : ofLO (bin.map some) = ofL bin := by
      funext i
      unfold ofLO ofL
      rw [List.getElem?_map]
      cases bin[i]? <;> rfl
    rw [e] at this
    exact this
  · exact Option.isSome_iff_exists.1 (List.all_eq_true.1 h7 k hk)
end Go.Proofs.YtbpcbhmdjphodaaGreat.am

namespace Go.Proofs.YtbpcbhmdjphodaaGreat.am
open Go
set_option linter.unusedSimpArgs false
/-- what the closure's recover gives, and the mode of the frame below -/
def Raised (b : Bool) (v : Value) (u : FrameMode) : Prop := match b with
  | false => v = .nilIface ∧ u = .returning
  | true => u = .panicking [{ v, recovered := false }]
def Quiet : AE := .ret (.tup [])
/-- a contract of a closure that is put off -/
structure CtrD (P : Program) (d : Nat) (b : Bool) (args : List AV) (pv : AV) (bin : List Blk) (bout : List (Option Blk)) : Prop where
  callable : Callable P d
  run : ∀ (g : Gh) (w : World) (vs : Array Value) (v : Value) (u : FrameMode), (∀ h, bin.length ≤ h → g h = .un) → MSt g w (ofL bin) → vs.size = args.length → (∀ (i : Nat) (v : Value) (a : AV), vs[i]? = some v → args[i]? = some a → Rep g w v a) → Rep g w v pv → Raised b v u →
    CallsD P d vs u w fun e u' w' => settle u' = .returning ∧ ∃ g', Grow g w g' w' ∧ MSt g' w' (ofLO bout) ∧ Under g' bout.length ∧ Quiet.is g' w' e
section
variable {P : Program} {T : Ty}
theorem post_ret (hT : TOk P T) {fn : Func} {k N : Nat} {g : Gh} {w : World} {D : List Deferred} {a : AV} {bout : List (Option Blk)} {x : AX} {s : AS} {g' : Gh} {e : Exit} {act' : Act} {w' : World} {ρ : List Nat} (hun : ∀ h, k ≤ h → g h = .un) (hρ : rhoOk k ρ = true) (hρl : ρ.length = bout.length)
    (h1 : afinR T ρ fn.results.toList (.ret a) bout x s) (h2 : St (g.at D) w N g' act' w' s) (h3 : x.is g' w' e) :
    (e = .normal ∨ e = .ret) ∧ ∃ v, (results fn act'.tmps).run P w' = .ok v w' ∧ ∃ g', Grow g w g' w' ∧ MSt g' w' (ofLO bout) ∧ Under g' bout.length ∧ Rep g' w' v a := by
  have under : Under (gsub g' ρ [] g'.X) bout.length := fun i hi l hl => by
    have : ρ[i]? = none := List.getElem?_eq_none (by omega)
    simp [gsub, this, has] at hl
  have hsub : SubOk g' w' ρ (fun h => !has ρ h) g'.X := by
    refine ⟨fun b hb => hb.2.1, fun i b _ e1 => h2.mem.xl i b e1, fun i hi hm => ?_⟩
    simp only [Bool.not_eq_true'] at hi
    rw [has_iff.2 hm] at hi; cases hi
  have fin : (match resAll T s fn.results.toList with | some l => cv s.m ρ [] (fun h => !has ρ h) (resAV l) a | none => False) ∧ cvO s.m ρ (fun h => !has ρ h) 0 bout →
      ∃ v, (results fn act'.tmps).run P w' = .ok v w' ∧ ∃ g', Grow g w g' w' ∧ MSt g' w' (ofLO bout) ∧ Under g' bout.length ∧ Rep g' w' v a := by
    rintro ⟨h4, h5⟩
    split at h4
    case h_2 => exact h4.elim
    rename_i l hl
    obtain ⟨v, r1, r2⟩ := run_results hT (fn := fn) h2.fr h2.mem hl
    have hst := (range_sub hρ h5).st (g0 := g.at D) hun h2
    exact ⟨v, r1, _, hst.grow.of_at, hst.mem, under, cv_rep hsub h2.mem r2 h4⟩
  cases x with
  | normal => cases e with
    | normal => exact ⟨.inl rfl, fin h1⟩
    | _ => exact h3.elim
  | ret => cases e with
    | ret => exact ⟨.inr rfl, fin h1⟩
    | _ => exact h3.elim
  | exit i => exact h1.elim
  | pan a => exact h1.elim
/-- a call's beginning -/
theorem St.enter {g : Gh} {w : World} {vs : Array Value} {args : List AV} {bin : List Blk} {N : Nat} (hun : ∀ h, bin.length ≤ h → g h = .un) (hm : MSt g w (ofL bin)) (hsz : vs.size = args.length) (hvs : ∀ (i : Nat) (v : Value) (a : AV), vs[i]? = some v → args[i]? = some a → Rep g w v a) (hN : args.length ≤ N) :
    St (g.at []) w N g { tmps := vs ++ Array.replicate (N - vs.size) undef, defers := [] } w (AS.init args bin) := by
  refine ⟨by simp; omega, rfl, fun i a hi => ?_, hm, fun h hh => hun h (Nat.le_trans hh (Nat.mod_le _ _)), Grow.at _ _ _⟩
  have hi' : args[i]? = some a := hi
  have hlt : i < args.length := (List.getElem?_eq_some_iff.1 hi').1
  refine ⟨by omega, ?_⟩
  have hv : vs[i]? = some vs[i] := by simp [show i < vs.size by omega]
  have : (vs ++ Array.replicate (N - vs.size) undef).getD i undef = vs[i] := by
    rw [Array.getD, dif_pos (by simp; omega)]
    simp [Array.getElem_append, show i < vs.size by omega]
  rw [this]
  exact hvs i vs[i] a hv hi'
theorem raised_rec {b : Bool} {v : Value} {u : FrameMode} (h : Raised b v u) (c₀ : Frame) (cs : List Frame) (hu : c₀.mode = u) :
    ∃ u', settle u' = .returning ∧ ((recoverD (c₀ :: cs) = some (v, { c₀ with mode := u' } :: cs)) ∨ (recoverD (c₀ :: cs) = none ∧ v = .nilIface ∧ u' = u)) := by
  cases b with
  | false =>
    obtain ⟨h1, h2⟩ := h
    refine ⟨u, by rw [h2]; rfl, .inr ⟨?_, h1, rfl⟩⟩
    rw [h2] at hu
    simp [recoverD, hu]
  | true =>
    have h : u = .panicking [{ v, recovered := false }] := h
    rw [h] at hu
    refine ⟨.panicking [{ v, recovered := true }], by simp [settle], .inl ?_⟩
    simp [recoverD, hu]
theorem beq_swap (a b : Nat) : Nat.beq a b = Nat.beq b a := by
  by_cases h : a = b
  · subst h; rfl
  · rw [beq_ne h, beq_ne (Ne.symm h)]
/-- a closure that begins with x := recover() -/
theorem CtrD.of (hT : TOk P T) (hmix : P.follows .mixedOrders = true) {d : Nat} {fn : Func} {id : Nat} {o1 o2 : Oper} {rest : Code} {ai bi : Nat} (hf : P.funcs[d]? = some fn) (hb : fn.body = some (.seq (.region id #[o1, o2] false) rest)) (hcall : Callable P d)
    (ho1 : o1.op = .call { callee := .builtin .recover, args := #[], argTypes := #[] }) (hd1 : o1.dst = some ai) (hg1 : o1.guard = none) (ho2 : o2.op = .assign (.tmp ai)) (hd2 : o2.dst = some bi) (hg2 : o2.guard = none)
    {b : Bool} {args : List AV} {pv : AV} {bin : List Blk} {bout : List (Option Blk)} (hN : (Nat.ble args.length fn.ntmps && Nat.blt ai fn.ntmps && Nat.blt bi fn.ntmps) = true) (hpv : b = false → pv = .tr (.v .nilIface)) (cuts : List Nat)
    (h : awpL P T bin.length fn.ntmps cuts rest (fun x s => afin T bin.length fn.results.toList Quiet bout x s.st) ⟨(bi, pv) :: (ai, pv) :: numL 0 args, numB 0 bin, bin.length⟩) (hbo : Nat.beq bout.length bin.length = true := by rfl) : CtrD P d b args pv bin bout := by
  refine ⟨hcall, fun g w vs v u hun hm hsz hvs hv hr => callsD_of_wpS hf hb fun c₀ cs hu => wpS_seq (wpS_region ?_)⟩
  simp only [Bool.and_eq_true] at hN
  obtain ⟨⟨hN1, hN2⟩, hN3⟩ := hN
  have hN1 := Nat.le_of_ble_eq_true hN1
  have hN2 : ai < fn.ntmps := Nat.le_of_ble_eq_true hN2
  have hN3 : bi < fn.ntmps := Nat.le_of_ble_eq_true hN3
  obtain ⟨u', hu', hrec⟩ := raised_rec hr c₀ cs hu
  have h0 := St.enter (N := fn.ntmps) hun hm hsz hvs hN1
  generalize hact : ({ tmps := vs ++ Array.replicate (fn.ntmps - vs.size) undef, defers := [] } : Act) = act at h0
  have e1 : (execOp act.eval o1).run P w = .ok .recover w := by simp [execOp, ho1, resolve, invoke, builtin]
  have p1 := put_ok (dst := some ai) (t := (AS.init args bin).t) (v := v) (a := pv) h0.size h0.fr (Grow.refl g w) (by unfold dstOk; exact Nat.ble_eq_true_of_le hN2) hv
  have p2 := put_ok (dst := some bi) (v := v) (a := pv) p1.1 p1.2 (Grow.refl g w) (by unfold dstOk; exact Nat.ble_eq_true_of_le hN3) hv
  have hev : (act.put (some ai) v).eval (.tmp ai) = v := by
    show (act.tmps.setIfInBounds ai v).getD ai undef = v
    rw [getD_set (by rw [h0.size]; exact hN2), if_pos rfl]
  have e2 : (execOp (act.put (some ai) v).eval o2).run P w = .ok (.value v) w := by simp [execOp, ho2, hev]
  have w1 : Region.wanted o1 (yielded #[o1, o2] act.tmps) = true := by simp [Region.wanted, hg1]
  have w2 : ∀ t, Region.wanted o2 (yielded #[o1, o2] t) = true := fun t => by simp [Region.wanted, hg2]
  have key : ∀ cs', (∃ u', settle u' = .returning ∧ cs' = { c₀ with mode := u' } :: cs) → wpOpsS P #[o1, o2] (Exit.thenS (rest.wpS P (bodyPostS P fn c₀ cs fun e u' w' => settle u' = .returning ∧ ∃ g', Grow g w g' w' ∧ MSt g' w' (ofLO bout) ∧ Under g' bout.length ∧ Quiet.is g' w' e)) (bodyPostS P fn c₀ cs fun e u' w' => settle u' = .returning ∧ ∃ g', Grow g w g' w' ∧ MSt g' w' (ofLO bout) ∧ Under g' bout.length ∧ Quiet.is g' w' e)) [1] (act.put (some ai) v) cs' w := by
    rintro _ ⟨u2, hu2, rfl⟩
    have hg : (#[o1, o2] : Array Oper)[1]? = some o2 := rfl
    unfold wpOpsS
    rw [hg]
    simp only [w2, if_true, e2]
    rw [Oper.upon_value, hd2]
    unfold wpOpsS
    show rest.wpS P _ ((act.put (some ai) v).put (some bi) v) _ w
    have hst : St (g.at []) w fn.ntmps g ((act.put (some ai) v).put (some bi) v) w (⟨(bi, pv) :: (ai, pv) :: numL 0 args, numB 0 bin, bin.length⟩ : LS).st := by
      refine ⟨p2.1, h0.defers, fun i a hi => p2.2 i a ?_, ?_, fun h hh => hun h (Nat.le_trans hh (Nat.mod_le _ _)), Grow.at _ _ _⟩
      · show (bif Nat.beq i bi then some pv else bif Nat.beq i ai then some pv else args[i]?) = some a
        have hi : lk ((bi, pv) :: (ai, pv) :: numL 0 args) i = some a := hi
        rw [lk_cons, lk_cons, numL_lk] at hi
        simp only [Nat.zero_le, if_true, Nat.sub_zero] at hi
        rw [beq_swap i bi, beq_swap i ai]
        exact hi
      · have : (⟨(bi, pv) :: (ai, pv) :: numL 0 args, numB 0 bin, bin.length⟩ : LS).st.m = ofL bin := by
          funext i; exact (numB_lk bin 0 i).trans (by simp [ofL])
        rw [this]; exact hm
    refine wpS_of_wp (Go.wp_mono (awpL_sound hT hmix rest _ _ h (g.at []) g w w _ hun hst) ?_)
    rintro e act' w' ⟨x, s, g', ⟨ls, rfl, h1⟩, h2, h3⟩
    obtain ⟨he, v', r1, r2⟩ := post_ret hT (fn := fn) hun (rho_range _) (by rw [List.length_range]; exact (Nat.eq_of_beq_eq_true hbo).symm) h1 h2 h3
    rcases he with rfl | rfl <;> exact ⟨h2.defers, u2, rfl, v', r1, hu2, r2⟩
  have hg : (#[o1, o2] : Array Oper)[0]? = some o1 := rfl
  show wpOpsS P #[o1, o2] _ [0, 1] act (c₀ :: cs) w
  unfold wpOpsS
  rw [hg]
  simp only [w1, if_true, e1, hd1]
  rcases hrec with hrec | ⟨hrec, hv0, hue⟩
  · rw [hrec]
    exact key _ ⟨u', hu', rfl⟩
  · rw [hrec, ← hv0]
    refine key _ ⟨u, by rw [← hue]; exact hu', ?_⟩
    rw [← hu]
end
end Go.Proofs.YtbpcbhmdjphodaaGreat.am

namespace Go.Proofs.YtbpcbhmdjphodaaGreat.am
open Go
set_option linter.unusedSimpArgs false
/-- the call that was put off, and the function's end behind it -/
def Dend (P : Program) (T : Ty) (k d : Nat) (b : Bool) (cl : List AV) (pv : AV) (rs : List ResultVar) (res : AV) (bout : List (Option Blk)) (s : LS) : Prop :=
  ∃ (ρ sn : List Nat) (as : List AV) (apv : AV) (bin' : List Blk) (bout' : List (Option Blk)), CallFit s.st.m s.nx (cl ++ [pv]) ρ ρ sn (as ++ [apv]) bin' Quiet bout' ∧ CtrD P d b as apv bin' bout' ∧
    Nat.blt s.nx HMod = true ∧ ∃ ρ', rhoOk k ρ' = true ∧ ρ'.length = bout.length ∧ afinR T ρ' rs (.ret res) bout .ret ⟨s.st.t, updM s.st.m (callUp ρ sn Quiet bout'), s.nx + 1⟩
def Gfin (P : Program) (T : Ty) (k d : Nat) (cl : List AV) (rs : List ResultVar) (res : AV) (bout : List (Option Blk)) : QL
  | .normal, s | .ret, s => Dend P T k d false cl (.tr (.v .nilIface)) rs res bout s
  | .pan a, s => Dend P T k d true cl a rs res bout s
  | .exit _, _ => False
section
variable {P : Program} {T : Ty}
theorem dend_ok (hT : TOk P T) {fn : Func} {k d N : Nat} {b : Bool} {cl : List AV} {pv : AV} {res : AV} {bout : List (Option Blk)} {s : LS} (h : Dend P T k d b cl pv fn.results.toList res bout s)
    {g g1 g' : Gh} {w w1 w' : World} {D : List Deferred} {act' : Act} {cs : Array Value} {v : Value} {u : FrameMode} (hun : ∀ h, k ≤ h → g h = .un) (hG : Grow g w g1 w1) (h2 : St (g1.at D) w1 N g' act' w' s.st)
    (hsz : cs.size = cl.length) (hcs : ∀ (i : Nat) (v : Value) (a : AV), cs[i]? = some v → cl[i]? = some a → Rep g' w' v a) (hv : Rep g' w' v pv) (hr : Raised b v u) :
    Leaves P fn act'.tmps (fun e w' => ∃ g', Grow g w g' w' ∧ MSt g' w' (ofLO bout) ∧ Under g' bout.length ∧ (AE.ret res).is g' w' e) [{ target := .fn (.func d) cs, args := #[] }] u w' := by
  obtain ⟨ρ, sn, as, apv, bin', bout', hfit, hc, hnb, ρ', hρ, hρl, hfin⟩ := h
  have hnb : s.nx < HMod := Nat.le_of_ble_eq_true hnb
  have hne : u ≠ .run := by
    cases b with
    | false => rw [hr.2]; simp
    | true => rw [show u = .panicking [{ v, recovered := false }] from hr]; simp
  refine leaves_cons hne (f := d) (args := cs) ?_ ?_
  · simp only [invoke]
    rw [hc.callable]
    simp
  have hlen : cl.length = as.length := by
    have := (cvL_get hfit.args).1
    simp at this; exact this
  have := acall_core hfit (Run := fun R => CallsD P d cs u w' fun e u' w'' => settle u' = .returning ∧ R e w'') (fun R R' h1 h2 => h1.mono fun e u' w'' q => ⟨q.1, h2 e w'' q.2⟩) g' w' s.st.m (cs.push v)
    (fun gc hunc hmc hl hvs => by
      refine hc.run gc w' cs v u hunc hmc (by simp at hl; exact hl) (fun i x a e1 e2 => ?_) ?_ hr
      · have hi : i < cs.size := (Array.getElem?_eq_some_iff.1 e1).1
        refine hvs i x a ?_ ?_
        · rw [Array.getElem?_push, if_neg (by omega)]; exact e1
        · rw [List.getElem?_append_left (by omega)]; exact e2
      · refine hvs cs.size v apv (by simp) ?_
        rw [List.getElem?_append_right (by omega), show cs.size - as.length = 0 by omega]; rfl)
    h2.mem hnb (fun k hk => h2.un k (Nat.le_of_eq hk.symm)) (fun p hp => (rdOf_ok p hp).1) (by simp; omega) (fun i x a e1 e2 => by
      by_cases hi : i < cs.size
      · rw [Array.getElem?_push, if_neg (by omega)] at e1
        rw [List.getElem?_append_left (by omega)] at e2
        exact hcs i x a e1 e2
      · have hi2 := (Array.getElem?_eq_some_iff.1 e1).1
        simp at hi2
        have hi3 : i = cs.size := by omega
        subst hi3
        rw [Array.getElem?_push, if_pos rfl] at e1
        rw [List.getElem?_append_right (by omega), show cs.size - cl.length = 0 by omega] at e2
        cases e1; cases e2
        exact hv)
  refine this.mono fun e u' w'' hq => ?_
  obtain ⟨hset, gn, q1, q2, q3, q4⟩ := hq
  cases e with
  | returned v' =>
    show Leaves P fn act'.tmps _ [] (settle u') w''
    rw [hset]
    have hst : St (g.at D) w N gn act' w'' ⟨s.st.t, updM s.st.m (callUp ρ sn Quiet bout'), s.nx + 1⟩ :=
      ⟨h2.size, h2.defers, fun i a hi => ⟨(h2.fr i a hi).1, ((h2.fr i a hi).2).grow q3⟩, q2, fun h hh => q4 h (by have : s.nx + 1 ≤ h % HMod := hh; omega) (h2.un h (by show s.nx ≤ h % HMod; have : s.nx + 1 ≤ h % HMod := hh; omega)), ((hG.trans h2.grow.of_at).trans q3).to_at⟩
    obtain ⟨_, v2, r1, r2⟩ := post_ret hT (fn := fn) (x := .ret) (e := .ret) hun hρ hρl hfin hst trivial
    exact ⟨v2, r1, r2⟩
  | panicked ch => exact q1.elim
  | outgrown => exact q1.elim
theorem evs_get {g : Gh} {w : World} {ev : Operand → Option AV} {ρ : Operand → Value} (hev : ∀ x b, ev x = some b → Rep g w (ρ x) b) {co : Array Operand} {cl : List AV} (h : evs ev co.toList = some cl) :
    (co.map ρ).size = cl.length ∧ ∀ (i : Nat) (v : Value) (a : AV), (co.map ρ)[i]? = some v → cl[i]? = some a → Rep g w v a := by
  obtain ⟨e1, e2⟩ := evs_ok hev _ _ h
  exact ⟨by simpa using e1, fun i v a q1 q2 => e2 i v a (by simpa using q1) q2⟩
/-! only the first k handles are kept -/
theorem Rep.low {gn g' : Gh} {w' : World} {k : Nat} (hok : ∀ b, okB g' w' b → okB gn w' b) (hh : ∀ i, i < k → gn i = g' i) {x : Value} {a : AV} (hr : Rep g' w' x a) : a.lowH k = true → Rep gn w' x a := by
  have hdl : ∀ {i : Nat} {q : HS}, Nat.blt i k = true → g' i = q → gn i = q := fun {i q} hb hq => (hh i (Nat.le_of_ble_eq_true hb)).trans hq
  have cells : ∀ {cs : Array Value} {l : List AV}, (∀ (i : Nat) (c : Value) (a : AV), cs[i]? = some c → l[i]? = some a → a.lowH k = true → Rep gn w' c a) → belowL k l = true →
      ∀ (i : Nat) (c : Value) (a : AV), cs[i]? = some c → l[i]? = some a → Rep gn w' c a := fun ih hb i c a e1 e2 => ih i c a e1 e2 (belowL_get hb e2)
  induction hr with
  | und => intro _; exact .und
  | tr h => intro _; exact .tr (h.mono fun b hb => ⟨hok b hb, rfl⟩)
  | agg h1 h2 h3 ih => intro hb; exact .agg h1 h2 (cells ih hb)
  | tup h1 h3 ih => intro hb; exact .tup h1 (cells ih hb)
  | ptrD h1 h2 => intro hb; exact .ptrD (hdl hb h1) h2
  | ptr h1 => intro hb; exact .ptr (hdl hb h1)
  | vptD h1 h2 => intro hb; exact .vptD (hdl hb h1) h2
  | vpt h1 => intro hb; exact .vpt (hdl hb h1)
  | slD h1 h2 => intro hb; exact .slD (hdl hb h1) h2
  | sl h1 h2 => intro hb; exact .sl (hdl hb h1) h2
  | slN h1 => intro hb; exact .slN (hdl hb h1)
  | ept f h1 h2 h3 => intro _; exact .ept f (hok _ h1) h2 fun j t hj => (h3 j t hj).mono fun b hb => ⟨hok b hb, rfl⟩
  | fn h1 h3 ih => intro hb; exact .fn h1 (cells ih hb)
  | ifc h1 ih => intro hb; exact .ifc (ih hb)
  | mpD h1 h2 => intro hb; exact .mpD (hdl hb h1) h2
  | mp h1 => intro hb; exact .mp (hdl hb h1)
  | ful h1 h2 => intro _; exact .ful (h1.mono fun b hb => ⟨hok b hb, rfl⟩) h2
theorem BRep.low {gn g' : Gh} {w' : World} {k : Nat} (hok : ∀ b, okB g' w' b → okB gn w' b) (hh : ∀ i, i < k → gn i = g' i) {l : Loc} {F : Nat → Prop} {b : Blk} (hr : BRep g' w' l F b) (hb : b.lowH k = true) : BRep gn w' l F b := by
  cases b with
  | cells t as =>
    obtain ⟨j, cs, rfl, e, h1, h2, h3⟩ := hr
    exact ⟨j, cs, rfl, e, h1, h2, fun i c a e1 e2 => (h3 i c a e1 e2).low hok hh (belowL_get hb e2)⟩
  | vec e n B rows =>
    obtain ⟨hB, hn, hv⟩ := hr
    refine ⟨hB, hn, ?_⟩
    rcases hv with hv | ⟨j, cap, cur, rfl, e1, e2, e3, e4, e5, e6⟩
    · exact .inl hv
    · exact .inr ⟨j, cap, cur, rfl, e1, e2, e3, e4, e5, fun i t hi => by obtain ⟨c, c1, c2⟩ := e6 i t hi; exact ⟨c, c1, c2.mono fun b hb => ⟨hok b hb, rfl⟩⟩⟩
  | map kd es =>
    obtain ⟨j, ents, clock, rfl, e1, e2, e3, e4⟩ := hr
    exact ⟨j, ents, clock, rfl, e1, e2, e3, fun i q t hi => by obtain ⟨en, c1, c2, c3⟩ := e4 i q t hi; exact ⟨en, c1, c2, c3.mono fun b hb => ⟨hok b hb, rfl⟩⟩⟩
  | own n B rows ln =>
    cases ln with
    | cons => cases hb
    | nil =>
      obtain ⟨hB, hn, hv⟩ := hr
      refine ⟨hB, hn, ?_⟩
      rcases hv with hv | ⟨j, cap, cur, e, Fs, rfl, e1, e2, e3, e4, e5, e6, e7, e8⟩
      · exact .inl hv
      · exact .inr ⟨j, cap, cur, e, Fs, rfl, e1, e2, e3, e4, e5, e6, e7, fun i j row t c q1 q2 q3 => ⟨fun q => (e8 i j row t c q1 q2 q3).1 q, fun _ _ q => by cases q⟩⟩
def gcut (g : Gh) (k : Nat) : Gh := ⟨fun i => if i < k then g i else .un, g.X, g.D, g.F⟩
theorem gcut_owns {g : Gh} {k h b : Nat} (ho : Owns (gcut g k) h b) : Owns g h b := by
  obtain ⟨l, e1, e2⟩ := ho
  change (if h < k then g h else HS.un) = .live l at e1
  split at e1
  · exact ⟨l, e1, e2⟩
  · cases e1
theorem gcut_lt {g : Gh} {k i : Nat} (h : i < k) : gcut g k i = g i := by simp [gcut, h]
theorem gcut_ok {g : Gh} {w : World} {k b : Nat} (h : okB g w b) : okB (gcut g k) w b := ⟨h.1, h.2.1, fun i hi => h.2.2 i (gcut_owns hi)⟩
theorem Grow.cut {g g1 : Gh} {w w1 : World} {k : Nat} (h : Grow g w g1 w1) (hk : ∀ i, k ≤ i → g i = .un) : Grow g w (gcut g1 k) w1 := by
  refine ⟨h.os, h.tape, h.output, h.size, h.block, h.xb, h.X, fun i hi => ?_, fun i l hi => ?_, fun i b hi => h.new i b (gcut_owns hi)⟩
  · have : i < k := by
      rcases Nat.lt_or_ge i k with q | q
      · exact q
      · exact absurd (hk i q) hi
    rw [gcut_lt this]; exact h.un i hi
  · change (if i < k then g1 i else HS.un) = .live l at hi
    split at hi
    · exact h.live i l hi
    · cases hi
def lowS (k0 : Nat) (s : LS) (k : Nat) : Bool := Nat.ble k0 k && (s.tl.all (fun p => p.2.lowH k) && s.bl.all fun p => Nat.blt p.1 k && (match p.2 with | some b => b.lowH k | none => true))
theorem lk_in {α : Type} {l : List (Nat × α)} {i : Nat} {a : α} (h : lk l i = some a) : (i, a) ∈ l := lk_mem h
/-- a function's contract, that puts off a call of a closure behind its first region -/
theorem Ctr.guard (cuts : List Nat) (hT : TOk P T) (hmix : P.follows .mixedOrders = true) {f d t i0 i1 : Nat} {fn : Func} {ops0 : Array Oper} {o1 o2 : Oper} {c : Code} {co : Array Operand} (hf : P.funcs[f]? = some fn)
    (hb : fn.body = some (.seq (.region i0 ops0 false) (.seq (.region i1 #[o1, o2] false) c))) (hcall : Callable P f)
    (ho1 : o1.op = .makeFunc (.func d) #[] co) (hd1 : o1.dst = some t) (hg1 : o1.guard = none) (ho2 : o2.op = .defer { callee := .value (.tmp t), args := #[], argTypes := #[] }) (hd2 : o2.dst = none) (hg2 : o2.guard = none)
    {args : List AV} {bin : List Blk} {res : AV} {bout : List (Option Blk)} (hN : (Nat.ble args.length fn.ntmps && Nat.blt t fn.ntmps) = true)
    (h : SOk (AS.init args bin) → awpL P T bin.length fn.ntmps cuts (.region i0 ops0 false) (fun x s => x = .normal ∧ lowS bin.length s s.nx = true ∧ ∃ cl, evs (evA s.st.t) co.toList = some cl ∧
      awpL P T s.nx fn.ntmps cuts c (Gfin P T bin.length d cl fn.results.toList res bout) ⟨(t, .fn d cl) :: s.tl, s.bl, s.nx⟩) (initL args bin)) : Ctr P f args bin (.ret res) bout := by
  refine ⟨hcall, fun g w vs hun hm hsz hvs => calls_of_wp_defers hf hb (wp_seq ?_)⟩
  simp only [Bool.and_eq_true] at hN
  have hN1 := Nat.le_of_ble_eq_true hN.1
  have hN2 : t < fn.ntmps := Nat.le_of_ble_eq_true hN.2
  have h0 := St.enter (N := fn.ntmps) hun hm hsz hvs hN1
  have hok : SOk (AS.init args bin) := h0.ok
  have hw := awpL_sound hT hmix _ _ _ (h hok)
  rw [initL_st] at hw
  refine Go.wp_mono (hw (g.at []) g w w _ hun h0) ?_
  rintro e act1 w1 ⟨x, s, g1, ⟨ls, rfl, rfl, hlow, cl, hcl, h1⟩, h2, h3⟩
  have hkk : bin.length ≤ ls.nx := by unfold lowS at hlow; simp only [Bool.and_eq_true] at hlow; exact Nat.le_of_ble_eq_true hlow.1
  obtain ⟨g1, h2⟩ : ∃ g1', St (g.at []) w fn.ntmps g1' act1 w1 ls.st ∧ ∀ i, ls.nx ≤ i → g1' i = .un := by
    unfold lowS at hlow
    simp only [Bool.and_eq_true, List.all_eq_true] at hlow
    replace hlow := hlow.2
    refine ⟨gcut g1 ls.nx, ⟨h2.size, h2.defers, fun i a hi => ⟨(h2.fr i a hi).1, (h2.fr i a hi).2.low (fun b hb => gcut_ok hb) (fun i hi => gcut_lt hi) (hlow.1 _ (lk_in hi))⟩, ?_, fun i hi => ?_, h2.grow.cut fun i hi => hun i (Nat.le_trans hkk hi)⟩, fun i hi => ?_⟩
    · refine ⟨fun h b hb => ?_, fun h h' b e1 e2 => h2.mem.inj h h' b (gcut_owns e1) (gcut_owns e2), fun h b e1 => h2.mem.lt h b (gcut_owns e1), h2.mem.xlt, fun h b e1 => h2.mem.xl h b (gcut_owns e1)⟩
      have hb' : (lk ls.bl h).join = some b := hb
      have hb2 : lk ls.bl h = some (some b) := by
        cases e : lk ls.bl h with
        | none => rw [e] at hb'; cases hb'
        | some x => rw [e] at hb'; exact congrArg some hb'
      obtain ⟨q1, q2⟩ := (by simpa using hlow.2 _ (lk_in hb2) : Nat.blt h ls.nx = true ∧ b.lowH ls.nx = true)
      obtain ⟨l, e1, e2⟩ := h2.mem.blk h b hb
      exact ⟨l, (gcut_lt (Nat.le_of_ble_eq_true q1)).trans e1, e2.low (fun b hb => gcut_ok hb) (fun i hi => gcut_lt hi) q2⟩
    · have : ls.nx ≤ i := Nat.le_trans hi (Nat.mod_le _ _)
      simp [gcut, Nat.not_lt.2 this]
    · simp [gcut, Nat.not_lt.2 hi]
  obtain ⟨h2, hun1⟩ := h2
  cases e with
  | normal =>
    show (Code.seq (.region i1 #[o1, o2] false) c).wp P _ act1 w1
    refine wp_seq (wp_region_list ?_)
    obtain ⟨v1, v2⟩ := evs_get (evA_ok h2.fr) hcl
    generalize hcs : co.map act1.eval = cs at v1 v2
    have e1 : (execOp act1.eval o1).run P w1 = .ok (.value (.func (.func d) #[] cs)) w1 := by
      rw [← hcs]
      simp [execOp, ho1, Instr.makeFunc]
    have w1' : Region.wanted o1 (yielded #[o1, o2] act1.tmps) = true := by simp [Region.wanted, hg1]
    have w2 : ∀ t, Region.wanted o2 (yielded #[o1, o2] t) = true := fun t => by simp [Region.wanted, hg2]
    have hfn : Rep g1 w1 (.func (.func d) #[] cs) (.fn d cl) := .fn v1 v2
    have p1 := put_ok (dst := some t) (v := .func (.func d) #[] cs) (a := .fn d cl) h2.size h2.fr (Grow.refl g1 w1) (by unfold dstOk; exact Nat.ble_eq_true_of_le hN2) hfn
    have hev : (act1.put (some t) (.func (.func d) #[] cs)).eval (.tmp t) = .func (.func d) #[] cs := by
      show (act1.tmps.setIfInBounds t _).getD t undef = _
      rw [getD_set (by rw [h2.size]; exact hN2), if_pos rfl]
    have e2 : (execOp (act1.put (some t) (.func (.func d) #[] cs)).eval o2).run P w1 = .ok (.defer { target := .fn (.func d) cs, args := #[] }) w1 := by
      simp [execOp, ho2, resolve, Deferred.ofValue, hev]
    show wpList P #[o1, o2] _ [o1, o2] act1 w1
    unfold wpList
    rw [if_pos w1']
    refine .inl ?_
    unfold Oper.wp
    rw [e1, Oper.upon_value, hd1]
    unfold wpList
    rw [if_pos (w2 _)]
    refine .inl ?_
    unfold Oper.wp
    rw [e2, Oper.upon_defer, hd2]
    unfold wpList
    show c.wp P _ { act1.put (some t) (.func (.func d) #[] cs) with defers := { target := .fn (.func d) cs, args := #[] } :: act1.defers } w1
    have hdf : act1.defers = [] := h2.defers
    rw [hdf]
    have hst : St (g1.at [{ target := .fn (.func d) cs, args := #[] }]) w1 fn.ntmps g1 { act1.put (some t) (.func (.func d) #[] cs) with defers := [{ target := .fn (.func d) cs, args := #[] }] } w1 (⟨(t, .fn d cl) :: ls.tl, ls.bl, ls.nx⟩ : LS).st := by
      refine ⟨p1.1, rfl, fun i a hi => p1.2 i a ?_, h2.mem, h2.un, Grow.at _ _ _⟩
      show (bif Nat.beq i t then some (AV.fn d cl) else lk ls.tl i) = some a
      have hi : lk ((t, AV.fn d cl) :: ls.tl) i = some a := hi
      rw [lk_cons] at hi
      rw [beq_swap i t]
      exact hi
    refine Go.wp_mono (awpL_sound hT hmix c _ _ h1 (g1.at [{ target := .fn (.func d) cs, args := #[] }]) g1 w1 w1 _ hun1 hst) ?_
    rintro e act' w' ⟨x, s', g', ⟨ls', rfl, h4⟩, h5, h6⟩
    have hG : Grow g w g1 w1 := h2.grow.of_at
    have hcs' : ∀ (i : Nat) (v : Value) (a : AV), cs[i]? = some v → cl[i]? = some a → Rep g' w' v a := fun i v a q1 q2 => (v2 i v a q1 q2).grow h5.grow.of_at
    have hdf' : act'.defers = [{ target := .fn (.func d) cs, args := #[] }] := h5.defers
    have hnil : Rep g' w' .nilIface (.tr (.v .nilIface)) := .tr (.v trivial)
    cases x with
    | normal => cases e with
      | normal =>
        show Leaves P fn act'.tmps _ act'.defers .returning w'
        rw [hdf']
        exact dend_ok hT h4 hun hG h5 v1 hcs' hnil ⟨rfl, rfl⟩
      | _ => exact h6.elim
    | ret => cases e with
      | ret =>
        show Leaves P fn act'.tmps _ act'.defers .returning w'
        rw [hdf']
        exact dend_ok hT h4 hun hG h5 v1 hcs' hnil ⟨rfl, rfl⟩
      | _ => exact h6.elim
    | exit i => exact h4.elim
    | pan a => cases e with
      | panic ch =>
        obtain ⟨v, rfl, hv⟩ := h6
        show Leaves P fn act'.tmps _ act'.defers (.panicking [{ v, recovered := false }]) w'
        rw [hdf']
        exact dend_ok hT h4 hun hG h5 v1 hcs' hv rfl
      | _ => exact h6.elim
  | _ => exact h3.elim
theorem Dend.by {k d : Nat} {b : Bool} {cl : List AV} {pv : AV} {rs : List ResultVar} {res : AV} {bout : List (Option Blk)} {s : LS} (ρ sn : List Nat) {as : List AV} {apv : AV} {bin' : List Blk} {bout' : List (Option Blk)} (hc : CtrD P d b as apv bin' bout')
    (h1 : decide ρ.Nodup = true) (h2 : Nat.beq ρ.length bin'.length = true) (h3 : Nat.beq bout'.length bin'.length = true) (h4 : boutOk ρ.length bout' = true) (h5 : cvL s.st.m ρ [] (seenS ρ sn) (cl ++ [pv]) (as ++ [apv]))
    (h6 : cvO s.st.m ρ (seenS ρ sn) 0 (bin'.map some)) (h7 : (ρ ++ sn).all (fun k => (s.st.m k).isSome) = true) (ρ' : List Nat) (h9 : rhoOk k ρ' = true) (h10 : Nat.beq ρ'.length bout.length = true)
    (h : afinR T ρ' rs (.ret res) bout .ret ⟨s.st.t, updM s.st.m (callUp ρ sn Quiet bout'), s.nx + 1⟩) (h0 : Nat.blt s.nx HMod = true := by rfl) : Dend P T k d b cl pv rs res bout s := by
  refine ⟨ρ, sn, as, apv, bin', bout', ⟨of_decide_eq_true h1, Nat.eq_of_beq_eq_true h2, by rw [Nat.sub_self]; simp [fresh], (Nat.eq_of_beq_eq_true h3).trans (Nat.eq_of_beq_eq_true h2).symm, h4, h5, ?_, fun k hk => ?_, rfl⟩, hc, h0, ρ', h9, Nat.eq_of_beq_eq_true h10, h⟩
  · have := cvO_ok h6
    have e : ofLO (bin'.map some) = ofL bin' := by
      funext i
      unfold ofLO ofL
      rw [List.getElem?_map]
      cases bin'[i]? <;> rfl
    rw [e] at this
    exact this
  · exact Option.isSome_iff_exists.1 (List.all_eq_true.1 h7 k hk)
end
end Go.Proofs.YtbpcbhmdjphodaaGreat.am

namespace Go.Proofs.YtbpcbhmdjphodaaGreat.am
open Go Go.RowKit Go.ChangeShapes Go.WideShapes Go.ChangeAt
set_option linter.unusedSimpArgs false

mutual
/-- trees of a type's cells -/
inductive Fits (P : Program) : Nat → List Tr → Prop
  | bool {t : Nat} (b : Bool) : P.underlying t = some .bool → Fits P t [.v (.bool b)]
  | int {t : Nat} {k : IntKind} (n : Int) : P.underlying t = some (.int k) → Fits P t [.v (.int k n)]
  | str {t : Nat} (s : ByteArray) : P.underlying t = some .string → Fits P t [.v (.string s)]
  | slice {t e : Nat} (rows : List (List Tr)) : P.underlying t = some (.slice e) → FitsR P e rows → Fits P t [.lst (P.cellsOf e) (P.bytesOf e) rows]
  | struct {t : Nat} {fs : Array Field} (l : List Tr) : P.underlying t = some (.struct fs) → FitsL P (fs.toList.map (·.type)) l → Fits P t l
inductive FitsR (P : Program) : Nat → List (List Tr) → Prop
  | nil {e : Nat} : FitsR P e []
  | cons {e : Nat} {r : List Tr} {rows : List (List Tr)} : Fits P e r → FitsR P e rows → FitsR P e (r :: rows)
inductive FitsL (P : Program) : List Nat → List Tr → Prop
  | nil : FitsL P [] []
  | cons {t : Nat} {ts : List Nat} {a b : List Tr} : Fits P t a → FitsL P ts b → FitsL P (t :: ts) (a ++ b)
end
/-- fields without gaps -/
def layB (P : Program) : List Field → Nat → Nat → Bool
  | [], o, n => Nat.beq o n
  | f :: fs, o, n => Nat.beq f.offset o && layB P fs (o + P.cellsOf f.type) n
/-- types that are made of numbers, truths, texts, slices and structs alone -/
def closedB (P : Program) (S : List Nat) : Bool := S.all fun t => Nat.blt 0 (P.cellsOf t) && match P.underlying t with
  | some .bool | some (.int _) | some .string => Nat.beq (P.cellsOf t) 1
  | some (.slice e) => Nat.beq (P.cellsOf t) 1 && S.contains e
  | some (.struct fs) => layB P fs.toList 0 (P.cellsOf t) && fs.toList.all fun f => S.contains f.type
  | _ => false

section
variable {P : Program} {H : Type} {enc : TypeId × Value → H} {w : World} {ok : Nat → Prop}
theorem lit_good {k : IntKind} {n : Int} (h : (Lit.int k n).wf = true) : good (.int k n) := by
  simpa [Lit.wf, good] using h
def RepL (ok : Nat → Prop) (w : World) (cs : List Value) (trs : List Tr) : Prop := cs.length = trs.length ∧ ∀ (i : Nat) (c : Value) (t : Tr), cs[i]? = some c → trs[i]? = some t → RepT ok w c t
theorem RepL.one {c : Value} {t : Tr} (h : RepT ok w c t) : RepL ok w [c] [t] := ⟨rfl, fun i c' t' h1 h2 => by
  cases i with
  | zero => simp at h1 h2; subst h1; subst h2; exact h
  | succ i => simp at h1⟩
theorem RepL.append {a b : List Value} {x y : List Tr} (h1 : RepL ok w a x) (h2 : RepL ok w b y) : RepL ok w (a ++ b) (x ++ y) := by
  refine ⟨by simp [h1.1, h2.1], fun i c t e1 e2 => ?_⟩
  by_cases hi : i < a.length
  · rw [List.getElem?_append_left hi] at e1
    rw [List.getElem?_append_left (by rw [← h1.1]; exact hi)] at e2
    exact h1.2 i c t e1 e2
  · rw [List.getElem?_append_right (by omega)] at e1
    rw [List.getElem?_append_right (by rw [← h1.1]; omega), ← h1.1] at e2
    exact h2.2 _ c t e1 e2
theorem all_app {l l' : List Nat} (h : (l ++ l').all (· ≤ reachBytes) = true) : l.all (· ≤ reachBytes) = true ∧ l'.all (· ≤ reachBytes) = true := by
  rw [List.all_append, Bool.and_eq_true] at h; exact h
theorem lit_reach : reachBytes = 140737488351232 := by decide
/-- the fields of a struct -/
theorem read_fields {S : List Nat} {fuel : Nat} (ih : ∀ t cs d ps, t ∈ S → DataW.trod enc P w 0 (fun _ => true) true fuel t cs = some (d, ps) → (d.weights P t).all (· ≤ reachBytes) = true → (∀ x ∈ ps, x.block < w.heap.size) → ∃ trs, Fits P t trs ∧ RepL ok w cs trs) (cs : List Value) :
    ∀ (fs : List Field) (xs : List (DataW H × List MemPlace)) (o n : Nat), cs.length = n → xs.length = fs.length → layB P fs o n = true → (∀ f ∈ fs, f.type ∈ S) → o ≤ n →
    (∀ (i : Nat) (f : Field), fs[i]? = some f → DataW.trod enc P w 0 (fun _ => true) true fuel f.type ((cs.drop f.offset).take (P.cellsOf f.type)) = xs[i]?) →
    (DataW.weightsEach P (fs.map (·.type)) (xs.map (·.1))).all (· ≤ reachBytes) = true → (∀ x ∈ xs.flatMap (·.2), x.block < w.heap.size) → ∃ trs, FitsL P (fs.map (·.type)) trs ∧ RepL ok w (cs.drop o) trs := by
  intro fs
  induction fs with
  | nil =>
    intro xs o n hn hx hl _ _ _ _ _
    have : o = n := Nat.eq_of_beq_eq_true hl
    refine ⟨[], .nil, ?_⟩
    rw [List.drop_of_length_le (by omega)]
    exact ⟨rfl, fun i c t h => by simp at h⟩
  | cons f fs ihf =>
    intro xs o n hn hx hl hS ho hf hw hp
    cases xs with
    | nil => simp at hx
    | cons x xs =>
      unfold layB at hl
      simp only [Bool.and_eq_true] at hl
      have hfo : f.offset = o := Nat.eq_of_beq_eq_true hl.1
      have h0 := hf 0 f rfl
      simp only [List.getElem?_cons_zero] at h0
      obtain ⟨hw1, hw2⟩ := all_app (by simpa [DataW.weightsEach] using hw : (x.1.weights P f.type ++ DataW.weightsEach P (fs.map (·.type)) (xs.map (·.1))).all (· ≤ reachBytes) = true)
      have hle : o + P.cellsOf f.type ≤ n := by
        have key : ∀ (fs : List Field) (a : Nat), layB P fs a n = true → a ≤ n := by
          intro fs
          induction fs with
          | nil => intro a h; have : a = n := Nat.eq_of_beq_eq_true h; omega
          | cons g gs ihg => intro a h; unfold layB at h; simp only [Bool.and_eq_true] at h; have := ihg _ h.2; omega
        exact key fs _ hl.2
      obtain ⟨t1, q1, q2⟩ := ih f.type _ x.1 x.2 (hS f (by simp)) (by rw [h0]) hw1 (fun y hy => hp y (by simp [hy]))
      obtain ⟨t2, q3, q4⟩ := ihf xs (o + P.cellsOf f.type) n hn (by simpa using hx) hl.2 (fun g hg => hS g (by simp [hg])) hle (fun i g hg => by have := hf (i + 1) g (by simpa using hg); simpa using this) hw2 (fun y hy => hp y (by simp at hy ⊢; exact .inr hy))
      refine ⟨t1 ++ t2, .cons q1 q3, ?_⟩
      have : cs.drop o = (cs.drop f.offset).take (P.cellsOf f.type) ++ cs.drop (o + P.cellsOf f.type) := by
        rw [hfo, ← List.drop_drop, List.take_append_drop]
      rw [this]
      exact q2.append q4
theorem fitsR_map {e : Nat} {rows : List (List Tr)} (h : ∀ r ∈ rows, Fits P e r) : FitsR P e rows := by
  induction rows with
  | nil => exact .nil
  | cons r rows ih => exact .cons (h r (by simp)) (ih fun r hr => h r (by simp [hr]))
theorem weights_mem {e : Nat} {l : List (DataW H)} (h : (DataW.weightsAll P e l).all (· ≤ reachBytes) = true) : ∀ d ∈ l, (d.weights P e).all (· ≤ reachBytes) = true := by
  induction l with
  | nil => intro d hd; simp at hd
  | cons x l ih =>
    unfold DataW.weightsAll at h
    obtain ⟨h1, h2⟩ := all_app h
    intro d hd
    simp only [List.mem_cons] at hd
    rcases hd with rfl | hd
    · exact h1
    · exact ih h2 d hd
theorem read {S : List Nat} (hS : closedB P S = true) (hok : ∀ b, b < w.heap.size → ok b) : ∀ (fuel : Nat) (t : Nat) (cs : List Value) (d : DataW H) (ps : List MemPlace), t ∈ S → DataW.trod enc P w 0 (fun _ => true) true fuel t cs = some (d, ps) →
    (d.weights P t).all (· ≤ reachBytes) = true → (∀ x ∈ ps, x.block < w.heap.size) → ∃ trs, Fits P t trs ∧ RepL ok w cs trs := by
  intro fuel
  induction fuel with
  | zero => intro t cs d ps _ h; simp [DataW.trod] at h
  | succ fuel ih =>
    intro t cs d ps ht h hw hp
    have hc := List.all_eq_true.1 hS t ht
    simp only [Bool.and_eq_true] at hc
    obtain ⟨hpos, hc⟩ := hc
    cases hu : P.underlying t with
    | none => rw [hu] at hc; cases hc
    | some u =>
      rw [hu] at hc
      cases u with
      | bool =>
        obtain ⟨b, rfl, _⟩ := DataW.trod_bool hu h
        exact ⟨_, .bool b hu, .one (.v trivial)⟩
      | int k =>
        obtain ⟨n, rfl, _, hwf⟩ := DataW.trod_int hu h
        exact ⟨_, .int n hu, .one (.v (lit_good hwf))⟩
      | string =>
        obtain ⟨s, rfl, _, hs⟩ := DataW.trod_string hu h
        exact ⟨_, .str s hu, .one (.v (by unfold maxLen at hs; exact hs))⟩
      | slice e =>
        simp only [Bool.and_eq_true] at hc
        have he : e ∈ S := List.contains_iff_mem.1 hc.2
        have hce := List.all_eq_true.1 hS e he
        simp only [Bool.and_eq_true] at hce
        have hcp : 0 < P.cellsOf e := Nat.le_of_ble_eq_true hce.1
        rcases DataW.trod_slice hu h with ⟨rfl, _⟩ | ⟨a, len, cap, elems, rest, n, hn, rfl, hx, _, h1, h2, h3, h4, h5, _⟩
        · exact ⟨_, .slice [] hu .nil, .one (RepT.nil _ _ (.v ⟨rfl, rfl, rfl⟩))⟩
        · obtain rfl : n = fuel := by omega
          simp only [Prod.mk.injEq] at hx
          obtain ⟨rfl, rfl⟩ := hx
          obtain ⟨h6, _⟩ := h5 rfl
          unfold DataW.weights at hw
          rw [hu] at hw
          simp only [List.all_cons, Bool.and_eq_true, List.length_map] at hw
          obtain ⟨hw0, hw1⟩ := hw
          obtain ⟨hw1, _⟩ := all_app hw1
          have hw0 := of_decide_eq_true hw0
          rw [lit_reach] at hw0
          have hcb : cap * P.bytesOf e ≤ 140737488351232 := by rw [h3, h6] at hw0; rw [show len + (cap - len) = cap by omega] at hw0; exact hw0
          -- each element
          have each : ∀ i, i < len → ∃ cs' trs, w.cells? 0 (a.add (i * P.cellsOf e)) (P.cellsOf e) = some cs' ∧ Fits P e trs ∧ RepL ok w cs' trs := by
            intro i hi
            have q := h4 i hi
            have hx' : elems[i]? = some (elems[i]'(by omega)) := by simp [h3, hi]
            rw [hx'] at q
            obtain ⟨cs', q1, q2⟩ := Option.bind_eq_some_iff.1 q
            obtain ⟨trs, q3, q4⟩ := ih e cs' (elems[i]'(by omega)).1 (elems[i]'(by omega)).2 he q2 (weights_mem hw1 _ (List.mem_map.2 ⟨_, List.getElem_mem _, rfl⟩)) (fun x hx => hp x (by
              refine List.mem_append_right _ (List.mem_flatMap.2 ⟨elems[i]'(by omega), List.mem_append_left _ (List.getElem_mem _), hx⟩)))
            exact ⟨cs', trs, q1, q3, q4⟩
          -- all of them
          have all : ∀ m, m ≤ len → ∃ (rows : List (List Tr)) (css : List (List Value)), rows.length = m ∧ css.length = m ∧ (∀ i, i < m → ∃ cs' trs, css[i]? = some cs' ∧ rows[i]? = some trs ∧ w.cells? 0 (a.add (i * P.cellsOf e)) (P.cellsOf e) = some cs' ∧ Fits P e trs ∧ RepL ok w cs' trs) := by
            intro m
            induction m with
            | zero => intro _; exact ⟨[], [], rfl, rfl, fun i hi => by omega⟩
            | succ m ihm =>
              intro hm
              obtain ⟨rows, css, q1, q2, q3⟩ := ihm (by omega)
              obtain ⟨cs', trs, q4, q5, q6⟩ := each m (by omega)
              refine ⟨rows ++ [trs], css ++ [cs'], by simp [q1], by simp [q2], fun i hi => ?_⟩
              by_cases hlt : i < m
              · obtain ⟨c1, t1, w1, w2, w3⟩ := q3 i hlt
                exact ⟨c1, t1, by rw [List.getElem?_append_left (by omega)]; exact w1, by rw [List.getElem?_append_left (by omega)]; exact w2, w3⟩
              · obtain rfl : i = m := by omega
                exact ⟨cs', trs, by rw [List.getElem?_append_right (by omega)]; simp [q2], by rw [List.getElem?_append_right (by omega)]; simp [q1], q4, q5, q6⟩
          obtain ⟨rows, css, r1, r2, r3⟩ := all len (Nat.le_refl _)
          refine ⟨_, .slice rows hu (fitsR_map fun r hr => ?_), .one ?_⟩
          · obtain ⟨i, hi⟩ := List.mem_iff_getElem?.1 hr
            obtain ⟨_, _, _, w2, _, w4, _⟩ := r3 i (by have := (List.getElem?_eq_some_iff.1 hi).1; omega)
            rw [hi] at w2; cases w2; exact w4
          · refine .lst (fun i j => ((css.getD i []).getD j default)) r1.symm h1 (by unfold maxLen at h2; exact h2) (Nat.le_trans (Nat.mul_le_mul_right _ h1) hcb) (fun h => by cases h) (fun i row hr => ?_) (fun i row j t hr hj => ?_)
            · have hi : i < len := by have := (List.getElem?_eq_some_iff.1 hr).1; omega
              obtain ⟨cs', trs, w1, w2, w3, w4, w5⟩ := r3 i hi
              rw [hr] at w2; cases w2
              have hsp : a.spot = none := by
                obtain ⟨cs0, _, _, _, z3, _, _⟩ := r3 0 (by omega)
                obtain ⟨_, c2, c3⟩ := World.cells?_some z3
                have := c3 0 hcp
                rw [List.getElem?_eq_getElem (by omega)] at this
                have := World.cell?_spot this
                simpa [Addr.add] using this
              obtain ⟨c1, c2, c3⟩ := World.cells?_some w3
              refine ⟨by rw [← w5.1]; exact c2, a.block, a.off, ?_, ?_, fun j hj => ?_⟩
              · obtain ⟨x, y, z⟩ := a; simp only at hsp; rw [hsp]
              · refine hok _ ?_
                have := c3 0 hcp
                rw [List.getElem?_eq_getElem (by omega)] at this
                have hb := World.cells?_block w3 hcp
                simp only [Addr.add] at hb
                split at hb <;> exact hb
              · have q := c3 j hj
                have hadd : (a.add (i * P.cellsOf e)).add j = ⟨a.block, a.off + i * P.cellsOf e + j, none⟩ := by
                  obtain ⟨x, y, z⟩ := a
                  simp only at hsp
                  subst hsp
                  unfold Addr.add
                  by_cases h1 : i * P.cellsOf e = 0
                  · rw [if_pos h1]
                    by_cases h2 : j = 0
                    · simp [h1, h2]
                    · simp [h1, h2]
                  · rw [if_neg h1]
                    by_cases h2 : j = 0
                    · simp [h2]
                    · simp [h2]
                rw [hadd] at q
                rw [q, List.getElem?_eq_getElem (by omega)]
                simp [w1, c2, hj, List.getD]
            · have hi : i < len := by have := (List.getElem?_eq_some_iff.1 hr).1; omega
              obtain ⟨cs', trs, w1, w2, w3, w4, w5⟩ := r3 i hi
              rw [hr] at w2; cases w2
              have hjl : j < cs'.length := by rw [w5.1]; exact (List.getElem?_eq_some_iff.1 hj).1
              have := w5.2 j (cs'[j]) t (by simp [hjl]) hj
              simpa [w1, List.getD, hjl] using this
      | struct fs =>
        simp only [Bool.and_eq_true] at hc
        obtain ⟨xs, n, hn, hx, hl, hlen, hf⟩ := DataW.trod_struct hu h
        obtain rfl : n = fuel := by omega
        simp only [Prod.mk.injEq] at hx
        obtain ⟨rfl, rfl⟩ := hx
        unfold DataW.weights at hw
        rw [hu] at hw
        obtain ⟨trs, q1, q2⟩ := read_fields (S := S) (fun t cs d ps a b c e => ih t cs d ps a b c e) cs fs.toList xs 0 (P.cellsOf t) hl (by simpa using hlen) hc.1 (fun f hf => List.contains_iff_mem.1 (List.all_eq_true.1 hc.2 f hf)) (Nat.zero_le _) (fun i f h => hf i f (by simpa using h)) hw hp
        exact ⟨trs, .struct trs hu q1, by simpa using q2⟩
      | _ => cases hc
end
end Go.Proofs.YtbpcbhmdjphodaaGreat.am

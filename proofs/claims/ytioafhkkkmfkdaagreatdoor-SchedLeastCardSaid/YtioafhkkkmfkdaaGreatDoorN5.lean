/- Plain: the trees of programs, as rows of the abstract machine. No program of the seat. Plain: what the reference's Check computes. Plain: names. Plain: a heap in a list: putting in and taking out the least. No program. Plain arithmetic of words: what the operators make of two words. No program. Plain law of reading and writing words. No program. Plain law: words and signs there and back. No program. -/
import Derived.Test.YtioafhkkkmfkdaaGreatDoorN4
import Derived.Test.YtioafhkkkmfkdaaGreatDoorN1
import Derived.WalkKit
set_option linter.all false

namespace Go.Proofs.YtioafhkkkmfkdaaGreatDoor.am
open Go

structure Decl where
  name : ByteArray
  word : Int
  at_ : Int
inductive Expr where
  | mk (kind op : Int) (word : Int) (name : ByteArray) (kids : List Expr) (at_ : Int)
inductive Stmt where
  | mk (kind : Int) (name other : ByteArray) (e : List Expr) (body els : List Stmt) (at_ : Int)
structure Thread where
  name : ByteArray
  locals : List Decl
  body : List Stmt
  at_ : Int
structure Prg where
  shared : List Decl
  locks : List Decl
  threads : List Thread
structure Flt where
  at_ : Int
  rule : Int

def Decl.cells (d : Decl) : List Tr := [ts d.name, ti d.word, ti d.at_]
abbrev declsT (l : List Decl) : Tr := .lst 3 32 (l.map Decl.cells)
mutual
def Expr.cells : Expr → List Tr
  | .mk kind op word name kids at_ => [tu kind, tu op, ti word, ts name, .lst 6 64 (Expr.rows kids), ti at_]
def Expr.rows : List Expr → List (List Tr)
  | [] => []
  | e :: l => Expr.cells e :: Expr.rows l
end
abbrev exprsT (l : List Expr) : Tr := .lst 6 64 (Expr.rows l)
mutual
def Stmt.cells : Stmt → List Tr
  | .mk kind name other e body els at_ => [tu kind, ts name, ts other, .lst 6 64 (Expr.rows e), .lst 7 120 (Stmt.rows body), .lst 7 120 (Stmt.rows els), ti at_]
def Stmt.rows : List Stmt → List (List Tr)
  | [] => []
  | s :: l => Stmt.cells s :: Stmt.rows l
end
abbrev stmtsT (l : List Stmt) : Tr := .lst 7 120 (Stmt.rows l)
def Thread.cells (t : Thread) : List Tr := [ts t.name, declsT t.locals, stmtsT t.body, ti t.at_]
abbrev threadsT (l : List Thread) : Tr := .lst 4 72 (l.map Thread.cells)
def Prg.av (p : Prg) : AV := .agg [.tr (declsT p.shared), .tr (declsT p.locks), .tr (threadsT p.threads)]
def Decl.av (d : Decl) : AV := .agg (d.cells.map .tr)
def Thread.av (t : Thread) : AV := .agg (t.cells.map .tr)
def Expr.av (e : Expr) : AV := .agg (e.cells.map .tr)
def Stmt.av (s : Stmt) : AV := .agg (s.cells.map .tr)
def Flt.av (f : Flt) : AV := .agg [.tr (ti f.at_), .tr (ti f.rule)]

theorem map_get {α β : Type} {f : α → β} {l : List α} {i : Nat} {y : β} (h : (l.map f)[i]? = some y) : ∃ x, l[i]? = some x ∧ f x = y := by simpa using h
theorem drop_cons {α : Type} {l : List α} {i : Nat} {x : α} (h : l[i]? = some x) : l.drop i = x :: l.drop (i + 1) := by
  have := (List.getElem?_eq_some_iff.1 h)
  obtain ⟨h1, rfl⟩ := this
  exact List.drop_eq_getElem_cons h1
theorem take_snoc {α : Type} {l : List α} {i : Nat} {x : α} (h : l[i]? = some x) : l.take (i + 1) = l.take i ++ [x] := by
  rw [List.take_add_one, h]; rfl
/-- two texts are the same -/
abbrev seq (a b : ByteArray) : Bool := a.toList == b.toList

/-! the reference's answers -/
def findI : List Decl → ByteArray → Nat → Int
  | [], _, _ => -1
  | d :: l, s, k => if seq d.name s then k else findI l s (k + 1)
def threadI : List Thread → ByteArray → Nat → Int
  | [], _, _ => -1
  | d :: l, s, k => if seq d.name s then k else threadI l s (k + 1)
def localI (p : Prg) (t : Int) (name : ByteArray) : Int :=
  if t < 0 then -1 else match p.threads[t.toNat]? with
    | some th => findI th.locals name 0
    | none => -1
end Go.Proofs.YtioafhkkkmfkdaaGreatDoor.am

namespace Go.Proofs.YtioafhkkkmfkdaaGreatDoor.am
open Go

def variableI (p : Prg) (t : Int) (name : ByteArray) (shared : Bool) : Int :=
  bif decide (localI p t name ≥ 0) then (bif shared then 6 else 0)
  else bif decide (findI p.shared name 0 ≥ 0) then 0
  else bif decide (findI p.locks name 0 ≥ 0) || decide (threadI p.threads name 0 ≥ 0) then 6 else 5
def lockI (p : Prg) (t : Int) (name : ByteArray) : Int :=
  bif decide (localI p t name ≥ 0) then 6
  else bif decide (findI p.locks name 0 ≥ 0) then 0
  else bif decide (findI p.shared name 0 ≥ 0) || decide (threadI p.threads name 0 ≥ 0) then 6 else 5
def leastI (a b : Int) : Int := bif (a == 0) || (decide (b > 0) && decide (b < a)) then b else a
def noS (s : ByteArray) : Bool := seq s ⟨#[]⟩
def two (op : Int) : Bool := decide (op ≥ 1) && decide (op ≤ 16)
def partsB : Expr → Bool
  | .mk kind op word name kids _ =>
    bif kind == 1 then op == 0 && noS name && ((Expr.rows kids).length : Int) == 0 && decide (word ≥ 0)
    else bif kind == 2 then op == 0 && word == 0 && ((Expr.rows kids).length : Int) == 0
    else bif kind == 3 then word == 0 && noS name && ((Expr.rows kids).length : Int) == 1 && (op == 17 || op == 18)
    else bif kind == 4 then word == 0 && noS name && ((Expr.rows kids).length : Int) == 2 && two op
    else false
def fieldsB : Stmt → Bool
  | .mk kind name other e body els _ =>
    bif kind == 1 then noS other && ((Expr.rows e).length : Int) == 1 && !decide (((Stmt.rows body).length : Int) > 0) && !decide (((Stmt.rows els).length : Int) > 0)
    else bif kind == 2 then ((Expr.rows e).length : Int) == 1 && !decide (((Stmt.rows body).length : Int) > 0) && !decide (((Stmt.rows els).length : Int) > 0)
    else bif kind == 3 then noS name && noS other && ((Expr.rows e).length : Int) == 1
    else bif kind == 4 then noS name && noS other && ((Expr.rows e).length : Int) == 1 && !decide (((Stmt.rows els).length : Int) > 0)
    else bif kind == 5 then noS other && ((Expr.rows e).length : Int) == 0 && !decide (((Stmt.rows els).length : Int) > 0)
    else bif kind == 6 then noS name && noS other && ((Expr.rows e).length : Int) == 1 && !decide (((Stmt.rows body).length : Int) > 0) && !decide (((Stmt.rows els).length : Int) > 0)
    else bif kind == 7 then noS name && noS other && ((Expr.rows e).length : Int) == 0 && !decide (((Stmt.rows body).length : Int) > 0) && !decide (((Stmt.rows els).length : Int) > 0)
    else false
/-- behind the rule of a name: too deep -/
def deepI (r deep : Int) : Int := bif (r == 0) && decide (deep > 64) then 7 else r
mutual
def exprF (p : Prg) (t : Int) : Expr → Int → Flt
  | .mk kind op word name kids at_, deep =>
    bif !partsB (.mk kind op word name kids at_) then ⟨at_, 4⟩
    else bif deepI (bif kind == 2 then variableI p t name false else 0) deep != 0 then ⟨at_, deepI (bif kind == 2 then variableI p t name false else 0) deep⟩
    else exprsF p t kids (deep + 1)
def exprsF (p : Prg) (t : Int) : List Expr → Int → Flt
  | [], _ => ⟨0, 0⟩
  | e :: l, deep => bif (exprF p t e deep).rule != 0 then exprF p t e deep else exprsF p t l deep
end
/-- the rule of a statement's names -/
def namesI (p : Prg) (t : Int) (kind : Int) (name other : ByteArray) : Int :=
  bif kind == 1 then variableI p t name false
  else bif kind == 2 then leastI (variableI p t name false) (variableI p t other true)
  else bif kind == 5 then lockI p t name else 0
mutual
def stmtF (p : Prg) (t : Int) : Stmt → Int → Flt
  | .mk kind name other e body els at_, deep =>
    bif !fieldsB (.mk kind name other e body els at_) then ⟨at_, 4⟩
    else bif deepI (namesI p t kind name other) deep != 0 then ⟨at_, deepI (namesI p t kind name other) deep⟩
    else bif (exprsF p t e 1).rule != 0 then exprsF p t e 1
    else bif (stmtsF p t body (deep + 1)).rule != 0 then stmtsF p t body (deep + 1)
    else stmtsF p t els (deep + 1)
def stmtsF (p : Prg) (t : Int) : List Stmt → Int → Flt
  | [], _ => ⟨0, 0⟩
  | e :: l, deep => bif (stmtF p t e deep).rule != 0 then stmtF p t e deep else stmtsF p t l deep
end
end Go.Proofs.YtioafhkkkmfkdaaGreatDoor.am

namespace Go.Proofs.YtioafhkkkmfkdaaGreatDoor.am
open Go

def chI (s : ByteArray) (i : Nat) : Int := match s[i]? with
  | some b => b.toNat
  | none => 0
def digB (c : Int) : Bool := decide (c ≥ 48) && decide (c ≤ 57)
def letB (c : Int) : Bool := (decide (c ≥ 97) && decide (c ≤ 122)) || (decide (c ≥ 65) && decide (c ≤ 90)) || c == 95
def wordB (s : ByteArray) : Bool := seq s ⟨#[115, 104, 97, 114, 101, 100]⟩ || seq s ⟨#[108, 111, 99, 107]⟩ || seq s ⟨#[116, 104, 114, 101, 97, 100]⟩ || seq s ⟨#[108, 111, 99, 97, 108]⟩ || seq s ⟨#[105, 102]⟩
  || seq s ⟨#[101, 108, 115, 101]⟩ || seq s ⟨#[119, 104, 105, 108, 101]⟩ || seq s ⟨#[112, 114, 105, 110, 116]⟩ || seq s ⟨#[115, 107, 105, 112]⟩ || seq s ⟨#[115, 119, 97, 112]⟩
/-- n characters are left -/
def charsB (s : ByteArray) : Nat → Bool
  | 0 => true
  | n + 1 => bif !letB (chI s (s.size - (n + 1))) && !digB (chI s (s.size - (n + 1))) then false else charsB s n
def nameB (s : ByteArray) : Bool := bif decide ((s.size : Int) < 1) || decide ((s.size : Int) > 32) || digB (chI s 0) || wordB s then false else charsB s s.size
theorem charsB_at {s : ByteArray} {i : Nat} {b : UInt8} (h : s[i]? = some b) (hi : i < s.size) : charsB s (s.size - i) = bif !letB b.toNat && !digB b.toNat then false else charsB s (s.size - (i + 1)) := by
  have hc : chI s i = b.toNat := by unfold chI; rw [h]
  have e : s.size - i = (s.size - (i + 1)) + 1 := by omega
  rw [e]
  show (bif !letB (chI s (s.size - (s.size - (i + 1) + 1))) && !digB (chI s (s.size - (s.size - (i + 1) + 1))) then false else charsB s (s.size - (i + 1))) = _
  rw [show s.size - (s.size - (i + 1) + 1) = i by omega, hc]
theorem loop_len (bs : ByteArray) : ∀ (n i : Nat) (r : List UInt8), bs.size - i = n → (ByteArray.toList.loop bs i r).length = r.length + n := by
  intro n
  induction n with
  | zero => intro i r h; unfold ByteArray.toList.loop; rw [if_neg (by omega)]; simp
  | succ n ih => intro i r h; unfold ByteArray.toList.loop; rw [if_pos (by omega), ih (i + 1) _ (by omega)]; simp; omega
theorem toList_len (a : ByteArray) : a.toList.length = a.size := by
  unfold ByteArray.toList; rw [loop_len a a.size 0 [] rfl]; simp
theorem noS_size (s : ByteArray) : noS s = decide ((s.size : Int) < 1) := by
  unfold noS seq
  have h0 : (⟨#[]⟩ : ByteArray).toList = [] := by have := toList_len ⟨#[]⟩; exact List.eq_nil_of_length_eq_zero this
  rw [h0]
  have h1 := toList_len s
  cases h : s.toList with
  | nil => rw [h] at h1; simp at h1; simp [← h1]
  | cons a l => rw [h] at h1; simp at h1; simp; omega

/-! declarations -/
def twiceB (p : Prg) (kind : Int) (pre : List Decl) (name : ByteArray) : Bool :=
  decide (findI pre name 0 ≥ 0) || ((kind == 1 || kind == 2) && decide (findI p.shared name 0 ≥ 0)) || (kind == 2 && decide (findI p.locks name 0 ≥ 0))
def wordI (kind word : Int) : Bool := (kind == 0 && word == -9223372036854775808) || (kind != 0 && word != 0)
def declI (p : Prg) (kind : Int) (pre : List Decl) (d : Decl) (i most : Int) : Int :=
  bif !nameB d.name then 1 else bif twiceB p kind pre d.name then 2 else bif decide (i ≥ most) then 3 else bif wordI kind d.word then 4 else 0
/-- the fault of declarations behind those gone over -/
def declsF (p : Prg) (kind most : Int) : List Decl → List Decl → Flt
  | _, [] => ⟨0, 0⟩
  | pre, d :: l => bif declI p kind pre d pre.length most != 0 then ⟨d.at_, declI p kind pre d pre.length most⟩ else declsF p kind most (pre ++ [d]) l
def threadsF (p : Prg) : Nat → List Thread → Flt → Flt
  | _, [], f => f
  | i, t :: l, f => bif f.rule != 0 then f else
      bif !nameB t.name then ⟨t.at_, 1⟩
      else bif decide (findI p.shared t.name 0 ≥ 0) || decide (findI p.locks t.name 0 ≥ 0) || decide (threadI p.threads t.name 0 < i) then ⟨t.at_, 2⟩
      else bif decide ((i : Int) ≥ 8) then ⟨t.at_, 3⟩
      else threadsF p (i + 1) l (bif (declsF p 2 64 [] t.locals).rule == 0 then stmtsF p i t.body 1 else declsF p 2 64 [] t.locals)
def firstF (p : Prg) : Flt :=
  threadsF p 0 p.threads (bif (declsF p 0 64 [] p.shared).rule == 0 then declsF p 1 16 [] p.locks else declsF p 0 64 [] p.shared)
end Go.Proofs.YtioafhkkkmfkdaaGreatDoor.am

namespace Go.Proofs.YtioafhkkkmfkdaaGreatDoor.hp
set_option linter.all false

section
variable {α : Type}
def swp (d : α) (l : List α) (i j : Nat) : List α := (l.set i (l.getD j d)).set j (l.getD i d)
theorem swp_len (d : α) (l : List α) (i j : Nat) : (swp d l i j).length = l.length := by unfold swp; simp
theorem getD_set (d : α) (l : List α) (i : Nat) (x : α) (k : Nat) (h : i < l.length) : (l.set i x).getD k d = if k = i then x else l.getD k d := by
  rw [List.getD_eq_getElem?_getD, List.getD_eq_getElem?_getD, List.getElem?_set]
  by_cases e : k = i
  · subst e; simp [h]
  · rw [if_neg e, if_neg (fun e' => e e'.symm)]
theorem swp_get (d : α) (l : List α) {i j : Nat} (hi : i < l.length) (hj : j < l.length) (k : Nat) : (swp d l i j).getD k d = if k = j then l.getD i d else if k = i then l.getD j d else l.getD k d := by
  unfold swp
  rw [getD_set d _ j _ k (by rw [List.length_set]; exact hj), getD_set d l i _ k hi]
theorem set_perm (d : α) : ∀ (l : List α) (i : Nat) (x : α), i < l.length → (l.getD i d :: l.set i x).Perm (x :: l)
  | [], _, _, h => by cases h
  | a :: l, 0, x, _ => by
    show (a :: x :: l).Perm (x :: a :: l)
    exact List.Perm.swap ..
  | a :: l, i + 1, x, h => by
    have ih := set_perm d l i x (by simpa using h)
    show (l.getD i d :: a :: l.set i x).Perm (x :: a :: l)
    exact (List.Perm.swap ..).trans ((ih.cons a).trans (List.Perm.swap ..))
theorem swp_perm (d : α) (l : List α) {i j : Nat} (hi : i < l.length) (hj : j < l.length) : (swp d l i j).Perm l := by
  have h1 := set_perm d l i (l.getD j d) hi
  have h2 := set_perm d (l.set i (l.getD j d)) j (l.getD i d) (by rw [List.length_set]; exact hj)
  have e : (l.set i (l.getD j d)).getD j d = l.getD j d := by
    rw [getD_set d l i _ j hi]
    by_cases h : j = i
    · rw [if_pos h]
    · rw [if_neg h]
  rw [e] at h2
  exact (List.Perm.cons_inv (h2.trans (h1.trans (List.Perm.refl _))))
/-- the way up -/
def upH (d : α) (lt : α → α → Bool) : Nat → List α → Nat → List α
  | 0, l, _ => l
  | f + 1, l, j => bif ((j - 1) / 2 == j) || !lt (l.getD j d) (l.getD ((j - 1) / 2) d) then l else upH d lt f (swp d l ((j - 1) / 2) j) ((j - 1) / 2)
/-- the lesser child -/
def chH (d : α) (lt : α → α → Bool) (l : List α) (i n : Nat) : Nat := bif decide (2 * i + 2 < n) && lt (l.getD (2 * i + 2) d) (l.getD (2 * i + 1) d) then 2 * i + 2 else 2 * i + 1
/-- the way down, among the first n -/
def downH (d : α) (lt : α → α → Bool) (n : Nat) : Nat → List α → Nat → List α
  | 0, l, _ => l
  | f + 1, l, i => bif decide (2 * i + 1 ≥ n) || !lt (l.getD (chH d lt l i n) d) (l.getD i d) then l else downH d lt n f (swp d l i (chH d lt l i n)) (chH d lt l i n)
/-- an order of which what is not less is not less in a row -/
structure Ord (lt : α → α → Bool) : Prop where
  asym : ∀ a b, lt a b = true → lt b a = false
  trans : ∀ a b c, lt b a = false → lt c b = false → lt c a = false
def Heap (d : α) (lt : α → α → Bool) (l : List α) : Prop := ∀ k, 0 < k → k < l.length → lt (l.getD k d) (l.getD ((k - 1) / 2) d) = false
theorem heap_least {d : α} {lt : α → α → Bool} (ho : Ord lt) {l : List α} (h : Heap d lt l) : ∀ k, k < l.length → lt (l.getD k d) (l.getD 0 d) = false := by
  intro k
  induction k using Nat.strongRecOn with
  | _ k ih =>
    intro hk
    by_cases e : k = 0
    · subst e
      cases hb : lt (l.getD 0 d) (l.getD 0 d) with
      | false => rfl
      | true => have := ho.asym _ _ hb; rw [hb] at this; cases this
    · exact ho.trans _ _ _ (ih ((k - 1) / 2) (by omega) (by omega)) (h k (by omega) hk)
theorem upH_perm (d : α) (lt : α → α → Bool) : ∀ (f : Nat) (l : List α) (j : Nat), j < l.length → (upH d lt f l j).Perm l
  | 0, l, _, _ => List.Perm.refl _
  | f + 1, l, j, h => by
    unfold upH
    cases ((j - 1) / 2 == j) || !lt (l.getD j d) (l.getD ((j - 1) / 2) d) with
    | true => exact List.Perm.refl _
    | false =>
      have hp : (j - 1) / 2 < l.length := by omega
      exact (upH_perm d lt f (swp d l ((j - 1) / 2) j) ((j - 1) / 2) (by rw [swp_len]; exact hp)).trans (swp_perm d l hp h)
theorem upH_heap {d : α} {lt : α → α → Bool} (ho : Ord lt) : ∀ (f : Nat) (l : List α) (j : Nat), j < f → j < l.length →
    (∀ k, 0 < k → k < l.length → k ≠ j → lt (l.getD k d) (l.getD ((k - 1) / 2) d) = false) → (∀ k, 0 < k → k < l.length → (k - 1) / 2 = j → 0 < j → lt (l.getD k d) (l.getD ((j - 1) / 2) d) = false) → Heap d lt (upH d lt f l j)
  | 0, _, _, h, _, _, _ => by omega
  | f + 1, l, j, hf, hj, h1, h2 => by
    unfold upH
    have hp : (j - 1) / 2 < l.length := by omega
    cases hb : ((j - 1) / 2 == j) || !lt (l.getD j d) (l.getD ((j - 1) / 2) d) with
    | true =>
      rw [cond_true]
      intro k hk hkl
      by_cases e : k = j
      · subst e
        rw [Bool.or_eq_true] at hb
        rcases hb with hb | hb
        · have : (k - 1) / 2 = k := by simpa using hb
          omega
        · simpa using hb
      · exact h1 k hk hkl e
    | false =>
      rw [cond_false]
      rw [Bool.or_eq_false_iff] at hb
      have hne : (j - 1) / 2 ≠ j := by simpa using hb.1
      have hlt : lt (l.getD j d) (l.getD ((j - 1) / 2) d) = true := by simpa using hb.2
      have hj0 : 0 < j := by omega
      refine upH_heap ho f (swp d l ((j - 1) / 2) j) ((j - 1) / 2) (by omega) (by rw [swp_len]; exact hp) (fun k hk hkl hkp => ?_) (fun k hk hkl hkp hp0 => ?_)
      · rw [swp_len] at hkl
        rw [swp_get d l hp hj, swp_get d l hp hj]
        by_cases e : k = j
        · subst e
          rw [if_pos rfl, if_neg hne, if_pos rfl]
          exact ho.asym _ _ hlt
        · rw [if_neg e, if_neg hkp]
          by_cases e2 : (k - 1) / 2 = j
          · rw [if_pos e2]
            exact h2 k hk hkl e2 hj0
          · rw [if_neg e2]
            by_cases e3 : (k - 1) / 2 = (j - 1) / 2
            · rw [if_pos e3]
              have h4 := h1 k hk hkl e
              rw [e3] at h4
              exact ho.trans _ _ _ (ho.asym _ _ hlt) h4
            · rw [if_neg e3]
              exact h1 k hk hkl e
      · rw [swp_len] at hkl
        rw [swp_get d l hp hj, swp_get d l hp hj]
        have ep : ((j - 1) / 2 - 1) / 2 ≠ j := by omega
        have ep2 : ((j - 1) / 2 - 1) / 2 ≠ (j - 1) / 2 := by omega
        rw [if_neg ep, if_neg ep2]
        have hpp := h1 ((j - 1) / 2) hp0 hp (by omega)
        by_cases e : k = j
        · rw [if_pos e]; exact hpp
        · rw [if_neg e, if_neg (by omega)]
          have h4 := h1 k hk hkl e
          rw [hkp] at h4
          exact ho.trans _ _ _ hpp h4
theorem chH_cases (d : α) (lt : α → α → Bool) (l : List α) (i n : Nat) : (chH d lt l i n = 2 * i + 2 ∧ 2 * i + 2 < n ∧ lt (l.getD (2 * i + 2) d) (l.getD (2 * i + 1) d) = true) ∨ (chH d lt l i n = 2 * i + 1 ∧ (2 * i + 2 < n → lt (l.getD (2 * i + 2) d) (l.getD (2 * i + 1) d) = false)) := by
  unfold chH
  cases hb : decide (2 * i + 2 < n) && lt (l.getD (2 * i + 2) d) (l.getD (2 * i + 1) d) with
  | true =>
    rw [Bool.and_eq_true] at hb
    exact .inl ⟨rfl, of_decide_eq_true hb.1, hb.2⟩
  | false =>
    refine .inr ⟨rfl, fun h => ?_⟩
    rw [decide_eq_true h] at hb
    exact hb
theorem downH_perm (d : α) (lt : α → α → Bool) (n : Nat) : ∀ (f : Nat) (l : List α) (i : Nat), n ≤ l.length → i < l.length → (downH d lt n f l i).Perm l
  | 0, l, _, _, _ => List.Perm.refl _
  | f + 1, l, i, hn, hi => by
    unfold downH
    cases hb : decide (2 * i + 1 ≥ n) || !lt (l.getD (chH d lt l i n) d) (l.getD i d) with
    | true => exact List.Perm.refl _
    | false =>
      rw [Bool.or_eq_false_iff] at hb
      have h1 := of_decide_eq_false hb.1
      have hc : chH d lt l i n < l.length := by rcases chH_cases d lt l i n with ⟨e, h, _⟩ | ⟨e, _⟩ <;> omega
      exact (downH_perm d lt n f _ _ (by rw [swp_len]; exact hn) (by rw [swp_len]; exact hc)).trans (swp_perm d l hi hc)
theorem downH_len (d : α) (lt : α → α → Bool) (n : Nat) : ∀ (f : Nat) (l : List α) (i : Nat), (downH d lt n f l i).length = l.length
  | 0, l, _ => rfl
  | f + 1, l, i => by
    unfold downH
    cases decide (2 * i + 1 ≥ n) || !lt (l.getD (chH d lt l i n) d) (l.getD i d) with
    | true => rfl
    | false => exact (downH_len d lt n f _ _).trans (swp_len ..)
theorem upH_len (d : α) (lt : α → α → Bool) : ∀ (f : Nat) (l : List α) (j : Nat), (upH d lt f l j).length = l.length
  | 0, l, _ => rfl
  | f + 1, l, j => by
    unfold upH
    cases ((j - 1) / 2 == j) || !lt (l.getD j d) (l.getD ((j - 1) / 2) d) with
    | true => rfl
    | false => exact (upH_len d lt f _ _).trans (swp_len ..)
/-- what lies at n and behind it stays -/
theorem downH_keep (d : α) (lt : α → α → Bool) (n : Nat) : ∀ (f : Nat) (l : List α) (i : Nat), n ≤ l.length → i < n → ∀ k, n ≤ k → (downH d lt n f l i).getD k d = l.getD k d
  | 0, l, _, _, _, _, _ => rfl
  | f + 1, l, i, hn, hi, k, hk => by
    unfold downH
    cases hb : decide (2 * i + 1 ≥ n) || !lt (l.getD (chH d lt l i n) d) (l.getD i d) with
    | true => rfl
    | false =>
      rw [Bool.or_eq_false_iff] at hb
      have h1 := of_decide_eq_false hb.1
      have hc : chH d lt l i n < n := by rcases chH_cases d lt l i n with ⟨e, h, _⟩ | ⟨e, _⟩ <;> omega
      rw [cond_false, downH_keep d lt n f _ _ (by rw [swp_len]; exact hn) hc k hk, swp_get d l (by omega) (by omega), if_neg (by omega), if_neg (by omega)]
theorem downH_heap {d : α} {lt : α → α → Bool} (ho : Ord lt) (n : Nat) : ∀ (f : Nat) (l : List α) (i : Nat), n < f + i → n ≤ l.length → i < n →
    (∀ k, 0 < k → k < n → (k - 1) / 2 ≠ i → lt (l.getD k d) (l.getD ((k - 1) / 2) d) = false) → (∀ k, 0 < k → k < n → (k - 1) / 2 = i → 0 < i → lt (l.getD k d) (l.getD ((i - 1) / 2) d) = false) →
    ∀ k, 0 < k → k < n → lt ((downH d lt n f l i).getD k d) ((downH d lt n f l i).getD ((k - 1) / 2) d) = false
  | 0, _, _, hf, _, hi, _, _ => by omega
  | f + 1, l, i, hf, hn, hi, h1, h2 => by
    unfold downH
    have hch := chH_cases d lt l i n
    generalize chH d lt l i n = c at hch
    cases hb : decide (2 * i + 1 ≥ n) || !lt (l.getD c d) (l.getD i d) with
    | true =>
      rw [cond_true]
      intro k hk hkn
      by_cases e : (k - 1) / 2 = i
      · rw [Bool.or_eq_true] at hb
        rcases hb with hb | hb
        · have := of_decide_eq_true hb; omega
        · have hb : lt (l.getD c d) (l.getD i d) = false := by simpa using hb
          rw [e]
          have hkc : k = 2 * i + 1 ∨ k = 2 * i + 2 := by omega
          rcases hch with ⟨rfl, q1, q2⟩ | ⟨rfl, q⟩
          · rcases hkc with rfl | rfl
            · exact ho.trans _ _ _ hb (ho.asym _ _ q2)
            · exact hb
          · rcases hkc with rfl | rfl
            · exact hb
            · exact ho.trans _ _ _ hb (q hkn)
      · exact h1 k hk hkn e
    | false =>
      rw [cond_false]
      rw [Bool.or_eq_false_iff] at hb
      have hn1 := of_decide_eq_false hb.1
      have hlt : lt (l.getD c d) (l.getD i d) = true := by simpa using hb.2
      have hc : c < n ∧ i < c ∧ (c - 1) / 2 = i := by rcases hch with ⟨e, h, _⟩ | ⟨e, _⟩ <;> omega
      have hil : i < l.length := by omega
      have hcl : c < l.length := by omega
      refine downH_heap ho n f (swp d l i c) c (by omega) (by rw [swp_len]; exact hn) hc.1 (fun k hk hkn hkp => ?_) (fun k hk hkn hkp _ => ?_)
      · rw [swp_get d l hil hcl, swp_get d l hil hcl, if_neg hkp]
        by_cases e : k = c
        · subst e
          rw [if_pos rfl, hc.2.2, if_pos rfl]
          exact ho.asym _ _ hlt
        · rw [if_neg e]
          by_cases e2 : (k - 1) / 2 = i
          · rw [if_pos e2, if_neg (by omega)]
            have hkc : k = 2 * i + 1 ∨ k = 2 * i + 2 := by omega
            rcases hch with ⟨rfl, q1, q2⟩ | ⟨rfl, q⟩
            · rcases hkc with rfl | rfl
              · exact ho.asym _ _ q2
              · exact absurd rfl e
            · rcases hkc with rfl | rfl
              · exact absurd rfl e
              · exact q hkn
          · rw [if_neg e2]
            by_cases e3 : k = i
            · subst e3
              rw [if_pos rfl]
              exact h2 c (by omega) hc.1 hc.2.2 hk
            · rw [if_neg e3]
              exact h1 k hk hkn e2
      · rw [swp_get d l hil hcl, swp_get d l hil hcl, hc.2.2, if_neg (by omega), if_neg (by omega), if_neg (by omega), if_pos rfl]
        have := h1 k hk hkn (by omega)
        rw [hkp] at this
        exact this
/-! putting in -/
def pushH (d : α) (lt : α → α → Bool) (l : List α) (x : α) : List α := upH d lt (l.length + 1) (l ++ [x]) l.length
theorem pushH_perm (d : α) (lt : α → α → Bool) (l : List α) (x : α) : (pushH d lt l x).Perm (x :: l) :=
  (upH_perm d lt _ _ _ (by simp)).trans (List.perm_append_singleton ..)
theorem getD_app (d : α) (l : List α) (x : α) {k : Nat} (h : k < l.length) : (l ++ [x]).getD k d = l.getD k d := by
  rw [List.getD_eq_getElem?_getD, List.getD_eq_getElem?_getD, List.getElem?_append_left h]
theorem pushH_heap {d : α} {lt : α → α → Bool} (ho : Ord lt) {l : List α} (h : Heap d lt l) (x : α) : Heap d lt (pushH d lt l x) := by
  refine upH_heap ho _ _ _ (by omega) (by simp) (fun k hk hkl hkp => ?_) (fun k hk hkl hkp hp0 => ?_)
  · simp only [List.length_append, List.length_singleton] at hkl
    rw [getD_app d l x (by omega), getD_app d l x (by omega)]
    exact h k hk (by omega)
  · simp only [List.length_append, List.length_singleton] at hkl
    omega
/-! taking out -/
def popH (d : α) (lt : α → α → Bool) (l : List α) : List α := downH d lt (l.length - 1) l.length (swp d l 0 (l.length - 1)) 0
theorem take_get (d : α) (l : List α) {n k : Nat} (h : k < n) : (l.take n).getD k d = l.getD k d := by
  rw [List.getD_eq_getElem?_getD, List.getD_eq_getElem?_getD, List.getElem?_take, if_pos h]
theorem popH_len (d : α) (lt : α → α → Bool) (l : List α) : (popH d lt l).length = l.length := (downH_len ..).trans (swp_len ..)
theorem popH_last (d : α) (lt : α → α → Bool) {l : List α} (h : 0 < l.length) : (popH d lt l).getD (l.length - 1) d = l.getD 0 d := by
  unfold popH
  by_cases e : l.length = 1
  · have h0 : l.length - 1 = 0 := by omega
    rw [h0, e]
    unfold downH
    rw [show decide (2 * 0 + 1 ≥ 0) = true from rfl, Bool.true_or, cond_true, swp_get d l h h, if_pos rfl]
  · rw [downH_keep d lt _ _ _ _ (by rw [swp_len]; omega) (by omega) _ (Nat.le_refl _), swp_get d l h (by omega), if_pos rfl]
theorem popH_heap {d : α} {lt : α → α → Bool} (ho : Ord lt) {l : List α} (h : Heap d lt l) (hl : 0 < l.length) : Heap d lt ((popH d lt l).take (l.length - 1)) := by
  intro k hk hkl
  rw [List.length_take, popH_len] at hkl
  have hkl : k < l.length - 1 := by omega
  rw [take_get d _ hkl, take_get d _ (by omega)]
  unfold popH
  refine downH_heap ho _ _ _ _ (by omega) (by rw [swp_len]; omega) (by omega) (fun k hk hkn hkp => ?_) (fun k hk hkn hkp h0 => by omega) k hk hkl
  rw [swp_get d l hl (by omega), swp_get d l hl (by omega), if_neg (by omega), if_neg (by omega), if_neg (by omega), if_neg hkp]
  exact h k hk (by omega)
theorem popH_perm (d : α) (lt : α → α → Bool) {l : List α} (hl : 0 < l.length) : (l.getD 0 d :: (popH d lt l).take (l.length - 1)).Perm l := by
  have hp : (popH d lt l).Perm l := (downH_perm d lt _ _ _ _ (by rw [swp_len]; omega) (by rw [swp_len]; exact hl)).trans (swp_perm d l hl (by omega))
  refine List.Perm.trans ?_ hp
  have hlast := popH_last d lt hl
  have hlen := popH_len d lt l
  generalize popH d lt l = q at hlast hlen
  have e : q = q.take (l.length - 1) ++ [l.getD 0 d] := by
    have h2 := List.take_append_drop (l.length - 1) q
    have h3 : q.drop (l.length - 1) = [l.getD 0 d] := by
      rw [List.drop_eq_getElem_cons (by omega), List.drop_of_length_le (by omega)]
      rw [← hlast, List.getD_eq_getElem?_getD, List.getElem?_eq_getElem (by omega)]
      rfl
    rw [h3] at h2
    exact h2.symm
  conv => rhs; rw [e]
  exact (List.perm_append_singleton ..).symm
end
end Go.Proofs.YtioafhkkkmfkdaaGreatDoor.hp

namespace Go.Proofs.YtioafhkkkmfkdaaGreatDoor.ws
open Go Go.RowKit

theorem ret_int {k : IntKind} {a b : Int} (h : a = b) : Ending.returned (.int k a) = .returned (.int k b) := by rw [h]
theorem ret_bool {a b : Bool} (h : a = b) : Ending.returned (.bool a) = .returned (.bool b) := by rw [h]
theorem ret_str {a b : ByteArray} (h : a = b) : Ending.returned (.string a) = .returned (.string b) := by rw [h]

def shN (b : Int) : Nat := (b % 64).toNat
def band (a b : Int) : Int := IntKind.i64.wrap ((BitVec.ofInt 64 a &&& BitVec.ofInt 64 b).toNat)
def bor (a b : Int) : Int := IntKind.i64.wrap ((BitVec.ofInt 64 a ||| BitVec.ofInt 64 b).toNat)
def bxor (a b : Int) : Int := IntKind.i64.wrap ((BitVec.ofInt 64 a ^^^ BitVec.ofInt 64 b).toNat)
def quo (a b : Int) : Int := if b = 0 then 0 else wrap64 (a.tdiv b)
def tr (c : Bool) : Int := if c then 1 else 0
def rem (a b : Int) : Int := if b = 0 then a else wrap64 (a - wrap64 (quo a b * b))

/-- what the operator of two with number op makes of a and b -/
def doV (op : Nat) (a b : Int) : Int :=
  match op with
  | 1 => wrap64 (a + b) | 2 => wrap64 (a - b) | 3 => wrap64 (a * b) | 4 => quo a b | 5 => rem a b
  | 6 => band a b | 7 => bor a b | 8 => bxor a b
  | 9 => wrap64 (a * 2 ^ shN b) | 10 => a / 2 ^ shN b
  | 11 => tr (a == b) | 12 => tr (a != b) | 13 => tr (decide (a < b)) | 14 => tr (decide (a ≤ b))
  | 15 => tr (decide (b < a)) | 16 => tr (decide (b ≤ a)) | _ => 0
def oneV (op : Nat) (a : Int) : Int :=
  match op with
  | 17 => wrap64 (-a) | 18 => tr (a == 0) | _ => 0

theorem and63_nat (b : Int) : (BitVec.ofInt 64 b &&& BitVec.ofInt 64 63).toNat = shN b := by
  have e : (BitVec.ofInt 64 63).toNat = 2 ^ 6 - 1 := by decide
  rw [BitVec.toNat_and, e, Nat.and_two_pow_sub_one_eq_mod, BitVec.toNat_ofInt]
  unfold shN
  omega
theorem shN_lt (b : Int) : shN b < 64 := by unfold shN; omega
theorem shN_u64 (b : Int) : shN (IntKind.u64.wrap b) = shN b := by unfold shN; rw [IntKind.wrap_u64]; omega
theorem bits_and63 (b : Int) : bits BinOp.and IntKind.u64 (IntKind.u64.wrap b) 63 = ((shN b : Nat) : Int) := by
  have h := shN_lt b
  show IntKind.u64.wrap ((BitVec.ofInt 64 (IntKind.u64.wrap b) &&& BitVec.ofInt 64 63).toNat : Nat) = _
  rw [and63_nat, shN_u64, IntKind.wrap_u64]; omega
theorem bits_and63' (b : Int) : bits BinOp.and IntKind.i64 b 63 = ((shN b : Nat) : Int) := by
  have h := shN_lt b
  show IntKind.i64.wrap ((BitVec.ofInt 64 b &&& BitVec.ofInt 64 63).toNat : Nat) = _
  rw [and63_nat, IntKind.wrap_i64]; omega
theorem bits_band (a b : Int) : bits BinOp.and IntKind.i64 a b = band a b := rfl
theorem bits_bor (a b : Int) : bits BinOp.or IntKind.i64 a b = bor a b := rfl
theorem bits_bxor (a b : Int) : bits BinOp.xor IntKind.i64 a b = bxor a b := rfl

end Go.Proofs.YtioafhkkkmfkdaaGreatDoor.ws

namespace Go.Proofs.YtioafhkkkmfkdaaGreatDoor.ws
open Go Go.RowKit

def most (neg : Bool) : Nat := if neg then 9223372036854775808 else 9223372036854775807
theorem most_le (neg : Bool) : most neg ≤ 9223372036854775808 := by unfold most; split <;> omega
theorem most_ge (neg : Bool) : 9223372036854775807 ≤ most neg := by unfold most; split <;> omega
def bad (neg : Bool) (at_ i n c : Nat) : Bool := decide (c < 48 ∨ 57 < c ∨ (at_ < i ∧ n = 0) ∨ (neg = true ∧ i = at_ ∧ c = 48) ∨ most neg < 10 * n + (c - 48))
def okV (neg : Bool) (n : Nat) : Int := if neg then -n else n
/-- the number that is read: its value, the error, the place -/
def pgo (neg : Bool) (at_ : Nat) : List UInt8 → Nat → Nat → Int × Int × Int
  | [], i, n => if i = at_ then (0, 10, (i : Int)) else (okV neg n, 0, 0)
  | c :: r, i, n => if bad neg at_ i n c.toNat then (0, 10, (i : Int)) else pgo neg at_ r (i + 1) (10 * n + (c.toNat - 48))
def isNeg (l : List UInt8) : Bool := l.head? == some 45
def prs (l : List UInt8) : Int × Int × Int :=
  if isNeg l then pgo true 1 (l.drop 1) 1 0 else pgo false 0 l 0 0

theorem pgo_bad {neg : Bool} {at_ i n : Nat} {c : UInt8} {r : List UInt8} (h : bad neg at_ i n c.toNat = true) : pgo neg at_ (c :: r) i n = (0, 10, (i : Int)) := by simp [pgo, h]
theorem pgo_go {neg : Bool} {at_ i n : Nat} {c : UInt8} {r : List UInt8} (h : bad neg at_ i n c.toNat = false) : pgo neg at_ (c :: r) i n = pgo neg at_ r (i + 1) (10 * n + (c.toNat - 48)) := by simp [pgo, h]
theorem drop_at (s : ByteArray) (i : Nat) (h : i < s.size) : s.data.toList.drop i = s[i] :: s.data.toList.drop (i + 1) := by
  rw [List.drop_eq_getElem_cons (by simpa using h)]; rfl
theorem drop_end (s : ByteArray) (i : Nat) (h : s.size ≤ i) : s.data.toList.drop i = [] := List.drop_of_length_le (by simpa using h)

theorem toList_data (s : ByteArray) : s.toList = s.data.toList := ByteArray.toList_eq s
theorem ne_empty {s : ByteArray} (h : 0 < s.size) : s.toList.isEmpty = false := by
  rw [toList_data]
  cases hq : s.data.toList with
  | nil => have : s.data.toList.length = s.size := by simp
           rw [hq] at this; simp at this; omega
  | cons _ _ => rfl
theorem is_empty {s : ByteArray} (h : s.size = 0) : s.toList = [] := by
  rw [toList_data]
  exact List.length_eq_zero_iff.1 (by simpa using h)
theorem head_at (s : ByteArray) (h : 0 < s.size) : s.data.toList.head? = some (s[0]'h) := by
  have := drop_at s 0 h
  rw [List.drop_zero] at this
  rw [this]; rfl
theorem prs_pos {s : ByteArray} (h : 0 < s.size) (h0 : (s[0]'h).toNat ≠ 45) : prs s.data.toList = pgo false 0 (s.data.toList.drop 0) 0 0 := by
  have e : isNeg s.data.toList = false := by
    unfold isNeg
    rw [head_at s h]
    cases hq : (some (s[0]'h) == some (45 : UInt8))
    · rfl
    · exact absurd (by rw [show s[0]'h = 45 from by simpa using hq]; rfl) h0
  simp [prs, e]
theorem prs_neg {s : ByteArray} (h : 0 < s.size) (h0 : (s[0]'h).toNat = 45) : prs s.data.toList = pgo true 1 (s.data.toList.drop 1) 1 0 := by
  have e : isNeg s.data.toList = true := by
    unfold isNeg
    rw [head_at s h, show s[0]'h = 45 from UInt8.toNat_inj.1 h0]
    rfl
  simp [prs, e]
theorem prs_none {s : ByteArray} (h : s.size = 0) : prs s.data.toList = (0, 10, 0) := by
  have : s.data.toList = [] := List.length_eq_zero_iff.1 (by simpa using h)
  rw [this]; rfl
/-- a number that is read is below its bound: what the reader's own test says -/
theorem big_iff (neg : Bool) {n d : Nat} (hn : n ≤ most neg) (hd : d ≤ 9) :
    n * 10 / 18446744073709551616 + (n * 10 % 18446744073709551616 + d) / 18446744073709551616 = 0 ∧ (n * 10 % 18446744073709551616 + d) % 18446744073709551616 ≤ most neg ↔ 10 * n + d ≤ most neg := by
  have := most_le neg
  omega

/-- a digit's letter -/
def dch (d : Nat) : UInt8 := UInt8.ofNat (48 + d)
theorem dch_toNat {d : Nat} (h : d < 10) : (dch d).toNat = 48 + d := by unfold dch; rw [UInt8.toNat_ofNat']; omega
/-- the digits of a number -/
def dig (n : Nat) : List UInt8 := if n < 10 then [dch n] else dig (n / 10) ++ [dch (n % 10)]
  termination_by n
  decreasing_by omega
theorem dig_small {n : Nat} (h : n < 10) : dig n = [dch n] := by rw [dig, if_pos h]
theorem dig_big {n : Nat} (h : ¬ n < 10) : dig n = dig (n / 10) ++ [dch (n % 10)] := by rw [dig, if_neg h]
theorem dig_len : ∀ (k n : Nat), n < 10 ^ (k + 1) → (dig n).length ≤ k + 1
  | 0, n, h => by rw [dig_small (by simpa using h)]; simp
  | k + 1, n, h => by
    by_cases hn : n < 10
    · rw [dig_small hn]; simp
    · rw [dig_big hn]
      have := dig_len k (n / 10) (by rw [Nat.pow_succ] at h; omega)
      simp; omega
theorem dig_len64 {n : Nat} (h : n < 18446744073709551616) : (dig n).length ≤ 20 :=
  dig_len 19 n (Nat.lt_trans h (by decide))
def prn (w : Int) : List UInt8 := if w < 0 then 45 :: dig (-w).toNat else dig w.toNat

end Go.Proofs.YtioafhkkkmfkdaaGreatDoor.ws

namespace Go.Proofs.YtioafhkkkmfkdaaGreatDoor.ws
open Go Go.RowKit

theorem dig_pos (n : Nat) : 0 < (dig n).length := by
  by_cases h : n < 10
  · rw [dig_small h]; simp
  · rw [dig_big h]; simp
theorem okV_lo (neg : Bool) : okV neg 0 = 0 := by cases neg <;> rfl
theorem pgo_dig (neg : Bool) (at_ : Nat) : ∀ (k n : Nat) (r : List UInt8), n < 10 ^ (k + 1) → n ≤ most neg → (neg = true → 0 < n) → pgo neg at_ (dig n ++ r) at_ 0 = pgo neg at_ r (at_ + (dig n).length) n
  | 0, n, r, h, hm, hn => by
    have hs : n < 10 := by simpa using h
    rw [dig_small hs]
    have hc := dch_toNat hs
    show pgo neg at_ (dch n :: r) at_ 0 = _
    rw [pgo_go (decide_eq_false ?_), hc]
    · simp
    · rw [hc]
      rintro (h | h | h | ⟨h, _, h3⟩ | h)
      · omega
      · omega
      · omega
      · have := hn h; omega
      · omega
  | k + 1, n, r, h, hm, hn => by
    by_cases hs : n < 10
    · exact pgo_dig neg at_ 0 n r (by simpa using hs) hm hn
    · rw [dig_big hs, List.append_assoc, pgo_dig neg at_ k (n / 10) _ (by rw [Nat.pow_succ] at h; omega) (by omega) (fun _ => by omega)]
      have hc := dch_toNat (d := n % 10) (by omega)
      have hp := dig_pos (n / 10)
      show pgo neg at_ (dch (n % 10) :: r) _ _ = _
      rw [pgo_go (decide_eq_false ?_), hc]
      · rw [show 10 * (n / 10) + (48 + n % 10 - 48) = n by omega]
        simp [Nat.add_assoc]
      · rw [hc]
        rintro (h | h | h | ⟨_, h, _⟩ | h)
        · omega
        · omega
        · omega
        · omega
        · omega
theorem dig_pow {n : Nat} (h : n ≤ 9223372036854775808) : n < 10 ^ (18 + 1) := Nat.lt_of_le_of_lt h (by decide)
theorem pgo_all (neg : Bool) (at_ n : Nat) (hm : n ≤ most neg) (hn : neg = true → 0 < n) : pgo neg at_ (dig n) at_ 0 = (okV neg n, 0, 0) := by
  have h := pgo_dig neg at_ 18 n [] (dig_pow (Nat.le_trans hm (most_le neg))) hm hn
  rw [List.append_nil] at h
  have := dig_pos n
  rw [h]
  unfold pgo
  rw [if_neg (by omega)]
theorem dig_head (n : Nat) : (dig n).head? ≠ some 45 := by
  suffices h : ∀ k n, n < 10 ^ (k + 1) → (dig n).head? ≠ some 45 by
    exact h n n (Nat.lt_of_lt_of_le (Nat.lt_pow_self (by decide)) (Nat.pow_le_pow_right (by decide) (by omega)))
  intro k
  induction k with
  | zero =>
    intro n h
    have hs : n < 10 := by simpa using h
    rw [dig_small hs]
    intro hc
    have e : dch n = 45 := by simpa using hc
    have := dch_toNat hs
    rw [e] at this
    have : (45 : UInt8).toNat = 45 := rfl
    omega
  | succ k ih =>
    intro n h
    by_cases hs : n < 10
    · rw [dig_small hs]
      intro hc
      have e : dch n = 45 := by simpa using hc
      have := dch_toNat hs
      rw [e] at this
      have : (45 : UInt8).toNat = 45 := rfl
      omega
    · rw [dig_big hs]
      have hp := dig_pos (n / 10)
      cases hd : dig (n / 10) with
      | nil => rw [hd] at hp; simp at hp
      | cons a l =>
        have := ih (n / 10) (by rw [Nat.pow_succ] at h; omega)
        rw [hd] at this
        exact this
theorem prs_prn {v : Int} (h1 : -9223372036854775808 ≤ v) (h2 : v ≤ 9223372036854775807) : prs (prn v) = (v, 0, 0) := by
  unfold prn
  by_cases h : v < 0
  · rw [if_pos h]
    have e : prs (45 :: dig (-v).toNat) = pgo true 1 (dig (-v).toNat) 1 0 := by simp [prs, isNeg]
    rw [e, pgo_all true 1 _ (by unfold most; simp; omega) (fun _ => by omega)]
    simp [okV]; omega
  · rw [if_neg h]
    have hd := dig_head v.toNat
    have e0 : isNeg (dig v.toNat) = false := by
      unfold isNeg
      simpa using hd
    have e : prs (dig v.toNat) = pgo false 0 (dig v.toNat) 0 0 := by simp [prs, e0]
    rw [e, pgo_all false 0 _ (by unfold most; simp; omega) (fun h => by cases h)]
    simp [okV]; omega

/-- what is read, behind a first digit -/
theorem pgo_back (neg : Bool) (at_ : Nat) : ∀ (l : List UInt8) (i n : Nat), at_ < i → n ≤ most neg →
    (∃ p : Nat, pgo neg at_ l i n = (0, 10, (p : Int)) ∧ p ≤ i + l.length) ∨ (∃ m : Nat, pgo neg at_ l i n = (okV neg m, 0, 0) ∧ dig m = dig n ++ l ∧ n ≤ m ∧ m ≤ most neg)
  | [], i, n, hi, hm => .inr ⟨n, by unfold pgo; rw [if_neg (by omega)], by simp, Nat.le_refl _, hm⟩
  | c :: r, i, n, hi, hm => by
    cases hb : bad neg at_ i n c.toNat
    · have hb' := of_decide_eq_false hb
      rw [pgo_go hb]
      have hn : n ≠ 0 := fun h => hb' (.inr (.inr (.inl ⟨hi, h⟩)))
      have h1 : ¬ c.toNat < 48 := fun h => hb' (.inl h)
      have h2 : ¬ 57 < c.toNat := fun h => hb' (.inr (.inl h))
      have h3 : ¬ most neg < 10 * n + (c.toNat - 48) := fun h => hb' (.inr (.inr (.inr (.inr h))))
      rcases pgo_back neg at_ r (i + 1) (10 * n + (c.toNat - 48)) (by omega) (by omega) with ⟨p, hp, hl⟩ | ⟨m, hp, hd, hle, hmm⟩
      · exact .inl ⟨p, hp, by simp; omega⟩
      · refine .inr ⟨m, hp, ?_, by omega, hmm⟩
        rw [hd, dig_big (by omega), List.append_assoc]
        have e1 : (10 * n + (c.toNat - 48)) / 10 = n := by omega
        have e2 : (10 * n + (c.toNat - 48)) % 10 = c.toNat - 48 := by omega
        rw [e1, e2]
        have e3 : dch (c.toNat - 48) = c := by
          apply UInt8.toNat_inj.1
          rw [dch_toNat (by omega)]; omega
        rw [e3]; rfl
    · rw [pgo_bad hb]
      exact .inl ⟨i, rfl, by simp⟩
theorem pgo_begin (neg : Bool) (at_ : Nat) (l : List UInt8) :
    (∃ p : Nat, pgo neg at_ l at_ 0 = (0, 10, (p : Int)) ∧ p ≤ at_ + l.length) ∨ (∃ m : Nat, pgo neg at_ l at_ 0 = (okV neg m, 0, 0) ∧ dig m = l ∧ (neg = true → 0 < m) ∧ m ≤ most neg) := by
  cases l with
  | nil => exact .inl ⟨at_, by unfold pgo; rw [if_pos rfl], by simp⟩
  | cons c r =>
    cases hb : bad neg at_ at_ 0 c.toNat
    · have hb' := of_decide_eq_false hb
      rw [pgo_go hb]
      have h1 : ¬ c.toNat < 48 := fun h => hb' (.inl h)
      have h2 : ¬ 57 < c.toNat := fun h => hb' (.inr (.inl h))
      have h3 : ¬ most neg < 10 * 0 + (c.toNat - 48) := fun h => hb' (.inr (.inr (.inr (.inr h))))
      have h4 : neg = true → c.toNat ≠ 48 := fun hn hc => hb' (.inr (.inr (.inr (.inl ⟨hn, rfl, hc⟩))))
      rcases pgo_back neg at_ r (at_ + 1) (10 * 0 + (c.toNat - 48)) (by omega) (by omega) with ⟨p, hp, hl⟩ | ⟨m, hp, hd, hle, hmm⟩
      · exact .inl ⟨p, hp, by simp; omega⟩
      · refine .inr ⟨m, hp, ?_, fun hn => by have := h4 hn; omega, hmm⟩
        rw [hd, dig_small (by omega)]
        have e3 : dch (10 * 0 + (c.toNat - 48)) = c := by
          apply UInt8.toNat_inj.1
          rw [dch_toNat (by omega)]; omega
        rw [e3]; rfl
    · rw [pgo_bad hb]
      exact .inl ⟨at_, rfl, by simp⟩
/-- a text is a word's own, or it is refused at a place within it -/
theorem prs_back (l : List UInt8) : (∃ p : Nat, prs l = (0, 10, (p : Int)) ∧ p ≤ l.length) ∨ (∃ v : Int, prs l = (v, 0, 0) ∧ prn v = l ∧ -9223372036854775808 ≤ v ∧ v ≤ 9223372036854775807) := by
  cases hn : isNeg l
  · have e : prs l = pgo false 0 l 0 0 := by simp [prs, hn]
    rw [e]
    rcases pgo_begin false 0 l with ⟨p, hp, hl⟩ | ⟨m, hp, hd, _, hm⟩
    · exact .inl ⟨p, hp, by omega⟩
    · have hm' : m ≤ 9223372036854775807 := hm
      refine .inr ⟨m, hp, ?_, by omega, by omega⟩
      unfold prn; rw [if_neg (by omega), ← hd]; rfl
  · obtain ⟨r, rfl⟩ : ∃ r, l = 45 :: r := by
      cases l with
      | nil => simp [isNeg] at hn
      | cons c r => exact ⟨r, by simp [isNeg] at hn; rw [hn]⟩
    have e : prs (45 :: r) = pgo true 1 r 1 0 := by simp [prs, hn]
    rw [e]
    rcases pgo_begin true 1 r with ⟨p, hp, hl⟩ | ⟨m, hp, hd, h0, hm⟩
    · exact .inl ⟨p, hp, by simp; omega⟩
    · have hm' : m ≤ 9223372036854775808 := hm
      have := h0 rfl
      refine .inr ⟨-(m : Int), hp, ?_, by omega, by omega⟩
      unfold prn; rw [if_pos (by omega), Int.neg_neg, ← hd]; rfl

end Go.Proofs.YtioafhkkkmfkdaaGreatDoor.ws

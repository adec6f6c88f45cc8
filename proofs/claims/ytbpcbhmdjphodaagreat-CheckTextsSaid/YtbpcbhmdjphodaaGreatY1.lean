/- Plain: the trees of programs, as rows of the abstract machine. No program of the seat. Plain: what the reference's Check computes. Plain: names. The types of the translation, as the abstract machine has them (printed by gen_ty.py). Contracts: finding names (the reference's). Contracts: the reference's rules of names, and which fields are used. Contracts: the reference's expressions and statements. Contracts: the reference's statements. Contracts: names. Contracts: the reference's declarations, and its Check. -/
import Derived.Test.YtbpcbhmdjphodaaGreatZ4
import Derived.Test.YtbpcbhmdjphodaaGreatZ3
import Derived.Test.YtbpcbhmdjphodaaGreatProg
import Derived.KernelRfl
set_option linter.all false

namespace Go.Proofs.YtbpcbhmdjphodaaGreat.am
open Go

structure Decl where
  name : ByteArray
  word : Int
  at_ : Int
inductive Expr where
  | mk (kind op : Int) (word : Int) (name : ByteArray) (kids : List Expr) (at_ : Int)
inductive Stmt where
  | mk (kind : Int) (name other : ByteArray) (e : List Expr) (body els : List Stmt) (at_ : Int)
structure Thread where
  name : ByteArray
  locals : List Decl
  body : List Stmt
  at_ : Int
structure Prg where
  shared : List Decl
  locks : List Decl
  threads : List Thread
structure Flt where
  at_ : Int
  rule : Int

def Decl.cells (d : Decl) : List Tr := [ts d.name, ti d.word, ti d.at_]
abbrev declsT (l : List Decl) : Tr := .lst 3 32 (l.map Decl.cells)
mutual
def Expr.cells : Expr → List Tr
  | .mk kind op word name kids at_ => [tu kind, tu op, ti word, ts name, .lst 6 64 (Expr.rows kids), ti at_]
def Expr.rows : List Expr → List (List Tr)
  | [] => []
  | e :: l => Expr.cells e :: Expr.rows l
end
theorem Expr.rows_eq : ∀ l : List Expr, Expr.rows l = l.map Expr.cells
  | [] => rfl
  | e :: l => by simp only [Expr.rows, List.map_cons, Expr.rows_eq l]
abbrev exprsT (l : List Expr) : Tr := .lst 6 64 (Expr.rows l)
mutual
def Stmt.cells : Stmt → List Tr
  | .mk kind name other e body els at_ => [tu kind, ts name, ts other, .lst 6 64 (Expr.rows e), .lst 7 120 (Stmt.rows body), .lst 7 120 (Stmt.rows els), ti at_]
def Stmt.rows : List Stmt → List (List Tr)
  | [] => []
  | s :: l => Stmt.cells s :: Stmt.rows l
end
theorem Stmt.rows_eq : ∀ l : List Stmt, Stmt.rows l = l.map Stmt.cells
  | [] => rfl
  | e :: l => by simp only [Stmt.rows, List.map_cons, Stmt.rows_eq l]
abbrev stmtsT (l : List Stmt) : Tr := .lst 7 120 (Stmt.rows l)
def Thread.cells (t : Thread) : List Tr := [ts t.name, declsT t.locals, stmtsT t.body, ti t.at_]
abbrev threadsT (l : List Thread) : Tr := .lst 4 72 (l.map Thread.cells)
def Prg.av (p : Prg) : AV := .agg [.tr (declsT p.shared), .tr (declsT p.locks), .tr (threadsT p.threads)]
def Decl.av (d : Decl) : AV := .agg (d.cells.map .tr)
def Thread.av (t : Thread) : AV := .agg (t.cells.map .tr)
def Expr.av (e : Expr) : AV := .agg (e.cells.map .tr)
def Stmt.av (s : Stmt) : AV := .agg (s.cells.map .tr)
def Flt.av (f : Flt) : AV := .agg [.tr (ti f.at_), .tr (ti f.rule)]

theorem map_get {α β : Type} {f : α → β} {l : List α} {i : Nat} {y : β} (h : (l.map f)[i]? = some y) : ∃ x, l[i]? = some x ∧ f x = y := by simpa using h
theorem drop_cons {α : Type} {l : List α} {i : Nat} {x : α} (h : l[i]? = some x) : l.drop i = x :: l.drop (i + 1) := by
  have := (List.getElem?_eq_some_iff.1 h)
  obtain ⟨h1, rfl⟩ := this
  exact List.drop_eq_getElem_cons h1
theorem take_snoc {α : Type} {l : List α} {i : Nat} {x : α} (h : l[i]? = some x) : l.take (i + 1) = l.take i ++ [x] := by
  rw [List.take_add_one, h]; rfl
theorem erows_get {l : List Expr} {i : Nat} {y : List Tr} (h : (Expr.rows l)[i]? = some y) : ∃ x, l[i]? = some x ∧ Expr.cells x = y := by
  rw [Expr.rows_eq] at h; exact map_get h
theorem srows_get {l : List Stmt} {i : Nat} {y : List Tr} (h : (Stmt.rows l)[i]? = some y) : ∃ x, l[i]? = some x ∧ Stmt.cells x = y := by
  rw [Stmt.rows_eq] at h; exact map_get h
theorem erows_len (l : List Expr) : (Expr.rows l).length = l.length := by rw [Expr.rows_eq, List.length_map]
theorem srows_len (l : List Stmt) : (Stmt.rows l).length = l.length := by rw [Stmt.rows_eq, List.length_map]

/-- two texts are the same -/
abbrev seq (a b : ByteArray) : Bool := a.toList == b.toList

/-! the reference's answers -/
def findI : List Decl → ByteArray → Nat → Int
  | [], _, _ => -1
  | d :: l, s, k => if seq d.name s then k else findI l s (k + 1)
def threadI : List Thread → ByteArray → Nat → Int
  | [], _, _ => -1
  | d :: l, s, k => if seq d.name s then k else threadI l s (k + 1)
def localI (p : Prg) (t : Int) (name : ByteArray) : Int :=
  if t < 0 then -1 else match p.threads[t.toNat]? with
    | some th => findI th.locals name 0
    | none => -1
end Go.Proofs.YtbpcbhmdjphodaaGreat.am

namespace Go.Proofs.YtbpcbhmdjphodaaGreat.am
open Go

def variableI (p : Prg) (t : Int) (name : ByteArray) (shared : Bool) : Int :=
  bif decide (localI p t name ≥ 0) then (bif shared then 6 else 0)
  else bif decide (findI p.shared name 0 ≥ 0) then 0
  else bif decide (findI p.locks name 0 ≥ 0) || decide (threadI p.threads name 0 ≥ 0) then 6 else 5
def lockI (p : Prg) (t : Int) (name : ByteArray) : Int :=
  bif decide (localI p t name ≥ 0) then 6
  else bif decide (findI p.locks name 0 ≥ 0) then 0
  else bif decide (findI p.shared name 0 ≥ 0) || decide (threadI p.threads name 0 ≥ 0) then 6 else 5
def leastI (a b : Int) : Int := bif (a == 0) || (decide (b > 0) && decide (b < a)) then b else a
def noS (s : ByteArray) : Bool := seq s ⟨#[]⟩
def two (op : Int) : Bool := decide (op ≥ 1) && decide (op ≤ 16)
def partsB : Expr → Bool
  | .mk kind op word name kids _ =>
    bif kind == 1 then op == 0 && noS name && ((Expr.rows kids).length : Int) == 0 && decide (word ≥ 0)
    else bif kind == 2 then op == 0 && word == 0 && ((Expr.rows kids).length : Int) == 0
    else bif kind == 3 then word == 0 && noS name && ((Expr.rows kids).length : Int) == 1 && (op == 17 || op == 18)
    else bif kind == 4 then word == 0 && noS name && ((Expr.rows kids).length : Int) == 2 && two op
    else false
def fieldsB : Stmt → Bool
  | .mk kind name other e body els _ =>
    bif kind == 1 then noS other && ((Expr.rows e).length : Int) == 1 && !decide (((Stmt.rows body).length : Int) > 0) && !decide (((Stmt.rows els).length : Int) > 0)
    else bif kind == 2 then ((Expr.rows e).length : Int) == 1 && !decide (((Stmt.rows body).length : Int) > 0) && !decide (((Stmt.rows els).length : Int) > 0)
    else bif kind == 3 then noS name && noS other && ((Expr.rows e).length : Int) == 1
    else bif kind == 4 then noS name && noS other && ((Expr.rows e).length : Int) == 1 && !decide (((Stmt.rows els).length : Int) > 0)
    else bif kind == 5 then noS other && ((Expr.rows e).length : Int) == 0 && !decide (((Stmt.rows els).length : Int) > 0)
    else bif kind == 6 then noS name && noS other && ((Expr.rows e).length : Int) == 1 && !decide (((Stmt.rows body).length : Int) > 0) && !decide (((Stmt.rows els).length : Int) > 0)
    else bif kind == 7 then noS name && noS other && ((Expr.rows e).length : Int) == 0 && !decide (((Stmt.rows body).length : Int) > 0) && !decide (((Stmt.rows els).length : Int) > 0)
    else false
/-- behind the rule of a name: too deep -/
def deepI (r deep : Int) : Int := bif (r == 0) && decide (deep > 64) then 7 else r
mutual
def exprF (p : Prg) (t : Int) : Expr → Int → Flt
  | .mk kind op word name kids at_, deep =>
    bif !partsB (.mk kind op word name kids at_) then ⟨at_, 4⟩
    else bif deepI (bif kind == 2 then variableI p t name false else 0) deep != 0 then ⟨at_, deepI (bif kind == 2 then variableI p t name false else 0) deep⟩
    else exprsF p t kids (deep + 1)
def exprsF (p : Prg) (t : Int) : List Expr → Int → Flt
  | [], _ => ⟨0, 0⟩
  | e :: l, deep => bif (exprF p t e deep).rule != 0 then exprF p t e deep else exprsF p t l deep
end
/-- the rule of a statement's names -/
def namesI (p : Prg) (t : Int) (kind : Int) (name other : ByteArray) : Int :=
  bif kind == 1 then variableI p t name false
  else bif kind == 2 then leastI (variableI p t name false) (variableI p t other true)
  else bif kind == 5 then lockI p t name else 0
mutual
def stmtF (p : Prg) (t : Int) : Stmt → Int → Flt
  | .mk kind name other e body els at_, deep =>
    bif !fieldsB (.mk kind name other e body els at_) then ⟨at_, 4⟩
    else bif deepI (namesI p t kind name other) deep != 0 then ⟨at_, deepI (namesI p t kind name other) deep⟩
    else bif (exprsF p t e 1).rule != 0 then exprsF p t e 1
    else bif (stmtsF p t body (deep + 1)).rule != 0 then stmtsF p t body (deep + 1)
    else stmtsF p t els (deep + 1)
def stmtsF (p : Prg) (t : Int) : List Stmt → Int → Flt
  | [], _ => ⟨0, 0⟩
  | e :: l, deep => bif (stmtF p t e deep).rule != 0 then stmtF p t e deep else stmtsF p t l deep
end
end Go.Proofs.YtbpcbhmdjphodaaGreat.am

namespace Go.Proofs.YtbpcbhmdjphodaaGreat.am
open Go

def chI (s : ByteArray) (i : Nat) : Int := match s[i]? with
  | some b => b.toNat
  | none => 0
def digB (c : Int) : Bool := decide (c ≥ 48) && decide (c ≤ 57)
def letB (c : Int) : Bool := (decide (c ≥ 97) && decide (c ≤ 122)) || (decide (c ≥ 65) && decide (c ≤ 90)) || c == 95
def wordB (s : ByteArray) : Bool := seq s ⟨#[115, 104, 97, 114, 101, 100]⟩ || seq s ⟨#[108, 111, 99, 107]⟩ || seq s ⟨#[116, 104, 114, 101, 97, 100]⟩ || seq s ⟨#[108, 111, 99, 97, 108]⟩ || seq s ⟨#[105, 102]⟩
  || seq s ⟨#[101, 108, 115, 101]⟩ || seq s ⟨#[119, 104, 105, 108, 101]⟩ || seq s ⟨#[112, 114, 105, 110, 116]⟩ || seq s ⟨#[115, 107, 105, 112]⟩ || seq s ⟨#[115, 119, 97, 112]⟩
/-- n characters are left -/
def charsB (s : ByteArray) : Nat → Bool
  | 0 => true
  | n + 1 => bif !letB (chI s (s.size - (n + 1))) && !digB (chI s (s.size - (n + 1))) then false else charsB s n
def nameB (s : ByteArray) : Bool := bif decide ((s.size : Int) < 1) || decide ((s.size : Int) > 32) || digB (chI s 0) || wordB s then false else charsB s s.size
theorem charsB_at {s : ByteArray} {i : Nat} {b : UInt8} (h : s[i]? = some b) (hi : i < s.size) : charsB s (s.size - i) = bif !letB b.toNat && !digB b.toNat then false else charsB s (s.size - (i + 1)) := by
  have hc : chI s i = b.toNat := by unfold chI; rw [h]
  have e : s.size - i = (s.size - (i + 1)) + 1 := by omega
  rw [e]
  show (bif !letB (chI s (s.size - (s.size - (i + 1) + 1))) && !digB (chI s (s.size - (s.size - (i + 1) + 1))) then false else charsB s (s.size - (i + 1))) = _
  rw [show s.size - (s.size - (i + 1) + 1) = i by omega, hc]
theorem loop_len (bs : ByteArray) : ∀ (n i : Nat) (r : List UInt8), bs.size - i = n → (ByteArray.toList.loop bs i r).length = r.length + n := by
  intro n
  induction n with
  | zero => intro i r h; unfold ByteArray.toList.loop; rw [if_neg (by omega)]; simp
  | succ n ih => intro i r h; unfold ByteArray.toList.loop; rw [if_pos (by omega), ih (i + 1) _ (by omega)]; simp; omega
theorem toList_len (a : ByteArray) : a.toList.length = a.size := by
  unfold ByteArray.toList; rw [loop_len a a.size 0 [] rfl]; simp
theorem noS_size (s : ByteArray) : noS s = decide ((s.size : Int) < 1) := by
  unfold noS seq
  have h0 : (⟨#[]⟩ : ByteArray).toList = [] := by have := toList_len ⟨#[]⟩; exact List.eq_nil_of_length_eq_zero this
  rw [h0]
  have h1 := toList_len s
  cases h : s.toList with
  | nil => rw [h] at h1; simp at h1; simp [← h1]
  | cons a l => rw [h] at h1; simp at h1; simp; omega

/-! declarations -/
def twiceB (p : Prg) (kind : Int) (pre : List Decl) (name : ByteArray) : Bool :=
  decide (findI pre name 0 ≥ 0) || ((kind == 1 || kind == 2) && decide (findI p.shared name 0 ≥ 0)) || (kind == 2 && decide (findI p.locks name 0 ≥ 0))
def wordI (kind word : Int) : Bool := (kind == 0 && word == -9223372036854775808) || (kind != 0 && word != 0)
def declI (p : Prg) (kind : Int) (pre : List Decl) (d : Decl) (i most : Int) : Int :=
  bif !nameB d.name then 1 else bif twiceB p kind pre d.name then 2 else bif decide (i ≥ most) then 3 else bif wordI kind d.word then 4 else 0
/-- the fault of declarations behind those gone over -/
def declsF (p : Prg) (kind most : Int) : List Decl → List Decl → Flt
  | _, [] => ⟨0, 0⟩
  | pre, d :: l => bif declI p kind pre d pre.length most != 0 then ⟨d.at_, declI p kind pre d pre.length most⟩ else declsF p kind most (pre ++ [d]) l
theorem declsF_at {p : Prg} {kind most : Int} {l : List Decl} {i : Nat} {d : Decl} (h : l[i]? = some d) :
    declsF p kind most (l.take i) (l.drop i) = bif declI p kind (l.take i) d i most != 0 then ⟨d.at_, declI p kind (l.take i) d i most⟩ else declsF p kind most (l.take (i + 1)) (l.drop (i + 1)) := by
  have hlt : i < l.length := (List.getElem?_eq_some_iff.1 h).1
  rw [drop_cons h, take_snoc h]
  show (bif declI p kind (l.take i) d (l.take i).length most != 0 then _ else _) = _
  rw [show (l.take i).length = i by rw [List.length_take]; omega]
def threadsF (p : Prg) : Nat → List Thread → Flt → Flt
  | _, [], f => f
  | i, t :: l, f => bif f.rule != 0 then f else
      bif !nameB t.name then ⟨t.at_, 1⟩
      else bif decide (findI p.shared t.name 0 ≥ 0) || decide (findI p.locks t.name 0 ≥ 0) || decide (threadI p.threads t.name 0 < i) then ⟨t.at_, 2⟩
      else bif decide ((i : Int) ≥ 8) then ⟨t.at_, 3⟩
      else threadsF p (i + 1) l (bif (declsF p 2 64 [] t.locals).rule == 0 then stmtsF p i t.body 1 else declsF p 2 64 [] t.locals)
def firstF (p : Prg) : Flt :=
  threadsF p 0 p.threads (bif (declsF p 0 64 [] p.shared).rule == 0 then declsF p 1 16 [] p.locks else declsF p 0 64 [] p.shared)
end Go.Proofs.YtbpcbhmdjphodaaGreat.am

namespace Go.Proofs.YtbpcbhmdjphodaaGreat.am
open Go
set_option maxRecDepth 100000 in
def T : Ty := [
  (1, ⟨.func, 1, 8, [.f], false⟩),
  (2, ⟨.int .i64, 1, 8, [.i .i64], false⟩),
  (3, ⟨.int .i64, 1, 8, [.i .i64], false⟩),
  (4, ⟨.bool, 1, 1, [.b], false⟩),
  (5, ⟨.int .u8, 1, 1, [.i .u8], false⟩),
  (9, ⟨.string, 1, 16, [.s], false⟩),
  (12, ⟨.int .u64, 1, 8, [.i .u64], false⟩),
  (15, ⟨.ptr 151, 1, 8, [.p], false⟩),
  (16, ⟨.ptr 154, 1, 8, [.p], false⟩),
  (20, ⟨.iface, 1, 16, [.n], false⟩),
  (21, ⟨.int .i32, 1, 4, [.i .i32], false⟩),
  (22, ⟨.slice 64, 1, 24, [.sl], false⟩),
  (23, ⟨.slice 52, 1, 24, [.sl], false⟩),
  (24, ⟨.struct [(22, 0), (22, 1), (23, 2)], 3, 72, [.sl, .sl, .sl], true⟩),
  (25, ⟨.struct [(22, 0), (22, 1), (23, 2)], 3, 72, [.sl, .sl, .sl], true⟩),
  (26, ⟨.int .i64, 1, 8, [.i .i64], false⟩),
  (27, ⟨.struct [(3, 0), (3, 1)], 2, 16, [.i .i64, .i .i64], true⟩),
  (28, ⟨.struct [(3, 0), (3, 1)], 2, 16, [.i .i64, .i .i64], true⟩),
  (30, ⟨.func, 1, 8, [.f], false⟩),
  (31, ⟨.func, 1, 8, [.f], false⟩),
  (32, ⟨.func, 1, 8, [.f], false⟩),
  (33, ⟨.func, 1, 8, [.f], false⟩),
  (34, ⟨.ptr 40, 1, 8, [.p], false⟩),
  (36, ⟨.func, 1, 8, [.f], false⟩),
  (37, ⟨.func, 1, 8, [.f], false⟩),
  (38, ⟨.slice 84, 1, 24, [.sl], false⟩),
  (39, ⟨.struct [(38, 0), (3, 1), (3, 2), (3, 3), (3, 4)], 5, 56, [.sl, .i .i64, .i .i64, .i .i64, .i .i64], true⟩),
  (40, ⟨.struct [(38, 0), (3, 1), (3, 2), (3, 3), (3, 4)], 5, 56, [.sl, .i .i64, .i .i64, .i .i64, .i .i64], true⟩),
  (42, ⟨.func, 1, 8, [.f], false⟩),
  (43, ⟨.slice 3, 1, 24, [.sl], false⟩),
  (45, ⟨.func, 1, 8, [.f], false⟩),
  (46, ⟨.int .u8, 1, 1, [.i .u8], false⟩),
  (47, ⟨.slice 62, 1, 24, [.sl], false⟩),
  (48, ⟨.slice 50, 1, 24, [.sl], false⟩),
  (49, ⟨.struct [(46, 0), (9, 1), (9, 2), (47, 3), (48, 4), (48, 5), (3, 6)], 7, 120, [.i .u8, .s, .s, .sl, .sl, .sl, .i .i64], true⟩),
  (50, ⟨.struct [(46, 0), (9, 1), (9, 2), (47, 3), (48, 4), (48, 5), (3, 6)], 7, 120, [.i .u8, .s, .s, .sl, .sl, .sl, .i .i64], true⟩),
  (51, ⟨.struct [(9, 0), (22, 1), (48, 2), (3, 3)], 4, 72, [.s, .sl, .sl, .i .i64], true⟩),
  (52, ⟨.struct [(9, 0), (22, 1), (48, 2), (3, 3)], 4, 72, [.s, .sl, .sl, .i .i64], true⟩),
  (53, ⟨.func, 1, 8, [.f], false⟩),
  (54, ⟨.func, 1, 8, [.f], false⟩),
  (55, ⟨.func, 1, 8, [.f], false⟩),
  (57, ⟨.func, 1, 8, [.f], false⟩),
  (58, ⟨.func, 1, 8, [.f], false⟩),
  (59, ⟨.int .u8, 1, 1, [.i .u8], false⟩),
  (60, ⟨.int .u8, 1, 1, [.i .u8], false⟩),
  (61, ⟨.struct [(59, 0), (60, 1), (2, 2), (9, 3), (47, 4), (3, 5)], 6, 64, [.i .u8, .i .u8, .i .i64, .s, .sl, .i .i64], true⟩),
  (62, ⟨.struct [(59, 0), (60, 1), (2, 2), (9, 3), (47, 4), (3, 5)], 6, 64, [.i .u8, .i .u8, .i .i64, .s, .sl, .i .i64], true⟩),
  (63, ⟨.struct [(9, 0), (2, 1), (3, 2)], 3, 32, [.s, .i .i64, .i .i64], true⟩),
  (64, ⟨.struct [(9, 0), (2, 1), (3, 2)], 3, 32, [.s, .i .i64, .i .i64], true⟩),
  (66, ⟨.func, 1, 8, [.f], false⟩),
  (67, ⟨.ptr 70, 1, 8, [.p], false⟩),
  (68, ⟨.slice 4, 1, 24, [.sl], false⟩),
  (69, ⟨.struct [(25, 0), (3, 3), (68, 4), (68, 5)], 6, 128, [.sl, .sl, .sl, .i .i64, .sl, .sl], true⟩),
  (70, ⟨.struct [(25, 0), (3, 3), (68, 4), (68, 5)], 6, 128, [.sl, .sl, .sl, .i .i64, .sl, .sl], true⟩),
  (71, ⟨.func, 1, 8, [.f], false⟩),
  (72, ⟨.func, 1, 8, [.f], false⟩),
  (73, ⟨.func, 1, 8, [.f], false⟩),
  (74, ⟨.func, 1, 8, [.f], false⟩),
  (75, ⟨.func, 1, 8, [.f], false⟩),
  (76, ⟨.func, 1, 8, [.f], false⟩),
  (77, ⟨.func, 1, 8, [.f], false⟩),
  (79, ⟨.func, 1, 8, [.f], false⟩),
  (81, ⟨.func, 1, 8, [.f], false⟩),
  (82, ⟨.int .u8, 1, 1, [.i .u8], false⟩),
  (83, ⟨.struct [(82, 0), (9, 1), (2, 2), (3, 3)], 4, 40, [.i .u8, .s, .i .i64, .i .i64], true⟩),
  (84, ⟨.struct [(82, 0), (9, 1), (2, 2), (3, 3)], 4, 40, [.i .u8, .s, .i .i64, .i .i64], true⟩),
  (85, ⟨.func, 1, 8, [.f], false⟩),
  (86, ⟨.func, 1, 8, [.f], false⟩),
  (87, ⟨.func, 1, 8, [.f], false⟩),
  (88, ⟨.func, 1, 8, [.f], false⟩),
  (89, ⟨.struct [(28, 0)], 2, 16, [.i .i64, .i .i64], true⟩),
  (90, ⟨.struct [(28, 0)], 2, 16, [.i .i64, .i .i64], true⟩),
  (91, ⟨.ptr 96, 1, 8, [.p], false⟩),
  (92, ⟨.map 9 111, 1, 8, [.m], false⟩),
  (93, ⟨.func, 1, 8, [.f], false⟩),
  (94, ⟨.map 9 3, 1, 8, [.m], false⟩),
  (95, ⟨.struct [(25, 0), (92, 3), (94, 4)], 5, 88, [.sl, .sl, .sl, .m, .m], true⟩),
  (96, ⟨.struct [(25, 0), (92, 3), (94, 4)], 5, 88, [.sl, .sl, .sl, .m, .m], true⟩),
  (97, ⟨.func, 1, 8, [.f], false⟩),
  (98, ⟨.func, 1, 8, [.f], false⟩),
  (99, ⟨.func, 1, 8, [.f], false⟩),
  (100, ⟨.func, 1, 8, [.f], false⟩),
  (101, ⟨.func, 1, 8, [.f], false⟩),
  (102, ⟨.func, 1, 8, [.f], false⟩),
  (103, ⟨.func, 1, 8, [.f], false⟩),
  (104, ⟨.func, 1, 8, [.f], false⟩),
  (105, ⟨.func, 1, 8, [.f], false⟩),
  (106, ⟨.func, 1, 8, [.f], false⟩),
  (107, ⟨.func, 1, 8, [.f], false⟩),
  (109, ⟨.func, 1, 8, [.f], false⟩),
  (110, ⟨.func, 1, 8, [.f], false⟩),
  (111, ⟨.int .i64, 1, 8, [.i .i64], false⟩),
  (112, ⟨.func, 1, 8, [.f], false⟩),
  (113, ⟨.func, 1, 8, [.f], false⟩),
  (114, ⟨.slice 22, 1, 24, [.sl], false⟩),
  (115, ⟨.func, 1, 8, [.f], false⟩),
  (116, ⟨.func, 1, 8, [.f], false⟩),
  (117, ⟨.func, 1, 8, [.f], false⟩),
  (118, ⟨.func, 1, 8, [.f], false⟩),
  (119, ⟨.func, 1, 8, [.f], false⟩),
  (121, ⟨.func, 1, 8, [.f], false⟩),
  (122, ⟨.func, 1, 8, [.f], false⟩),
  (123, ⟨.func, 1, 8, [.f], false⟩),
  (124, ⟨.func, 1, 8, [.f], false⟩),
  (125, ⟨.func, 1, 8, [.f], false⟩),
  (126, ⟨.func, 1, 8, [.f], false⟩),
  (127, ⟨.func, 1, 8, [.f], false⟩),
  (128, ⟨.func, 1, 8, [.f], false⟩),
  (129, ⟨.int .u64, 1, 8, [.i .u64], false⟩),
  (130, ⟨.func, 1, 8, [.f], false⟩),
  (132, ⟨.func, 1, 8, [.f], false⟩),
  (133, ⟨.func, 1, 8, [.f], false⟩),
  (134, ⟨.func, 1, 8, [.f], false⟩),
  (135, ⟨.func, 1, 8, [.f], false⟩),
  (136, ⟨.func, 1, 8, [.f], false⟩),
  (137, ⟨.func, 1, 8, [.f], false⟩),
  (138, ⟨.func, 1, 8, [.f], false⟩),
  (139, ⟨.func, 1, 8, [.f], false⟩),
  (140, ⟨.func, 1, 8, [.f], false⟩),
  (141, ⟨.func, 1, 8, [.f], false⟩),
  (142, ⟨.struct [(4, 0), (4, 1), (4, 2), (4, 3), (4, 4)], 5, 5, [.b, .b, .b, .b, .b], true⟩),
  (143, ⟨.struct [(4, 0), (4, 1), (4, 2), (4, 3), (4, 4)], 5, 5, [.b, .b, .b, .b, .b], true⟩),
  (145, ⟨.func, 1, 8, [.f], false⟩),
  (146, ⟨.func, 1, 8, [.f], false⟩),
  (147, ⟨.slice 9, 1, 24, [.sl], false⟩),
  (148, ⟨.func, 1, 8, [.f], false⟩),
  (149, ⟨.func, 1, 8, [.f], false⟩),
  (152, ⟨.array 0 16, 0, 0, [], false⟩),
  (155, ⟨.func, 1, 8, [.f], false⟩),
  (156, ⟨.int .u32, 1, 4, [.i .u32], false⟩),
  (159, ⟨.func, 1, 8, [.f], false⟩),
  (160, ⟨.ptr 5, 1, 8, [.p], false⟩)]
set_option maxRecDepth 100000 in
theorem hT : TOk Tryz.prog T := TOk.of_all (by kernel_rfl)
end Go.Proofs.YtbpcbhmdjphodaaGreat.am

namespace Go.Proofs.YtbpcbhmdjphodaaGreat.am
open Go Go.Proofs
theorem hmix : Tryz.prog.follows .mixedOrders = true := by kernel_rfl
abbrev K (f : Nat) (args : List AV) (bin : List Blk) (res : AE) (bout : List (Option Blk)) : Prop := Ctr Tryz.prog f args bin res bout

theorem findI_at {l : List Decl} {s : ByteArray} {i : Nat} {d : Decl} (h : l[i]? = some d) : findI (l.drop i) s i = if seq d.name s then (i : Int) else findI (l.drop (i + 1)) s (i + 1) := by
  rw [drop_cons h]; rfl
theorem threadI_at {l : List Thread} {s : ByteArray} {i : Nat} {d : Thread} (h : l[i]? = some d) : threadI (l.drop i) s i = if seq d.name s then (i : Int) else threadI (l.drop (i + 1)) s (i + 1) := by
  rw [drop_cons h]; rfl

theorem k39 (l : List Decl) (name : ByteArray) : K 83 [.tr (declsT l), .tr (ts name)] [] (.ret (.tr (ti (findI l name 0)))) [] := by
  refine Ctr.of hT hmix Tryz.func83 rfl (fun _ _ => by kernel_rfl) rfl fun hok => ?_
  obtain ⟨_, hl, _⟩ := (hok.slot 0 rfl).tr.lst
  rw [List.length_map] at hl
  conv => whnf
  refine LoopL.by (fun i : Nat => ⟨[(1, .tr (ts name)), (7, .tr (declsT l)), (8, .tr (ti l.length)), (9, .tr (ti i))], [], 10⟩)
    (fun i => i ≤ l.length ∧ findI l name 0 = findI (l.drop i) name i) (fun i => l.length - i) 0 [] [] (Sub.mk' rfl ⟨.inl rfl, .inl rfl, .inl (by simp), .inl rfl, trivial⟩ trivial rfl rfl) ⟨Nat.zero_le _, rfl⟩ ?_
  rintro i ⟨hi, hf⟩ -
  conv => whnf
  refine csplit (fun hlt => ?_) (fun hge => ?_)
  · have hlt : i < l.length := by simpa using hlt
    conv => whnf
    refine ⟨rfl, by omega, by simpa using hlt, fun row hrow => ?_⟩
    obtain ⟨d, hd, rfl⟩ := map_get hrow
    replace hd : l[i]? = some d := hd
    rw [findI_at hd] at hf
    conv => whnf
    refine csplit (fun he : seq d.name name = true => ?_) (fun he : seq d.name name = false => ?_)
    · conv => whnf
      exact ⟨Or.inl (congrArg ti (by rw [hf, he]; rfl)), trivial⟩
    · conv => whnf
      refine ⟨i + 1, [], [], Sub.mk' rfl ⟨Or.inl rfl, Or.inl rfl, Or.inl rfl, Or.inl (ti_succ hlt hl), trivial⟩ trivial rfl rfl, ⟨by omega, ?_⟩, by omega⟩
      rw [hf, he]; rfl
  · have hge : l.length ≤ i := by simpa using hge
    conv => whnf
    refine ⟨fun _ => ?_, fun h => absurd rfl h⟩
    conv => whnf
    exact ⟨Or.inl (congrArg ti (show (-1 : Int) = findI l name 0 by rw [hf, List.drop_eq_nil_of_le hge]; rfl)), trivial⟩

theorem k79 (p : Prg) (name : ByteArray) : K 68 [p.av, .tr (ts name)] [] (.ret (.tr (ti (threadI p.threads name 0)))) [] := by
  refine Ctr.of hT hmix Tryz.func68 rfl (fun _ _ => by kernel_rfl) rfl fun hok => ?_
  obtain ⟨sh, lo, l⟩ := p
  obtain ⟨_, hl, _⟩ := ((hok.slot 0 rfl).agg _ (.tail _ (.tail _ (.head _)))).tr.lst
  rw [List.length_map] at hl
  conv => whnf
  refine LoopL.by (fun i : Nat => ⟨[(1, .tr (ts name)), (8, .tr (threadsT l)), (9, .tr (ti l.length)), (10, .tr (ti i))], [], 21⟩)
    (fun i => i ≤ l.length ∧ threadI l name 0 = threadI (l.drop i) name i) (fun i => l.length - i) 0 [] [] (Sub.mk' rfl ⟨.inl rfl, .inl rfl, .inl (by simp), .inl rfl, trivial⟩ trivial rfl rfl) ⟨Nat.zero_le _, rfl⟩ ?_
  rintro i ⟨hi, hf⟩ -
  conv => whnf
  refine csplit (fun hlt => ?_) (fun hge => ?_)
  · have hlt : i < l.length := by simpa using hlt
    conv => whnf
    refine ⟨rfl, by omega, by simpa using hlt, fun row hrow => ?_⟩
    obtain ⟨d, hd, rfl⟩ := map_get hrow
    replace hd : l[i]? = some d := hd
    rw [threadI_at hd] at hf
    conv => whnf
    refine csplit (fun he : seq d.name name = true => ?_) (fun he : seq d.name name = false => ?_)
    · conv => whnf
      exact ⟨Or.inl (congrArg ti (by show _ = threadI l name 0; rw [hf, he]; rfl)), trivial⟩
    · conv => whnf
      refine ⟨i + 1, [], [], Sub.mk' rfl ⟨Or.inl rfl, Or.inl rfl, Or.inl rfl, Or.inl (ti_succ hlt hl), trivial⟩ trivial rfl rfl, ⟨by omega, ?_⟩, by omega⟩
      rw [hf, he]; rfl
  · have hge : l.length ≤ i := by simpa using hge
    conv => whnf
    refine ⟨fun _ => ?_, fun h => absurd rfl h⟩
    conv => whnf
    exact ⟨Or.inl (congrArg ti (show (-1 : Int) = threadI l name 0 by rw [hf, List.drop_eq_nil_of_le hge]; rfl)), trivial⟩

theorem k17 (p : Prg) (name : ByteArray) : K 66 [p.av, .tr (ts name)] [] (.ret (.tr (ti (findI p.shared name 0)))) [] := by
  refine Ctr.of hT hmix Tryz.func66 rfl (fun _ _ => by kernel_rfl) rfl fun hok => ?_
  conv => whnf
  refine acall.pure _ (k39 p.shared name) rfl rfl fun _ => ?_
  conv => whnf
  exact ⟨Or.inl rfl, trivial⟩
theorem k19 (p : Prg) (name : ByteArray) : K 67 [p.av, .tr (ts name)] [] (.ret (.tr (ti (findI p.locks name 0)))) [] := by
  refine Ctr.of hT hmix Tryz.func67 rfl (fun _ _ => by kernel_rfl) rfl fun hok => ?_
  conv => whnf
  refine acall.pure _ (k39 p.locks name) rfl rfl fun _ => ?_
  conv => whnf
  exact ⟨Or.inl rfl, trivial⟩
theorem k21 (p : Prg) (t : Int) (name : ByteArray) : K 101 [p.av, .tr (ti t), .tr (ts name)] [] (.ret (.tr (ti (localI p t name)))) [] := by
  refine Ctr.of hT hmix Tryz.func101 rfl (fun _ _ => by kernel_rfl) rfl fun hok => ?_
  obtain ⟨_, hl, _⟩ := ((hok.slot 0 rfl).agg _ (.tail _ (.tail _ (.head _)))).tr.lst
  rw [List.length_map] at hl
  have ht := (hok.slot 1 rfl).tr.i64
  conv => whnf
  refine csplit (fun h1 => ?_) (fun h1 => ?_)
  · conv => whnf
    replace h1 := of_decide_eq_true h1
    exact ⟨Or.inl (congrArg ti (by unfold localI; rw [if_pos h1])), trivial⟩
  · conv => whnf
    replace h1 := of_decide_eq_false h1
    refine csplit (fun h2 => ?_) (fun h2 => ?_)
    · conv => whnf
      replace h2 : p.threads.length ≤ t.toNat := by have := of_decide_eq_true h2; rw [List.length_map] at this; omega
      exact ⟨Or.inl (congrArg ti (by unfold localI; rw [if_neg h1, List.getElem?_eq_none h2])), trivial⟩
    · conv => whnf
      replace h2 : t.toNat < p.threads.length := by have := of_decide_eq_false h2; rw [List.length_map] at this; omega
      refine ⟨rfl, by omega, by rw [List.length_map]; omega, fun row hrow => ?_⟩
      obtain ⟨d, hd, rfl⟩ := map_get hrow
      conv => whnf
      refine acall.pure _ (k39 d.locals name) rfl rfl fun _ => ?_
      conv => whnf
      exact ⟨Or.inl (congrArg ti (by unfold localI; rw [if_neg h1, hd])), trivial⟩
end Go.Proofs.YtbpcbhmdjphodaaGreat.am

namespace Go.Proofs.YtbpcbhmdjphodaaGreat.am
open Go Go.Proofs
theorem k84 (a r : Int) : K 65 [.tr (ti a), .tr (ti r)] [] (.ret (Flt.av ⟨a, r⟩)) [] := by
  refine Ctr.of hT hmix Tryz.func65 rfl (fun _ _ => by kernel_rfl) rfl fun hok => ?_
  conv => whnf
  exact ⟨⟨Or.inl rfl, Or.inl rfl, trivial⟩, trivial⟩
theorem k100 (a b : Int) : K 95 [.tr (ti a), .tr (ti b)] [] (.ret (.tr (ti (leastI a b)))) [] := by
  refine Ctr.of hT hmix Tryz.func95 rfl (fun _ _ => by kernel_rfl) rfl fun hok => ?_
  conv => whnf
  (repeat' (refine csplit (fun _ => ?_) (fun _ => ?_) <;> conv => whnf)) <;> refine ⟨Or.inl (congrArg ti ?_), trivial⟩ <;> (simp only [leastI, *]; rfl)
theorem k107 (op : Int) : K 104 [.tr (tu op)] [] (.ret (.tr (tb (two op)))) [] := by
  refine Ctr.of hT hmix Tryz.func104 rfl (fun _ _ => by kernel_rfl) rfl fun hok => ?_
  conv => whnf
  (repeat' (refine csplit (fun _ => ?_) (fun _ => ?_) <;> conv => whnf)) <;> refine ⟨Or.inl (congrArg tb ?_), trivial⟩ <;> (simp only [two, *]; rfl)
theorem k99 (p : Prg) (t : Int) (name : ByteArray) (sh : Bool) : K 94 [p.av, .tr (ti t), .tr (ts name), .tr (tb sh)] [] (.ret (.tr (ti (variableI p t name sh)))) [] := by
  refine Ctr.of hT hmix Tryz.func94 rfl (fun _ _ => by kernel_rfl) rfl fun hok => ?_
  conv => whnf
  refine acall.pure _ (k21 p t name) rfl rfl fun _ => ?_
  conv => whnf
  refine csplit (fun h1 => ?_) (fun h1 => ?_)
  · conv => whnf
    refine csplit (fun h2 => ?_) (fun h2 => ?_) <;> conv => whnf
    all_goals exact ⟨Or.inl (congrArg ti (by simp only [variableI, *]; rfl)), trivial⟩
  conv => whnf
  refine acall.pure _ (k17 p name) rfl rfl fun _ => ?_
  conv => whnf
  refine csplit (fun h2 => ?_) (fun h2 => ?_)
  · conv => whnf
    exact ⟨Or.inl (congrArg ti (by simp only [variableI, *]; rfl)), trivial⟩
  conv => whnf
  refine acall.pure _ (k19 p name) rfl rfl fun _ => ?_
  conv => whnf
  refine csplit (fun h3 => ?_) (fun h3 => ?_)
  · conv => whnf
    exact ⟨Or.inl (congrArg ti (by simp only [variableI, *]; rfl)), trivial⟩
  conv => whnf
  refine acall.pure _ (k79 p name) rfl rfl fun _ => ?_
  conv => whnf
  refine csplit (fun h4 => ?_) (fun h4 => ?_) <;> conv => whnf
  all_goals exact ⟨Or.inl (congrArg ti (by simp only [variableI, *]; rfl)), trivial⟩
theorem k101 (p : Prg) (t : Int) (name : ByteArray) : K 96 [p.av, .tr (ti t), .tr (ts name)] [] (.ret (.tr (ti (lockI p t name)))) [] := by
  refine Ctr.of hT hmix Tryz.func96 rfl (fun _ _ => by kernel_rfl) rfl fun hok => ?_
  conv => whnf
  refine acall.pure _ (k21 p t name) rfl rfl fun _ => ?_
  conv => whnf
  refine csplit (fun h1 => ?_) (fun h1 => ?_)
  · conv => whnf
    exact ⟨Or.inl (congrArg ti (by simp only [lockI, *]; rfl)), trivial⟩
  conv => whnf
  refine acall.pure _ (k19 p name) rfl rfl fun _ => ?_
  conv => whnf
  refine csplit (fun h2 => ?_) (fun h2 => ?_)
  · conv => whnf
    exact ⟨Or.inl (congrArg ti (by simp only [lockI, *]; rfl)), trivial⟩
  conv => whnf
  refine acall.pure _ (k17 p name) rfl rfl fun _ => ?_
  conv => whnf
  refine csplit (fun h3 => ?_) (fun h3 => ?_)
  · conv => whnf
    exact ⟨Or.inl (congrArg ti (by simp only [lockI, *]; rfl)), trivial⟩
  conv => whnf
  refine acall.pure _ (k79 p name) rfl rfl fun _ => ?_
  conv => whnf
  refine csplit (fun h4 => ?_) (fun h4 => ?_) <;> conv => whnf
  all_goals exact ⟨Or.inl (congrArg ti (by simp only [lockI, *]; rfl)), trivial⟩
theorem k105 (e : Expr) : K 102 [e.av] [] (.ret (.tr (tb (partsB e)))) [] := by
  refine Ctr.of hT hmix Tryz.func102 rfl (fun _ _ => by kernel_rfl) rfl fun hok => ?_
  obtain ⟨kind, op, word, name, kids, at_⟩ := e
  conv => whnf
  (repeat' (refine csplit (fun _ => ?_) (fun _ => ?_) <;> conv => whnf)) <;> first
    | exact ⟨Or.inl (congrArg tb (by simp only [partsB, noS, seq, *] <;> rfl)), trivial⟩
    | refine acall.pure _ (k107 op) rfl rfl fun _ => ?_
  all_goals
    conv => whnf
    exact ⟨Or.inl (congrArg tb (by simp only [partsB, noS, seq, *] <;> rfl)), trivial⟩
set_option maxHeartbeats 2000000 in
theorem k98 (s : Stmt) : K 93 [s.av] [] (.ret (.tr (tb (fieldsB s)))) [] := by
  refine Ctr.of hT hmix Tryz.func93 rfl (fun _ _ => by kernel_rfl) rfl fun hok => ?_
  obtain ⟨kind, name, other, e, body, els, at_⟩ := s
  conv => whnf
  refine ⟨by kernel_rfl, fun ho => ?_⟩
  clear ho hok
  conv => whnf
  (repeat' (refine csplit (fun _ => ?_) (fun _ => ?_) <;> conv => whnf)) <;> exact ⟨Or.inl (congrArg tb (by (try simp only [Bool.not_not, Bool.not_eq_true', Bool.not_eq_false'] at *); simp only [fieldsB, noS, seq, *] <;> rfl)), trivial⟩
end Go.Proofs.YtbpcbhmdjphodaaGreat.am

namespace Go.Proofs.YtbpcbhmdjphodaaGreat.am
open Go Go.Proofs
theorem exprsF_at {p : Prg} {t : Int} {l : List Expr} {i : Nat} {d : Expr} {dp : Int} (h : l[i]? = some d) : exprsF p t (l.drop i) dp = bif (exprF p t d dp).rule != 0 then exprF p t d dp else exprsF p t (l.drop (i + 1)) dp := by
  rw [drop_cons h]; rfl
theorem stmtsF_at {p : Prg} {t : Int} {l : List Stmt} {i : Nat} {d : Stmt} {dp : Int} (h : l[i]? = some d) : stmtsF p t (l.drop i) dp = bif (stmtF p t d dp).rule != 0 then stmtF p t d dp else stmtsF p t (l.drop (i + 1)) dp := by
  rw [drop_cons h]; rfl
theorem size_kid {l : List Expr} {i : Nat} {d : Expr} (h : l[i]? = some d) : SizeOf.sizeOf d < SizeOf.sizeOf l := List.sizeOf_lt_of_mem (List.mem_of_getElem? h)
theorem size_kid2 {l : List Stmt} {i : Nat} {d : Stmt} (h : l[i]? = some d) : SizeOf.sizeOf d < SizeOf.sizeOf l := List.sizeOf_lt_of_mem (List.mem_of_getElem? h)

theorem k102 (p : Prg) (t : Int) : ∀ (n : Nat) (e : Expr) (deep : Int), SizeOf.sizeOf e < n → K 97 [p.av, .tr (ti t), e.av, .tr (ti deep)] [] (.ret (Flt.av (exprF p t e deep))) [] := by
  intro n
  induction n with
  | zero => intro e deep h; omega
  | succ n ih =>
  intro e deep hsz
  refine Ctr.cut [6, 8] hT hmix Tryz.func97 rfl (fun _ _ => by kernel_rfl) rfl fun hok => ?_
  obtain ⟨kind, op, word, name, kids, at_⟩ := e
  have hdeep := (hok.slot 3 rfl).tr.i64
  have hkl := ((hok.slot 2 rfl).agg _ (.tail _ (.tail _ (.tail _ (.tail _ (.head _)))))).tr.lst.2.1
  rw [erows_len] at hkl
  conv => whnf
  refine acall.pure _ (k105 (.mk kind op word name kids at_)) rfl rfl fun _ => ?_
  conv => whnf
  refine csplit (fun h1 => ?_) (fun h1 => ?_)
  · conv => whnf
    refine acall.pure _ (k84 at_ 4) rfl rfl fun _ => ?_
    conv => whnf
    exact ⟨⟨Or.inl (congrArg ti (by simp only [exprF, *] <;> rfl)), Or.inl (congrArg ti (by simp only [exprF, *] <;> rfl)), trivial⟩, trivial⟩
  conv => whnf
  refine CutL.by (fun r : Int => ⟨[(1, .tr (ti t)), (3, .tr (ti deep)), (4, .ptr 0 0), (6, .ptr 1 0), (8, .ptr 2 0), (9, .tr (ti r))], [(0, .cells 25 [.tr (declsT p.shared), .tr (declsT p.locks), .tr (threadsT p.threads)]), (1, .cells 62 ((Expr.mk kind op word name kids at_).cells.map .tr)), (2, .cells 28 [.tr (ti 0), .tr (ti 0)])], 3⟩)
    (fun r => r = bif kind == 2 then variableI p t name false else 0) ?_ ?_
  · conv => whnf
    refine csplit (fun h2 => ?_) (fun h2 => ?_)
    · conv => whnf
      refine acall.pure _ (k99 p t name false) rfl rfl fun _ => ?_
      conv => whnf
      exact ⟨_, [0, 1, 2], [], Sub.mk' rfl ⟨.inl rfl, .inl rfl, ⟨rfl, rfl⟩, ⟨rfl, rfl⟩, ⟨rfl, rfl⟩, .inl rfl, trivial⟩
        ⟨⟨rfl, .inl rfl, .inl rfl, .inl rfl, trivial⟩, ⟨rfl, .inl rfl, .inl rfl, .inl rfl, .inl rfl, .inl rfl, .inl rfl, trivial⟩, ⟨rfl, .inl rfl, .inl rfl, trivial⟩, trivial⟩ rfl rfl, by rw [h2]; rfl⟩
    · conv => whnf
      exact ⟨_, [0, 1, 2], [], Sub.mk' rfl ⟨.inl rfl, .inl rfl, ⟨rfl, rfl⟩, ⟨rfl, rfl⟩, ⟨rfl, rfl⟩, .inl rfl, trivial⟩
        ⟨⟨rfl, .inl rfl, .inl rfl, .inl rfl, trivial⟩, ⟨rfl, .inl rfl, .inl rfl, .inl rfl, .inl rfl, .inl rfl, .inl rfl, trivial⟩, ⟨rfl, .inl rfl, .inl rfl, trivial⟩, trivial⟩ rfl rfl, by rw [h2]; rfl⟩
  intro r hr _
  conv => whnf
  refine CutL.by (fun r : Int => ⟨[(1, .tr (ti t)), (3, .tr (ti deep)), (4, .ptr 0 0), (6, .ptr 1 0), (8, .ptr 2 0), (9, .tr (ti r))], [(0, .cells 25 [.tr (declsT p.shared), .tr (declsT p.locks), .tr (threadsT p.threads)]), (1, .cells 62 ((Expr.mk kind op word name kids at_).cells.map .tr)), (2, .cells 28 [.tr (ti 0), .tr (ti 0)])], 3⟩)
    (fun x => x = deepI r deep) ?_ ?_
  · conv => whnf
    (repeat' (refine csplit (fun _ => ?_) (fun _ => ?_) <;> conv => whnf)) <;>
      exact ⟨_, [0, 1, 2], [], Sub.mk' rfl ⟨.inl rfl, .inl rfl, ⟨rfl, rfl⟩, ⟨rfl, rfl⟩, ⟨rfl, rfl⟩, .inl rfl, trivial⟩
        ⟨⟨rfl, .inl rfl, .inl rfl, .inl rfl, trivial⟩, ⟨rfl, .inl rfl, .inl rfl, .inl rfl, .inl rfl, .inl rfl, .inl rfl, trivial⟩, ⟨rfl, .inl rfl, .inl rfl, trivial⟩, trivial⟩ rfl rfl, by clear hr; simp only [deepI, *] <;> rfl⟩
  rintro _ rfl -
  conv => whnf
  refine csplit (fun h3 => ?_) (fun h3 => ?_)
  · conv => whnf
    refine acall.pure _ (k84 at_ (deepI r deep)) rfl rfl fun _ => ?_
    conv => whnf
    subst hr
    exact ⟨⟨Or.inl (congrArg ti (by simp only [exprF, h1, h3] <;> rfl)), Or.inl (congrArg ti (by simp only [exprF, h1, h3] <;> rfl)), trivial⟩, trivial⟩
  conv => whnf
  have hd64 : deep ≤ 64 := by
    have h3' : deepI r deep = 0 := by simpa using h3
    cases hq : decide (deep > 64) with
    | false => have := of_decide_eq_false hq; omega
    | true => simp only [deepI, hq, Bool.and_true] at h3'; cases hr0 : (r == 0) <;> rw [hr0] at h3' <;> simp_all
  have hw : IntKind.i64.wrap (deep + 1) = deep + 1 := w64 (by omega) (by omega)
  have hE : exprF p t (.mk kind op word name kids at_) deep = exprsF p t kids (deep + 1) := by subst hr; simp only [exprF, h1, h3] <;> rfl
  rw [hE] at *
  refine LoopL.by (fun i : Nat => ⟨[(1, .tr (ti t)), (3, .tr (ti deep)), (4, .ptr 0 0), (8, .ptr 1 0), (40, .tr (exprsT kids)), (41, .tr (ti (Expr.rows kids).length)), (42, .tr (ti i))], [(0, .cells 25 [.tr (declsT p.shared), .tr (declsT p.locks), .tr (threadsT p.threads)]), (1, .cells 28 [.tr (ti 0), .tr (ti 0)])], 2⟩)
    (fun i => i ≤ kids.length ∧ exprsF p t kids (deep + 1) = exprsF p t (kids.drop i) (deep + 1)) (fun i => kids.length - i) 0 [0, 2] []
    (Sub.mk' rfl ⟨.inl rfl, .inl rfl, ⟨rfl, rfl⟩, ⟨rfl, rfl⟩, .inl rfl, .inl rfl, .inl rfl, trivial⟩ ⟨⟨rfl, .inl rfl, .inl rfl, .inl rfl, trivial⟩, ⟨rfl, .inl rfl, .inl rfl, trivial⟩, trivial⟩ rfl rfl) ⟨Nat.zero_le _, rfl⟩ ?_
  rintro i ⟨hi, hf⟩ -
  conv => whnf
  refine csplit (fun hlt => ?_) (fun hge => ?_)
  · have hlt : i < kids.length := by rw [erows_len] at hlt; simpa using hlt
    conv => whnf
    refine ⟨rfl, by omega, by rw [erows_len]; omega, fun row hrow => ?_⟩
    obtain ⟨d, hd, rfl⟩ := erows_get hrow
    replace hd : kids[i]? = some d := hd
    have hsd := size_kid hd
    have hlt2 : SizeOf.sizeOf d < n := by simp only [Expr.mk.sizeOf_spec] at hsz; omega
    have hih : K 97 [p.av, .tr (ti t), d.av, .tr (ti (IntKind.i64.wrap (deep + 1)))] [] (.ret (Flt.av (exprF p t d (deep + 1)))) [] := by rw [hw]; exact ih d (deep + 1) hlt2
    rw [exprsF_at hd] at hf
    clear hrow
    obtain ⟨k1, k2, k3, k4, k5, k6⟩ := d
    conv => whnf
    refine acall.pure _ hih rfl rfl fun _ => ?_
    conv => whnf
    refine csplit (fun he => ?_) (fun he => ?_)
    · rw [he] at hf
      conv => whnf
      exact ⟨⟨Or.inl (congrArg ti (by rw [hf]; rfl)), Or.inl (congrArg ti (by rw [hf]; rfl)), trivial⟩, trivial⟩
    · rw [he] at hf
      conv => whnf
      refine ⟨i + 1, [0, 1], [], Sub.mk' rfl ⟨.inl rfl, .inl rfl, ⟨rfl, rfl⟩, ⟨rfl, rfl⟩, .inl rfl, .inl rfl, .inl (ti_succ hlt hkl), trivial⟩ ⟨⟨rfl, .inl rfl, .inl rfl, .inl rfl, trivial⟩, ⟨rfl, .inl rfl, .inl rfl, trivial⟩, trivial⟩ rfl rfl, ⟨by omega, hf⟩, by omega⟩
  · have hge : kids.length ≤ i := by rw [erows_len] at hge; simpa using hge
    rw [List.drop_eq_nil_of_le hge] at hf
    conv => whnf
    refine ⟨fun _ => ?_, fun h => absurd rfl h⟩
    conv => whnf
    exact ⟨⟨Or.inl (congrArg ti (by rw [hf]; rfl)), Or.inl (congrArg ti (by rw [hf]; rfl)), trivial⟩, trivial⟩
end Go.Proofs.YtbpcbhmdjphodaaGreat.am

namespace Go.Proofs.YtbpcbhmdjphodaaGreat.am
open Go Go.Proofs
theorem k92_85 (p : Prg) (t : Int) : ∀ (n : Nat),
    (∀ (s : Stmt) (deep : Int), SizeOf.sizeOf s < n → K 84 [p.av, .tr (ti t), s.av, .tr (ti deep)] [] (.ret (Flt.av (stmtF p t s deep))) []) ∧
    (∀ (l : List Stmt) (deep : Int), SizeOf.sizeOf l < n → K 69 [p.av, .tr (ti t), .tr (stmtsT l), .tr (ti deep)] [] (.ret (Flt.av (stmtsF p t l deep))) []) := by
  intro n
  induction n with
  | zero => exact ⟨fun s deep h => by omega, fun l deep h => by omega⟩
  | succ n ih =>
  obtain ⟨ihs, ihl⟩ := ih
  constructor
  · intro s deep hsz
    refine Ctr.cut [11, 13] hT hmix Tryz.func84 rfl (fun _ _ => by kernel_rfl) rfl fun hok => ?_
    obtain ⟨kind, name, other, e, body, els, at_⟩ := s
    have hdeep := (hok.slot 3 rfl).tr.i64
    have hel := ((hok.slot 2 rfl).agg _ (.tail _ (.tail _ (.tail _ (.head _))))).tr.lst.2.1
    rw [erows_len] at hel
    simp only [Stmt.mk.sizeOf_spec] at hsz
    conv => whnf
    refine acall.pure _ (k98 (.mk kind name other e body els at_)) rfl rfl fun _ => ?_
    conv => whnf
    refine csplit (fun h1 => ?_) (fun h1 => ?_)
    · conv => whnf
      refine acall.pure _ (k84 at_ 4) rfl rfl fun _ => ?_
      conv => whnf
      exact ⟨⟨Or.inl (congrArg ti (by simp only [stmtF, h1] <;> rfl)), Or.inl (congrArg ti (by simp only [stmtF, h1] <;> rfl)), trivial⟩, trivial⟩
    conv => whnf
    refine CutL.by (fun r : Int => ⟨[(1, .tr (ti t)), (3, .tr (ti deep)), (4, .ptr 0 0), (6, .ptr 1 0), (8, .ptr 2 0), (9, .tr (ti r))], [(0, .cells 25 [.tr (declsT p.shared), .tr (declsT p.locks), .tr (threadsT p.threads)]), (1, .cells 50 ((Stmt.mk kind name other e body els at_).cells.map .tr)), (2, .cells 28 [.tr (ti 0), .tr (ti 0)])], 3⟩)
      (fun r => r = namesI p t kind name other) ?_ ?_
    · conv => whnf
      refine csplit (fun h2 => ?_) (fun h2 => ?_)
      · conv => whnf
        refine acall.pure _ (k99 p t name false) rfl rfl fun _ => ?_
        conv => whnf
        exact ⟨_, [0, 1, 2], [], Sub.mk' rfl ⟨.inl rfl, .inl rfl, ⟨rfl, rfl⟩, ⟨rfl, rfl⟩, ⟨rfl, rfl⟩, .inl rfl, trivial⟩
          ⟨⟨rfl, .inl rfl, .inl rfl, .inl rfl, trivial⟩, ⟨rfl, .inl rfl, .inl rfl, .inl rfl, .inl rfl, .inl rfl, .inl rfl, .inl rfl, trivial⟩, ⟨rfl, .inl rfl, .inl rfl, trivial⟩, trivial⟩ rfl rfl, by simp only [namesI, h2] <;> rfl⟩
      conv => whnf
      refine csplit (fun h3 => ?_) (fun h3 => ?_)
      · conv => whnf
        refine acall.pure _ (k99 p t name false) rfl rfl ?_
        conv => whnf
        refine acall.pure _ (k99 p t other true) rfl rfl ?_
        conv => whnf
        refine acall.pure _ (k100 (variableI p t name false) (variableI p t other true)) rfl rfl ?_
        conv => whnf
        refine ⟨by kernel_rfl, fun ho => ?_⟩
        conv => whnf
        exact ⟨_, [0, 1, 2], [], Sub.mk' rfl ⟨.inl rfl, .inl rfl, ⟨rfl, rfl⟩, ⟨rfl, rfl⟩, ⟨rfl, rfl⟩, .inl rfl, trivial⟩
          ⟨⟨rfl, .inl rfl, .inl rfl, .inl rfl, trivial⟩, ⟨rfl, .inl rfl, .inl rfl, .inl rfl, .inl rfl, .inl rfl, .inl rfl, .inl rfl, trivial⟩, ⟨rfl, .inl rfl, .inl rfl, trivial⟩, trivial⟩ rfl rfl, by simp only [namesI, h2, h3] <;> rfl⟩
      conv => whnf
      refine csplit (fun h4 => ?_) (fun h4 => ?_)
      · conv => whnf
        refine acall.pure _ (k101 p t name) rfl rfl fun _ => ?_
        conv => whnf
        exact ⟨_, [0, 1, 2], [], Sub.mk' rfl ⟨.inl rfl, .inl rfl, ⟨rfl, rfl⟩, ⟨rfl, rfl⟩, ⟨rfl, rfl⟩, .inl rfl, trivial⟩
          ⟨⟨rfl, .inl rfl, .inl rfl, .inl rfl, trivial⟩, ⟨rfl, .inl rfl, .inl rfl, .inl rfl, .inl rfl, .inl rfl, .inl rfl, .inl rfl, trivial⟩, ⟨rfl, .inl rfl, .inl rfl, trivial⟩, trivial⟩ rfl rfl, by simp only [namesI, h2, h3, h4] <;> rfl⟩
      conv => whnf
      exact ⟨_, [0, 1, 2], [], Sub.mk' rfl ⟨.inl rfl, .inl rfl, ⟨rfl, rfl⟩, ⟨rfl, rfl⟩, ⟨rfl, rfl⟩, .inl rfl, trivial⟩
        ⟨⟨rfl, .inl rfl, .inl rfl, .inl rfl, trivial⟩, ⟨rfl, .inl rfl, .inl rfl, .inl rfl, .inl rfl, .inl rfl, .inl rfl, .inl rfl, trivial⟩, ⟨rfl, .inl rfl, .inl rfl, trivial⟩, trivial⟩ rfl rfl, by simp only [namesI, h2, h3, h4] <;> rfl⟩
    rintro r hr -
    conv => whnf
    refine CutL.by (fun r : Int => ⟨[(1, .tr (ti t)), (3, .tr (ti deep)), (4, .ptr 0 0), (6, .ptr 1 0), (8, .ptr 2 0), (9, .tr (ti r))], [(0, .cells 25 [.tr (declsT p.shared), .tr (declsT p.locks), .tr (threadsT p.threads)]), (1, .cells 50 ((Stmt.mk kind name other e body els at_).cells.map .tr)), (2, .cells 28 [.tr (ti 0), .tr (ti 0)])], 3⟩)
      (fun x => x = deepI r deep) ?_ ?_
    · conv => whnf
      (repeat' (refine csplit (fun _ => ?_) (fun _ => ?_) <;> conv => whnf)) <;>
        exact ⟨_, [0, 1, 2], [], Sub.mk' rfl ⟨.inl rfl, .inl rfl, ⟨rfl, rfl⟩, ⟨rfl, rfl⟩, ⟨rfl, rfl⟩, .inl rfl, trivial⟩
          ⟨⟨rfl, .inl rfl, .inl rfl, .inl rfl, trivial⟩, ⟨rfl, .inl rfl, .inl rfl, .inl rfl, .inl rfl, .inl rfl, .inl rfl, .inl rfl, trivial⟩, ⟨rfl, .inl rfl, .inl rfl, trivial⟩, trivial⟩ rfl rfl, by clear hr; simp only [deepI, *] <;> rfl⟩
    rintro _ rfl -
    conv => whnf
    refine csplit (fun h3 => ?_) (fun h3 => ?_)
    · conv => whnf
      refine acall.pure _ (k84 at_ (deepI r deep)) rfl rfl fun _ => ?_
      conv => whnf
      subst hr
      exact ⟨⟨Or.inl (congrArg ti (by simp only [stmtF, h1, h3] <;> rfl)), Or.inl (congrArg ti (by simp only [stmtF, h1, h3] <;> rfl)), trivial⟩, trivial⟩
    conv => whnf
    have hd64 : deep ≤ 64 := by
      have h3' : deepI r deep = 0 := by simpa using h3
      cases hq : decide (deep > 64) with
      | false => have := of_decide_eq_false hq; omega
      | true => simp only [deepI, hq, Bool.and_true] at h3'; cases hr0 : (r == 0) <;> rw [hr0] at h3' <;> simp_all
    have hw : IntKind.i64.wrap (deep + 1) = deep + 1 := w64 (by omega) (by omega)
    have hE : stmtF p t (.mk kind name other e body els at_) deep = bif (exprsF p t e 1).rule != 0 then exprsF p t e 1
      else bif (stmtsF p t body (deep + 1)).rule != 0 then stmtsF p t body (deep + 1)
      else stmtsF p t els (deep + 1) := by subst hr; simp only [stmtF, h1, h3] <;> rfl
    rw [hE] at *
    refine LoopL.by (fun i : Nat => ⟨[(1, .tr (ti t)), (3, .tr (ti deep)), (4, .ptr 0 0), (6, .ptr 1 0), (8, .ptr 2 0), (62, .tr (exprsT e)), (63, .tr (ti (Expr.rows e).length)), (64, .tr (ti i))], [(0, .cells 25 [.tr (declsT p.shared), .tr (declsT p.locks), .tr (threadsT p.threads)]), (1, .cells 50 ((Stmt.mk kind name other e body els at_).cells.map .tr)), (2, .cells 28 [.tr (ti 0), .tr (ti 0)])], 3⟩)
      (fun i => i ≤ e.length ∧ exprsF p t e 1 = exprsF p t (e.drop i) 1) (fun i => e.length - i) 0 [0, 1, 2] []
      (Sub.mk' rfl ⟨.inl rfl, .inl rfl, ⟨rfl, rfl⟩, ⟨rfl, rfl⟩, ⟨rfl, rfl⟩, .inl rfl, .inl rfl, .inl rfl, trivial⟩
        ⟨⟨rfl, .inl rfl, .inl rfl, .inl rfl, trivial⟩, ⟨rfl, .inl rfl, .inl rfl, .inl rfl, .inl rfl, .inl rfl, .inl rfl, .inl rfl, trivial⟩, ⟨rfl, .inl rfl, .inl rfl, trivial⟩, trivial⟩ rfl rfl) ⟨Nat.zero_le _, rfl⟩ ?_
    rintro i ⟨hi, hf⟩ -
    conv => whnf
    refine csplit (fun hlt => ?_) (fun hge => ?_)
    · have hlt : i < e.length := by rw [erows_len] at hlt; simpa using hlt
      conv => whnf
      refine ⟨rfl, by omega, by rw [erows_len]; omega, fun row hrow => ?_⟩
      obtain ⟨d, hd, rfl⟩ := erows_get hrow
      replace hd : e[i]? = some d := hd
      have hih := k102 p t (SizeOf.sizeOf d + 1) d 1 (by omega)
      rw [exprsF_at hd] at hf
      clear hrow
      obtain ⟨k1, k2, k3, k4, k5, k6⟩ := d
      conv => whnf
      refine acall.pure _ hih rfl rfl fun _ => ?_
      conv => whnf
      refine csplit (fun he => ?_) (fun he => ?_)
      · rw [he] at hf
        have hf : exprsF p t e 1 = exprF p t (.mk k1 k2 k3 k4 k5 k6) 1 := hf
        conv => whnf
        exact ⟨⟨Or.inl (congrArg ti (by rw [hf, he]; rfl)), Or.inl (congrArg ti (by rw [hf, he]; rfl)), trivial⟩, trivial⟩
      · rw [he] at hf
        conv => whnf
        exact ⟨i + 1, [0, 1, 2], [], Sub.mk' rfl ⟨.inl rfl, .inl rfl, ⟨rfl, rfl⟩, ⟨rfl, rfl⟩, ⟨rfl, rfl⟩, .inl rfl, .inl rfl, .inl (ti_succ hlt hel), trivial⟩
          ⟨⟨rfl, .inl rfl, .inl rfl, .inl rfl, trivial⟩, ⟨rfl, .inl rfl, .inl rfl, .inl rfl, .inl rfl, .inl rfl, .inl rfl, .inl rfl, trivial⟩, ⟨rfl, .inl rfl, .inl rfl, trivial⟩, trivial⟩ rfl rfl, ⟨by omega, hf⟩, by omega⟩
    · have hge : e.length ≤ i := by rw [erows_len] at hge; simpa using hge
      rw [List.drop_eq_nil_of_le hge] at hf
      have hf0 : ((exprsF p t e 1).rule != 0) = false := by rw [hf]; rfl
      rw [hf0, cond_false]
      have hb : K 69 [p.av, .tr (ti t), .tr (stmtsT body), .tr (ti (IntKind.i64.wrap (deep + 1)))] [] (.ret (Flt.av (stmtsF p t body (deep + 1)))) [] := by rw [hw]; exact ihl body (deep + 1) (by omega)
      have hl : K 69 [p.av, .tr (ti t), .tr (stmtsT els), .tr (ti (IntKind.i64.wrap (deep + 1)))] [] (.ret (Flt.av (stmtsF p t els (deep + 1)))) [] := by rw [hw]; exact ihl els (deep + 1) (by omega)
      conv => whnf
      refine ⟨fun _ => ?_, fun h => absurd rfl h⟩
      conv => whnf
      refine acall.pure _ hb rfl rfl fun _ => ?_
      conv => whnf
      refine csplit (fun he => ?_) (fun he => ?_)
      · conv => whnf
        exact ⟨⟨Or.inl (congrArg ti (by rw [he]; rfl)), Or.inl (congrArg ti (by rw [he]; rfl)), trivial⟩, trivial⟩
      conv => whnf
      refine acall.pure _ hl rfl rfl fun _ => ?_
      conv => whnf
      exact ⟨⟨Or.inl (congrArg ti (by rw [he]; rfl)), Or.inl (congrArg ti (by rw [he]; rfl)), trivial⟩, trivial⟩
  · intro l deep hsz
    refine Ctr.of hT hmix Tryz.func69 rfl (fun _ _ => by kernel_rfl) rfl fun hok => ?_
    have hkl := (hok.slot 2 rfl).tr.lst.2.1
    rw [srows_len] at hkl
    conv => whnf
    refine LoopL.by (fun i : Nat => ⟨[(1, .tr (ti t)), (3, .tr (ti deep)), (4, .ptr 0 0), (8, .ptr 1 0), (12, .tr (stmtsT l)), (13, .tr (ti (Stmt.rows l).length)), (14, .tr (ti i))], [(0, .cells 25 [.tr (declsT p.shared), .tr (declsT p.locks), .tr (threadsT p.threads)]), (1, .cells 28 [.tr (ti 0), .tr (ti 0)])], 2⟩)
      (fun i => i ≤ l.length ∧ stmtsF p t l deep = stmtsF p t (l.drop i) deep) (fun i => l.length - i) 0 [0, 1] []
      (Sub.mk' rfl ⟨.inl rfl, .inl rfl, ⟨rfl, rfl⟩, ⟨rfl, rfl⟩, .inl rfl, .inl rfl, .inl rfl, trivial⟩ ⟨⟨rfl, .inl rfl, .inl rfl, .inl rfl, trivial⟩, ⟨rfl, .inl rfl, .inl rfl, trivial⟩, trivial⟩ rfl rfl) ⟨Nat.zero_le _, rfl⟩ ?_
    rintro i ⟨hi, hf⟩ -
    conv => whnf
    refine csplit (fun hlt => ?_) (fun hge => ?_)
    · have hlt : i < l.length := by rw [srows_len] at hlt; simpa using hlt
      conv => whnf
      refine ⟨rfl, by omega, by rw [srows_len]; omega, fun row hrow => ?_⟩
      obtain ⟨d, hd, rfl⟩ := srows_get hrow
      replace hd : l[i]? = some d := hd
      have hsd := size_kid2 hd
      have hih := ihs d deep (by omega)
      rw [stmtsF_at hd] at hf
      clear hrow
      obtain ⟨k1, k2, k3, k4, k5, k6, k7⟩ := d
      conv => whnf
      refine acall.pure _ hih rfl rfl fun _ => ?_
      conv => whnf
      refine csplit (fun he => ?_) (fun he => ?_)
      · rw [he] at hf
        conv => whnf
        exact ⟨⟨Or.inl (congrArg ti (by rw [hf]; rfl)), Or.inl (congrArg ti (by rw [hf]; rfl)), trivial⟩, trivial⟩
      · rw [he] at hf
        conv => whnf
        exact ⟨i + 1, [0, 1], [], Sub.mk' rfl ⟨.inl rfl, .inl rfl, ⟨rfl, rfl⟩, ⟨rfl, rfl⟩, .inl rfl, .inl rfl, .inl (ti_succ hlt hkl), trivial⟩ ⟨⟨rfl, .inl rfl, .inl rfl, .inl rfl, trivial⟩, ⟨rfl, .inl rfl, .inl rfl, trivial⟩, trivial⟩ rfl rfl, ⟨by omega, hf⟩, by omega⟩
    · have hge : l.length ≤ i := by rw [srows_len] at hge; simpa using hge
      rw [List.drop_eq_nil_of_le hge] at hf
      conv => whnf
      refine ⟨fun _ => ?_, fun h => absurd rfl h⟩
      conv => whnf
      exact ⟨⟨Or.inl (congrArg ti (by rw [hf]; rfl)), Or.inl (congrArg ti (by rw [hf]; rfl)), trivial⟩, trivial⟩
end Go.Proofs.YtbpcbhmdjphodaaGreat.am

namespace Go.Proofs.YtbpcbhmdjphodaaGreat.am
open Go Go.Proofs
theorem k76 (c : Int) : K 73 [.tr (tu c)] [] (.ret (.tr (tb (digB c)))) [] := by
  refine Ctr.of hT hmix Tryz.func73 rfl (fun _ _ => by kernel_rfl) rfl fun hok => ?_
  conv => whnf
  (repeat' (refine csplit (fun _ => ?_) (fun _ => ?_) <;> conv => whnf)) <;> refine ⟨Or.inl (congrArg tb ?_), trivial⟩ <;> (simp only [digB, *] <;> rfl)
theorem k69 (c : Int) : K 58 [.tr (tu c)] [] (.ret (.tr (tb (digB c)))) [] := by
  refine Ctr.of hT hmix Tryz.func58 rfl (fun _ _ => by kernel_rfl) rfl fun hok => ?_
  conv => whnf
  (repeat' (refine csplit (fun _ => ?_) (fun _ => ?_) <;> conv => whnf)) <;> refine ⟨Or.inl (congrArg tb ?_), trivial⟩ <;> (simp only [digB, *] <;> rfl)
theorem k78 (c : Int) : K 72 [.tr (tu c)] [] (.ret (.tr (tb (letB c)))) [] := by
  refine Ctr.of hT hmix Tryz.func72 rfl (fun _ _ => by kernel_rfl) rfl fun hok => ?_
  conv => whnf
  (repeat' (refine csplit (fun _ => ?_) (fun _ => ?_) <;> conv => whnf)) <;> refine ⟨Or.inl (congrArg tb ?_), trivial⟩ <;> (simp only [letB, *] <;> rfl)
theorem k71 (c : Int) : K 60 [.tr (tu c)] [] (.ret (.tr (tb (letB c)))) [] := by
  refine Ctr.of hT hmix Tryz.func60 rfl (fun _ _ => by kernel_rfl) rfl fun hok => ?_
  conv => whnf
  (repeat' (refine csplit (fun _ => ?_) (fun _ => ?_) <;> conv => whnf)) <;> refine ⟨Or.inl (congrArg tb ?_), trivial⟩ <;> (simp only [letB, *] <;> rfl)
theorem k77 (s : ByteArray) : K 74 [.tr (ts s)] [] (.ret (.tr (tb (wordB s)))) [] := by
  refine Ctr.of hT hmix Tryz.func74 rfl (fun _ _ => by kernel_rfl) rfl fun hok => ?_
  conv => whnf
  (repeat' (refine csplit (fun _ => ?_) (fun _ => ?_) <;> conv => whnf)) <;> refine ⟨Or.inl (congrArg tb ?_), trivial⟩ <;> first | (simp only [wordB, seq, *] <;> rfl) | simp_all
theorem k70 (s : ByteArray) : K 59 [.tr (ts s)] [] (.ret (.tr (tb (wordB s)))) [] := by
  refine Ctr.of hT hmix Tryz.func59 rfl (fun _ _ => by kernel_rfl) rfl fun hok => ?_
  conv => whnf
  (repeat' (refine csplit (fun _ => ?_) (fun _ => ?_) <;> conv => whnf)) <;> refine ⟨Or.inl (congrArg tb ?_), trivial⟩ <;> first | (simp only [wordB, seq, *] <;> rfl) | simp_all
theorem k47 (s : ByteArray) : K 64 [.tr (ts s)] [] (.ret (.tr (tb (nameB s)))) [] := by
  refine Ctr.of hT hmix Tryz.func64 rfl (fun _ _ => by kernel_rfl) rfl fun hok => ?_
  have hsz := (hok.slot 0 rfl).tr.str
  clear hok
  conv => whnf
  refine csplit (fun h1 => ?_) (fun h1 => ?_)
  · conv => whnf
    exact ⟨Or.inl (congrArg tb (by simp only [nameB, h1] <;> rfl)), trivial⟩
  conv => whnf
  refine csplit (fun h2 => ?_) (fun h2 => ?_)
  · conv => whnf
    exact ⟨Or.inl (congrArg tb (by simp only [nameB, h1, h2] <;> rfl)), trivial⟩
  have hs0 : 0 < s.size := by have := of_decide_eq_false h1; omega
  conv => whnf
  refine ⟨by omega, by omega, fun b hb => ?_⟩
  have hc0 : chI s 0 = b.toNat := by unfold chI; rw [show s[0]? = some b from hb]
  conv => whnf
  refine acall.pure _ (k76 b.toNat) rfl rfl fun _ => ?_
  conv => whnf
  refine csplit (fun h3 => ?_) (fun h3 => ?_)
  · conv => whnf
    exact ⟨Or.inl (congrArg tb (by rw [← hc0] at h3; simp only [nameB, h1, h2, h3] <;> rfl)), trivial⟩
  rw [← hc0] at h3
  conv => whnf
  refine acall.pure _ (k77 s) rfl rfl fun _ => ?_
  conv => whnf
  refine csplit (fun h4 => ?_) (fun h4 => ?_)
  · conv => whnf
    exact ⟨Or.inl (congrArg tb (by simp only [nameB, h1, h2, h3, h4] <;> rfl)), trivial⟩
  conv => whnf
  have hE : nameB s = charsB s s.size := by simp only [nameB, h1, h2, h3, h4] <;> rfl
  refine LoopL.by (fun i : Nat => ⟨[(0, .tr (ts s)), (3, .tr (ti i))], [], 38⟩)
    (fun i => i ≤ s.size ∧ nameB s = charsB s (s.size - i)) (fun i => s.size - i) 0 [] [] (Sub.mk' rfl ⟨.inl rfl, .inl rfl, trivial⟩ trivial rfl rfl) ⟨Nat.zero_le _, hE⟩ ?_
  rintro i ⟨hi, hf⟩ -
  conv => whnf
  refine csplit (fun hlt => ?_) (fun hge => ?_)
  · have hlt : i < s.size := by simpa using hlt
    conv => whnf
    refine ⟨by omega, by omega, fun b hb => ?_⟩
    rw [charsB_at (show s[i]? = some b from hb) hlt] at hf
    conv => whnf
    refine acall.pure _ (k78 b.toNat) rfl rfl fun _ => ?_
    conv => whnf
    refine csplit (fun h5 => ?_) (fun h5 => ?_)
    · conv => whnf
      refine ⟨by omega, by omega, fun b' hb' => ?_⟩
      have hbb : b' = b := Option.some.inj ((show s[i]? = some b' from hb').symm.trans hb)
      subst hbb
      conv => whnf
      refine acall.pure _ (k76 b'.toNat) rfl rfl fun _ => ?_
      conv => whnf
      refine csplit (fun h6 => ?_) (fun h6 => ?_)
      · rw [h5, h6] at hf
        conv => whnf
        exact ⟨Or.inl (congrArg tb hf.symm), trivial⟩
      · rw [h5, h6] at hf
        conv => whnf
        exact ⟨i + 1, [], [], Sub.mk' rfl ⟨.inl rfl, .inl (ti_succ hlt hsz), trivial⟩ trivial rfl rfl, ⟨by omega, hf⟩, by omega⟩
    · rw [h5] at hf
      conv => whnf
      exact ⟨i + 1, [], [], Sub.mk' rfl ⟨.inl rfl, .inl (ti_succ hlt hsz), trivial⟩ trivial rfl rfl, ⟨by omega, hf⟩, by omega⟩
  · have hge : s.size ≤ i := by simpa using hge
    rw [show s.size - i = 0 by omega] at hf
    conv => whnf
    refine ⟨fun _ => ?_, fun h => absurd rfl h⟩
    conv => whnf
    exact ⟨Or.inl (congrArg tb hf.symm), trivial⟩
theorem k41 (s : ByteArray) : K 43 [.tr (ts s)] [] (.ret (.tr (tb (nameB s)))) [] := by
  refine Ctr.of hT hmix Tryz.func43 rfl (fun _ _ => by kernel_rfl) rfl fun hok => ?_
  have hsz := (hok.slot 0 rfl).tr.str
  clear hok
  conv => whnf
  refine csplit (fun h1 => ?_) (fun h1 => ?_)
  · have h1 := (noS_size s).symm.trans h1
    conv => whnf
    exact ⟨Or.inl (congrArg tb (by simp only [nameB, h1] <;> rfl)), trivial⟩
  have h1 := (noS_size s).symm.trans h1
  conv => whnf
  refine csplit (fun h2 => ?_) (fun h2 => ?_)
  · conv => whnf
    exact ⟨Or.inl (congrArg tb (by simp only [nameB, h1, h2] <;> rfl)), trivial⟩
  have hs0 : 0 < s.size := by have := of_decide_eq_false h1; omega
  conv => whnf
  refine ⟨by omega, by omega, fun b hb => ?_⟩
  have hc0 : chI s 0 = b.toNat := by unfold chI; rw [show s[0]? = some b from hb]
  conv => whnf
  refine acall.pure _ (k69 b.toNat) rfl rfl fun _ => ?_
  conv => whnf
  refine csplit (fun h3 => ?_) (fun h3 => ?_)
  · conv => whnf
    exact ⟨Or.inl (congrArg tb (by rw [← hc0] at h3; simp only [nameB, h1, h2, h3] <;> rfl)), trivial⟩
  rw [← hc0] at h3
  conv => whnf
  refine acall.pure _ (k70 s) rfl rfl fun _ => ?_
  conv => whnf
  refine csplit (fun h4 => ?_) (fun h4 => ?_)
  · conv => whnf
    exact ⟨Or.inl (congrArg tb (by simp only [nameB, h1, h2, h3, h4] <;> rfl)), trivial⟩
  conv => whnf
  have hE : nameB s = charsB s s.size := by simp only [nameB, h1, h2, h3, h4] <;> rfl
  refine LoopL.by (fun i : Nat => ⟨[(0, .tr (ts s)), (21, .tr (ti s.size)), (22, .tr (ti i))], [], 38⟩)
    (fun i => i ≤ s.size ∧ nameB s = charsB s (s.size - i)) (fun i => s.size - i) 0 [] [] (Sub.mk' rfl ⟨.inl rfl, .inl rfl, .inl rfl, trivial⟩ trivial rfl rfl) ⟨Nat.zero_le _, hE⟩ ?_
  rintro i ⟨hi, hf⟩ -
  conv => whnf
  refine csplit (fun hlt => ?_) (fun hge => ?_)
  · have hlt : i < s.size := by simpa using hlt
    conv => whnf
    refine ⟨by omega, by omega, fun b hb => ?_⟩
    rw [charsB_at (show s[i]? = some b from hb) hlt] at hf
    conv => whnf
    refine acall.pure _ (k71 b.toNat) rfl rfl fun _ => ?_
    conv => whnf
    refine csplit (fun h5 => ?_) (fun h5 => ?_)
    · conv => whnf
      refine ⟨by omega, by omega, fun b' hb' => ?_⟩
      have hbb : b' = b := Option.some.inj ((show s[i]? = some b' from hb').symm.trans hb)
      subst hbb
      conv => whnf
      refine acall.pure _ (k69 b'.toNat) rfl rfl fun _ => ?_
      conv => whnf
      refine csplit (fun h6 => ?_) (fun h6 => ?_)
      · rw [h5, h6] at hf
        conv => whnf
        exact ⟨Or.inl (congrArg tb hf.symm), trivial⟩
      · rw [h5, h6] at hf
        conv => whnf
        exact ⟨i + 1, [], [], Sub.mk' rfl ⟨.inl rfl, .inl rfl, .inl (ti_succ hlt hsz), trivial⟩ trivial rfl rfl, ⟨by omega, hf⟩, by omega⟩
    · rw [h5] at hf
      conv => whnf
      exact ⟨i + 1, [], [], Sub.mk' rfl ⟨.inl rfl, .inl rfl, .inl (ti_succ hlt hsz), trivial⟩ trivial rfl rfl, ⟨by omega, hf⟩, by omega⟩
  · have hge : s.size ≤ i := by simpa using hge
    rw [show s.size - i = 0 by omega] at hf
    conv => whnf
    refine ⟨fun _ => ?_, fun h => absurd rfl h⟩
    conv => whnf
    exact ⟨Or.inl (congrArg tb hf.symm), trivial⟩
end Go.Proofs.YtbpcbhmdjphodaaGreat.am

namespace Go.Proofs.YtbpcbhmdjphodaaGreat.am
open Go Go.Proofs
theorem k91 (p : Prg) (kind : Int) (l : List Decl) (i : Nat) (most : Int) (d : Decl) (hd : l[i]? = some d) : K 82 [p.av, .tr (ti kind), .tr (declsT l), .tr (ti i), .tr (ti most)] [] (.ret (.tr (ti (declI p kind (l.take i) d i most)))) [] := by
  refine Ctr.cut [5, 7] hT hmix Tryz.func82 rfl (fun _ _ => by kernel_rfl) rfl fun hok => ?_
  have hlt : i < l.length := (List.getElem?_eq_some_iff.1 hd).1
  clear hok
  obtain ⟨name, word, at_⟩ := d
  conv => whnf
  refine ⟨rfl, by omega, by rw [List.length_map]; omega, fun row hrow => ?_⟩
  obtain ⟨d, hd', rfl⟩ := map_get hrow
  have hdd : d = ⟨name, word, at_⟩ := Option.some.inj ((show l[i]? = some d from hd').symm.trans hd)
  subst hdd
  clear hrow hd'
  conv => whnf
  have hk : K 83 [.tr (.lst 3 32 (((l.map Decl.cells).take i).drop 0)), .tr (ts name)] [] (.ret (.tr (ti (findI (l.take i) name 0)))) [] := by
    rw [List.drop_zero, ← List.map_take]; exact k39 _ _
  refine ⟨rfl, Int.le_refl 0, Int.natCast_nonneg i, (by show (i : Int) ≤ ((l.map Decl.cells).length : Nat); rw [List.length_map]; omega), ?_⟩
  conv => whnf
  refine acall.pure _ hk rfl rfl ?_
  conv => whnf
  refine ⟨by kernel_rfl, fun _ => ?_⟩
  conv => whnf
  refine CutL.by (fun b : Bool => ⟨[(1, .tr (ti kind)), (3, .tr (ti i)), (4, .tr (ti most)), (5, .ptr 0 0), (11, .ptr 1 0), (12, .tr (tb b))], [(0, .cells 25 [.tr (declsT p.shared), .tr (declsT p.locks), .tr (threadsT p.threads)]), (1, .cells 64 [.tr (ts name), .tr (ti word), .tr (ti at_)])], 2⟩)
    (fun b => b = (decide (findI (l.take i) name 0 ≥ 0) || ((kind == 1 || kind == 2) && decide (findI p.shared name 0 ≥ 0)))) ?_ ?_
  · conv => whnf
    (repeat' (first | (refine csplit (fun _ => ?_) (fun _ => ?_) <;> conv => whnf) | (refine acall.pure _ (k17 p name) rfl rfl fun _ => ?_; conv => whnf))) <;>
      exact ⟨_, [0, 6], [], Sub.mk' rfl ⟨.inl rfl, .inl rfl, .inl rfl, ⟨rfl, rfl⟩, ⟨rfl, rfl⟩, .inl rfl, trivial⟩ ⟨⟨rfl, .inl rfl, .inl rfl, .inl rfl, trivial⟩, ⟨rfl, .inl rfl, .inl rfl, .inl rfl, trivial⟩, trivial⟩ rfl rfl, by simp only [*, Bool.or_false, Bool.false_and, Bool.true_and] <;> rfl⟩
  rintro b hb -
  conv => whnf
  refine CutL.by (fun b : Bool => ⟨[(1, .tr (ti kind)), (3, .tr (ti i)), (4, .tr (ti most)), (5, .ptr 0 0), (11, .ptr 1 0), (12, .tr (tb b))], [(0, .cells 25 [.tr (declsT p.shared), .tr (declsT p.locks), .tr (threadsT p.threads)]), (1, .cells 64 [.tr (ts name), .tr (ti word), .tr (ti at_)])], 2⟩)
    (fun b => b = twiceB p kind (l.take i) name) ?_ ?_
  · conv => whnf
    (repeat' (first | (refine csplit (fun _ => ?_) (fun _ => ?_) <;> conv => whnf) | (refine acall.pure _ (k19 p name) rfl rfl fun _ => ?_; conv => whnf))) <;>
      exact ⟨_, [0, 1], [], Sub.mk' rfl ⟨.inl rfl, .inl rfl, .inl rfl, ⟨rfl, rfl⟩, ⟨rfl, rfl⟩, .inl rfl, trivial⟩ ⟨⟨rfl, .inl rfl, .inl rfl, .inl rfl, trivial⟩, ⟨rfl, .inl rfl, .inl rfl, .inl rfl, trivial⟩, trivial⟩ rfl rfl, by unfold twiceB; rw [← hb]; clear hb; simp only [*, Bool.or_false, Bool.false_and, Bool.true_and] <;> rfl⟩
  rintro _ rfl -
  clear hb hk
  conv => whnf
  refine acall.pure _ (k47 name) rfl rfl fun _ => ?_
  conv => whnf
  (repeat' (refine csplit (fun _ => ?_) (fun _ => ?_) <;> conv => whnf)) <;> exact ⟨Or.inl (congrArg ti (by simp only [declI, wordI, *] <;> rfl)), trivial⟩

theorem k83 (p : Prg) (kind : Int) (l : List Decl) (most : Int) : K 63 [p.av, .tr (ti kind), .tr (declsT l), .tr (ti most)] [] (.ret (Flt.av (declsF p kind most [] l))) [] := by
  refine Ctr.of hT hmix Tryz.func63 rfl (fun _ _ => by kernel_rfl) rfl fun hok => ?_
  obtain ⟨_, hl, _⟩ := (hok.slot 2 rfl).tr.lst
  rw [List.length_map] at hl
  clear hok
  conv => whnf
  refine LoopL.by (fun i : Nat => ⟨[(1, .tr (ti kind)), (2, .tr (declsT l)), (3, .tr (ti most)), (4, .ptr 0 0), (8, .ptr 1 0), (12, .tr (declsT l)), (13, .tr (ti (l.map Decl.cells).length)), (14, .tr (ti i))], [(0, .cells 25 [.tr (declsT p.shared), .tr (declsT p.locks), .tr (threadsT p.threads)]), (1, .cells 28 [.tr (ti 0), .tr (ti 0)])], 2⟩)
    (fun i => i ≤ l.length ∧ declsF p kind most [] l = declsF p kind most (l.take i) (l.drop i)) (fun i => l.length - i) 0 [0, 1] []
    (Sub.mk' rfl ⟨.inl rfl, .inl rfl, .inl rfl, ⟨rfl, rfl⟩, ⟨rfl, rfl⟩, .inl rfl, .inl rfl, .inl rfl, trivial⟩ ⟨⟨rfl, .inl rfl, .inl rfl, .inl rfl, trivial⟩, ⟨rfl, .inl rfl, .inl rfl, trivial⟩, trivial⟩ rfl rfl) ⟨Nat.zero_le _, rfl⟩ ?_
  rintro i ⟨hi, hf⟩ -
  conv => whnf
  refine csplit (fun hlt => ?_) (fun hge => ?_)
  · have hlt : i < l.length := by rw [List.length_map] at hlt; simpa using hlt
    conv => whnf
    refine ⟨rfl, by omega, by rw [List.length_map]; omega, fun row hrow => ?_⟩
    obtain ⟨d, hd, rfl⟩ := map_get hrow
    replace hd : l[i]? = some d := hd
    rw [declsF_at hd] at hf
    have hk := k91 p kind l i most d hd
    clear hrow
    obtain ⟨name, word, at_⟩ := d
    conv => whnf
    refine acall.pure _ hk rfl rfl fun _ => ?_
    conv => whnf
    refine csplit (fun he => ?_) (fun he => ?_)
    · rw [he] at hf
      conv => whnf
      refine acall.pure _ (k84 at_ (declI p kind (l.take i) ⟨name, word, at_⟩ i most)) rfl rfl fun _ => ?_
      conv => whnf
      exact ⟨⟨Or.inl (congrArg ti (by rw [hf]; rfl)), Or.inl (congrArg ti (by rw [hf]; rfl)), trivial⟩, trivial⟩
    · rw [he] at hf
      conv => whnf
      exact ⟨i + 1, [0, 1], [], Sub.mk' rfl ⟨.inl rfl, .inl rfl, .inl rfl, ⟨rfl, rfl⟩, ⟨rfl, rfl⟩, .inl rfl, .inl rfl, .inl (ti_succ hlt hl), trivial⟩ ⟨⟨rfl, .inl rfl, .inl rfl, .inl rfl, trivial⟩, ⟨rfl, .inl rfl, .inl rfl, trivial⟩, trivial⟩ rfl rfl, ⟨by omega, hf⟩, by omega⟩
  · have hge : l.length ≤ i := by rw [List.length_map] at hge; simpa using hge
    rw [List.drop_eq_nil_of_le hge] at hf
    have hf : declsF p kind most [] l = ⟨0, 0⟩ := hf.trans (by unfold declsF; rfl)
    conv => whnf
    refine ⟨fun _ => ?_, fun h => absurd rfl h⟩
    conv => whnf
    exact ⟨⟨Or.inl (congrArg ti (by rw [hf])), Or.inl (congrArg ti (by rw [hf])), trivial⟩, trivial⟩

theorem threadsF_at {p : Prg} {l : List Thread} {i : Nat} {t : Thread} {f : Flt} (h : l[i]? = some t) : threadsF p i (l.drop i) f = bif f.rule != 0 then f else
      bif !nameB t.name then ⟨t.at_, 1⟩
      else bif decide (findI p.shared t.name 0 ≥ 0) || decide (findI p.locks t.name 0 ≥ 0) || decide (threadI p.threads t.name 0 < i) then ⟨t.at_, 2⟩
      else bif decide ((i : Int) ≥ 8) then ⟨t.at_, 3⟩
      else threadsF p (i + 1) (l.drop (i + 1)) (bif (declsF p 2 64 [] t.locals).rule == 0 then stmtsF p i t.body 1 else declsF p 2 64 [] t.locals) := by
  rw [drop_cons h]; rfl

theorem k59 (p : Prg) : K 50 [p.av] [] (.ret (Flt.av (firstF p))) [] := by
  refine Ctr.cut [4] hT hmix Tryz.func50 rfl (fun _ _ => by kernel_rfl) rfl fun hok => ?_
  obtain ⟨_, hl, _⟩ := ((hok.slot 0 rfl).agg _ (.tail _ (.tail _ (.head _)))).tr.lst
  rw [List.length_map] at hl
  clear hok
  conv => whnf
  refine acall.pure _ (k83 p 0 p.shared 64) rfl rfl fun _ => ?_
  conv => whnf
  refine CutL.by (fun f : Flt => ⟨[(1, .ptr 0 0), (2, .ptr 1 0), (3, .ptr 2 0)], [(0, .cells 25 [.tr (declsT p.shared), .tr (declsT p.locks), .tr (threadsT p.threads)]), (1, .cells 28 [.tr (ti 0), .tr (ti 0)]), (2, .cells 28 [.tr (ti f.at_), .tr (ti f.rule)])], 3⟩)
    (fun f => f = bif (declsF p 0 64 [] p.shared).rule == 0 then declsF p 1 16 [] p.locks else declsF p 0 64 [] p.shared) ?_ ?_
  · conv => whnf
    refine csplit (fun h1 => ?_) (fun h1 => ?_)
    · conv => whnf
      refine acall.pure _ (k83 p 1 p.locks 16) rfl rfl fun _ => ?_
      conv => whnf
      exact ⟨declsF p 1 16 [] p.locks, [0, 1, 6], [], Sub.mk' rfl ⟨⟨rfl, rfl⟩, ⟨rfl, rfl⟩, ⟨rfl, rfl⟩, trivial⟩ ⟨⟨rfl, .inl rfl, .inl rfl, .inl rfl, trivial⟩, ⟨rfl, .inl rfl, .inl rfl, trivial⟩, ⟨rfl, .inl rfl, .inl rfl, trivial⟩, trivial⟩ rfl rfl, by rw [h1]; rfl⟩
    · conv => whnf
      exact ⟨declsF p 0 64 [] p.shared, [0, 1, 6], [], Sub.mk' rfl ⟨⟨rfl, rfl⟩, ⟨rfl, rfl⟩, ⟨rfl, rfl⟩, trivial⟩ ⟨⟨rfl, .inl rfl, .inl rfl, .inl rfl, trivial⟩, ⟨rfl, .inl rfl, .inl rfl, trivial⟩, ⟨rfl, .inl rfl, .inl rfl, trivial⟩, trivial⟩ rfl rfl, by rw [h1]; rfl⟩
  intro f0 hf0 _
  conv => whnf
  refine LoopL.by (fun x : Nat × Flt => ⟨[(1, .ptr 0 0), (2, .ptr 1 0), (3, .ptr 2 0), (18, .tr (threadsT p.threads)), (19, .tr (ti (p.threads.map Thread.cells).length)), (20, .tr (ti x.1))], [(0, .cells 25 [.tr (declsT p.shared), .tr (declsT p.locks), .tr (threadsT p.threads)]), (1, .cells 28 [.tr (ti 0), .tr (ti 0)]), (2, .cells 28 [.tr (ti x.2.at_), .tr (ti x.2.rule)])], 3⟩)
    (fun x => x.1 ≤ p.threads.length ∧ firstF p = threadsF p x.1 (p.threads.drop x.1) x.2) (fun x => p.threads.length - x.1) (0, f0) [0, 1, 2] []
    (Sub.mk' rfl ⟨⟨rfl, rfl⟩, ⟨rfl, rfl⟩, ⟨rfl, rfl⟩, .inl rfl, .inl rfl, .inl rfl, trivial⟩ ⟨⟨rfl, .inl rfl, .inl rfl, .inl rfl, trivial⟩, ⟨rfl, .inl rfl, .inl rfl, trivial⟩, ⟨rfl, .inl rfl, .inl rfl, trivial⟩, trivial⟩ rfl rfl) ⟨Nat.zero_le _, by unfold firstF; rw [← hf0]; rfl⟩ ?_
  rintro ⟨i, f⟩ ⟨hi, hf⟩ -
  have hi : i ≤ p.threads.length := hi
  have hf : firstF p = threadsF p i (p.threads.drop i) f := hf
  conv => whnf
  refine csplit (fun hlt => ?_) (fun hge => ?_)
  · have hlt : i < p.threads.length := by rw [List.length_map] at hlt; simpa using hlt
    conv => whnf
    refine ⟨rfl, by omega, by rw [List.length_map]; omega, fun row hrow => ?_⟩
    obtain ⟨d, hd, rfl⟩ := map_get hrow
    replace hd : p.threads[i]? = some d := hd
    rw [threadsF_at hd] at hf
    clear hrow
    obtain ⟨name, locals, body, at_⟩ := d
    conv => whnf
    refine csplit (fun h1 => ?_) (fun h1 => ?_)
    · conv => whnf
      exact ⟨⟨Or.inl (congrArg ti (by rw [hf]; simp only [h1] <;> rfl)), Or.inl (congrArg ti (by rw [hf]; simp only [h1] <;> rfl)), trivial⟩, trivial⟩
    conv => whnf
    refine acall.pure _ (k47 name) rfl rfl fun _ => ?_
    conv => whnf
    refine csplit (fun h2 => ?_) (fun h2 => ?_)
    · conv => whnf
      refine acall.pure _ (k84 at_ 1) rfl rfl fun _ => ?_
      conv => whnf
      exact ⟨⟨Or.inl (congrArg ti (by rw [hf]; simp only [h1, h2] <;> rfl)), Or.inl (congrArg ti (by rw [hf]; simp only [h1, h2] <;> rfl)), trivial⟩, trivial⟩
    conv => whnf
    refine acall.pure _ (k17 p name) rfl rfl fun _ => ?_
    conv => whnf
    refine csplit (fun h3 => ?_) (fun h3 => ?_)
    · conv => whnf
      refine acall.pure _ (k84 at_ 2) rfl rfl fun _ => ?_
      conv => whnf
      exact ⟨⟨Or.inl (congrArg ti (by rw [hf]; simp only [h1, h2, h3] <;> rfl)), Or.inl (congrArg ti (by rw [hf]; simp only [h1, h2, h3] <;> rfl)), trivial⟩, trivial⟩
    conv => whnf
    refine acall.pure _ (k19 p name) rfl rfl fun _ => ?_
    conv => whnf
    refine csplit (fun h4 => ?_) (fun h4 => ?_)
    · conv => whnf
      refine acall.pure _ (k84 at_ 2) rfl rfl fun _ => ?_
      conv => whnf
      exact ⟨⟨Or.inl (congrArg ti (by rw [hf]; simp only [h1, h2, h3, h4] <;> rfl)), Or.inl (congrArg ti (by rw [hf]; simp only [h1, h2, h3, h4] <;> rfl)), trivial⟩, trivial⟩
    conv => whnf
    refine acall.pure _ (k79 p name) rfl rfl fun _ => ?_
    conv => whnf
    refine csplit (fun h5 => ?_) (fun h5 => ?_)
    · conv => whnf
      refine acall.pure _ (k84 at_ 2) rfl rfl fun _ => ?_
      conv => whnf
      exact ⟨⟨Or.inl (congrArg ti (by rw [hf]; simp only [h1, h2, h3, h4, h5] <;> rfl)), Or.inl (congrArg ti (by rw [hf]; simp only [h1, h2, h3, h4, h5] <;> rfl)), trivial⟩, trivial⟩
    conv => whnf
    refine csplit (fun h6 => ?_) (fun h6 => ?_)
    · conv => whnf
      refine acall.pure _ (k84 at_ 3) rfl rfl fun _ => ?_
      conv => whnf
      exact ⟨⟨Or.inl (congrArg ti (by rw [hf]; simp only [h1, h2, h3, h4, h5, h6] <;> rfl)), Or.inl (congrArg ti (by rw [hf]; simp only [h1, h2, h3, h4, h5, h6] <;> rfl)), trivial⟩, trivial⟩
    conv => whnf
    refine acall.pure _ (k83 p 2 locals 64) rfl rfl fun _ => ?_
    conv => whnf
    refine csplit (fun h7 => ?_) (fun h7 => ?_)
    · conv => whnf
      refine acall.pure _ ((k92_85 p i (SizeOf.sizeOf body + 1)).2 body 1 (by omega)) rfl rfl fun _ => ?_
      conv => whnf
      exact ⟨(i + 1, stmtsF p i body 1), [0, 1, 2], [], Sub.mk' rfl ⟨⟨rfl, rfl⟩, ⟨rfl, rfl⟩, ⟨rfl, rfl⟩, .inl rfl, .inl rfl, .inl (ti_succ hlt hl), trivial⟩ ⟨⟨rfl, .inl rfl, .inl rfl, .inl rfl, trivial⟩, ⟨rfl, .inl rfl, .inl rfl, trivial⟩, ⟨rfl, .inl rfl, .inl rfl, trivial⟩, trivial⟩ rfl rfl, ⟨hlt, by rw [hf]; simp only [h1, h2, h3, h4, h5, h6, h7] <;> rfl⟩, by show p.threads.length - (i + 1) < p.threads.length - i; omega⟩
    · conv => whnf
      exact ⟨(i + 1, declsF p 2 64 [] locals), [0, 1, 2], [], Sub.mk' rfl ⟨⟨rfl, rfl⟩, ⟨rfl, rfl⟩, ⟨rfl, rfl⟩, .inl rfl, .inl rfl, .inl (ti_succ hlt hl), trivial⟩ ⟨⟨rfl, .inl rfl, .inl rfl, .inl rfl, trivial⟩, ⟨rfl, .inl rfl, .inl rfl, trivial⟩, ⟨rfl, .inl rfl, .inl rfl, trivial⟩, trivial⟩ rfl rfl, ⟨hlt, by rw [hf]; simp only [h1, h2, h3, h4, h5, h6, h7] <;> rfl⟩, by show p.threads.length - (i + 1) < p.threads.length - i; omega⟩
  · have hge : p.threads.length ≤ i := by rw [List.length_map] at hge; simpa using hge
    rw [List.drop_eq_nil_of_le hge] at hf
    have hf : firstF p = f := hf
    conv => whnf
    refine ⟨fun _ => ?_, fun h => absurd rfl h⟩
    conv => whnf
    exact ⟨⟨Or.inl (congrArg ti (by rw [hf])), Or.inl (congrArg ti (by rw [hf])), trivial⟩, trivial⟩

def checkF (p : Prg) : Int × Flt := bif (firstF p).rule != 0 then (50, firstF p) else (0, ⟨0, 0⟩)
theorem k30 (p : Prg) : K 28 [p.av] [] (.ret (.tup [Flt.av (firstF p), .tr (tb ((firstF p).rule != 0))])) [] := by
  refine Ctr.of hT hmix Tryz.func28 rfl (fun _ _ => by kernel_rfl) rfl fun hok => ?_
  clear hok
  conv => whnf
  refine acall.pure _ (k59 p) rfl rfl fun _ => ?_
  conv => whnf
  refine ⟨by kernel_rfl, fun _ => ?_⟩
  conv => whnf
  exact ⟨⟨⟨Or.inl rfl, Or.inl rfl, trivial⟩, Or.inl rfl, trivial⟩, trivial⟩
theorem k11 (p : Prg) : K 15 [p.av] [] (.ret (.tup [.tr (ti (checkF p).1), Flt.av (checkF p).2])) [] := by
  refine Ctr.of hT hmix Tryz.func15 rfl (fun _ _ => by kernel_rfl) rfl fun hok => ?_
  clear hok
  conv => whnf
  refine acall.pure _ (k30 p) rfl rfl fun _ => ?_
  conv => whnf
  refine csplit (fun h1 => ?_) (fun h1 => ?_)
  · conv => whnf
    refine ⟨by kernel_rfl, fun _ => ?_⟩
    conv => whnf
    have hE : checkF p = (50, firstF p) := by unfold checkF; rw [h1]; rfl
    rw [hE]
    exact ⟨⟨Or.inl rfl, ⟨Or.inl rfl, Or.inl rfl, trivial⟩, trivial⟩, trivial⟩
  · conv => whnf
    have hE : checkF p = (0, ⟨0, 0⟩) := by unfold checkF; rw [h1]; rfl
    rw [hE]
    exact ⟨⟨Or.inl rfl, ⟨Or.inl rfl, Or.inl rfl, trivial⟩, trivial⟩, trivial⟩
end Go.Proofs.YtbpcbhmdjphodaaGreat.am

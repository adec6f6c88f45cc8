/- The program that lives() asks of: what its making leaves, and how it lies. Pure contracts, of the model's calls; the program that lives() asks of, as a tree. lives(): true, of the model's calls. Plain: the program's Check answers as the reference's does. No program of the seat. Plain: the two walks through a thread, and the whole answers. No program of the seat. What the rows read as a program is a tree. Contract: the law CheckFaults: true. -/
import Derived.Test.YtbpcbhmdjphodaaGreatZ4
import Derived.Test.YtbpcbhmdjphodaaGreatY2
import Derived.WalkKit
import Derived.Lib.Hide
import Derived.OwnWalk
import Derived.Great.BuildSlice
import Derived.Laws.Rows
import Derived.Test.YtbpcbhmdjphodaaGreatY3
set_option linter.all false

namespace Go.Proofs.YtbpcbhmdjphodaaGreat.am
open Go Go.Proofs Go.RowKit Go.Lib

def kx : ByteArray := ⟨#[120]⟩
def ky : ByteArray := ⟨#[121]⟩
def ka : ByteArray := ⟨#[97]⟩
def kExpr : Obj := .cells #[.int .u8 2, .int .u8 0, .int .i64 0, .string ⟨#[121]⟩, .slice none 0 0, .int .i64 0] 62
def kDecls : Obj := .cells #[.string ⟨#[120]⟩, .int .i64 0, .int .i64 0, .string ⟨#[121]⟩, .int .i64 0, .int .i64 0] 64
def kStmt (B : Nat) (n : ByteArray) : Obj := .cells #[.int .u8 1, .string n, .string ⟨#[]⟩, .slice (some ⟨B + 1, 0, none⟩) 1 1, .slice none 0 0, .slice none 0 0, .int .i64 0] 50
def kThread (B : Nat) : Obj := .cells #[.string ⟨#[97]⟩, .slice none 0 0, .slice (some ⟨B + 3, 0, none⟩) 1 1, .int .i64 0] 52
def kCells (B : Nat) : Array Value := #[.slice (some ⟨B + 2, 0, none⟩) 2 2, .slice none 0 0, .slice (some ⟨B + 4, 0, none⟩) 1 1]
/-- the blocks of the program, from B on; the statement's name -/
structure KAt (W : World) (B : Nat) (n : ByteArray) : Prop where
  size : B + 5 ≤ W.heap.size
  e : W.heap[B + 1]? = some kExpr
  d : W.heap[B + 2]? = some kDecls
  s : W.heap[B + 3]? = some (kStmt B n)
  t : W.heap[B + 4]? = some (kThread B)
theorem KAt.below {W W' : World} {B : Nat} {n : ByteArray} (h : KAt W B n) (hb : Below W.heap.size W W') : KAt W' B n :=
  ⟨Nat.le_trans h.size hb.size, (hb.block _ (by have := h.size; omega)).trans h.e, (hb.block _ (by have := h.size; omega)).trans h.d, (hb.block _ (by have := h.size; omega)).trans h.s, (hb.block _ (by have := h.size; omega)).trans h.t⟩
theorem known_any (w : World) :
    Calls Tryz.prog 10 #[] w fun e w' => e = .returned (.agg (kCells w.heap.size)) ∧ KAt w' w.heap.size ⟨#[120]⟩ ∧ Below w.heap.size w w' := by
  go_enter Tryz.func10, Tryz.ntmps10
  go_wp2
  have hg : ∀ (a : World) (o : Obj) (k : Nat), k < a.heap.size → (a.alloc o).heap[k]? = a.heap[k]? := fun a o k hk => hp_old a o k hk
  have hl : ∀ (a : World) (o : Obj) (k : Nat), k = a.heap.size → (a.alloc o).heap[k]? = some o := fun a o k hk => by subst hk; show (a.heap.push o)[a.heap.size]? = some o; simp
  refine ⟨rfl, .agg (kCells w.heap.size), ?_, rfl, ⟨by simp, ?_, ?_, ?_, ?_⟩, ?_⟩
  · refine results_cell_row rfl _ _ w.heap.size 25 (kCells w.heap.size) (0, 0) _ rfl ?_ Tryz.underlying25 rfl (by kernel_rfl)
    rw [hg _ _ _ (by simp; omega), hg _ _ _ (by simp; omega), hg _ _ _ (by simp; omega), hg _ _ _ (by simp), hl _ _ _ rfl]
    rfl
  · rw [hg _ _ _ (by simp), hg _ _ _ (by simp), hg _ _ _ (by simp), hl _ _ _ (by simp)]
    rfl
  · rw [hg _ _ _ (by simp), hg _ _ _ (by simp), hl _ _ _ (by simp)]
    rfl
  · rw [hg _ _ _ (by simp), hl _ _ _ (by simp)]
    rfl
  · rw [hl _ _ _ (by simp)]
    rfl
  · exact (((((Below.refl _ _).alloc (Nat.le_refl _) _).alloc (by simp) _).alloc (by simp; omega) _).alloc (by simp; omega) _).alloc (by simp; omega) _
end Go.Proofs.YtbpcbhmdjphodaaGreat.am

namespace Go.Proofs.YtbpcbhmdjphodaaGreat.am
open Go Go.Proofs Go.RowKit
/-- a ghost of no handles -/
def gh0 : Gh := ⟨fun _ => .un, fun _ => False, [], fun _ _ => False⟩
theorem gh0_ok {w : World} {b : Nat} (h : b < w.heap.size) : okB gh0 w b := ⟨h, id, fun _ ⟨_, e, _⟩ => by cases e⟩
theorem gh0_mst (w : World) : MSt gh0 w (ofL []) := ⟨fun h b e => (by simp [ofL] at e), fun h h' b ⟨_, e, _⟩ => (by cases e), fun h b ⟨_, e, _⟩ => (by cases e), fun b (h : False) => h.elim, fun h b ⟨_, e, _⟩ => (by cases e)⟩
theorem gh0_below {g' : Gh} {w w' : World} (h : Grow gh0 w g' w') : Below w.heap.size w w' := ⟨h.os, h.tape, h.output, h.size, fun k hk => h.block k (gh0_ok hk)⟩
theorem K.calls {f : Nat} {args : List AV} {a : AV} (h : K f args [] (.ret a) []) (w : World) (vs : Array Value) (hsz : vs.size = args.length) (hv : ∀ (i : Nat) (v : Value) (a : AV), vs[i]? = some v → args[i]? = some a → Rep gh0 w v a) :
    Calls Tryz.prog f vs w fun e w' => Below w.heap.size w w' ∧ ∃ v, e = .returned v ∧ ∃ g', Rep g' w' v a := by
  refine (h.run gh0 w vs (fun _ _ => rfl) (gh0_mst w) hsz hv).mono ?_
  rintro e w' ⟨g', hG, _, _, hR⟩
  cases e with
  | returned v => exact ⟨gh0_below hG, v, rfl, g', hR⟩
  | _ => exact hR.elim
/-- and back: a function of no arguments that leaves all as it was -/
theorem K.of_calls {f : Nat} {b : Bool} (hc : Callable Tryz.prog f) (h : ∀ w, Calls Tryz.prog f #[] w fun e w' => e = .returned (.bool b) ∧ Below w.heap.size w w') : K f [] [] (.ret (.tr (tb b))) [] := by
  refine ⟨hc, fun g w vs hun hm hsz hvs => ?_⟩
  obtain rfl : vs = #[] := by cases vs; simp at hsz; rw [hsz]
  refine (h w).mono ?_
  rintro e w' ⟨rfl, hb⟩
  have hG : Grow g w g w' := ⟨hb.os, hb.tape, hb.output, hb.size, fun b hk => hb.block b hk.1, fun b hk => hb.block b (hm.xlt b hk), rfl, fun _ h => h, fun _ _ h => .inl h, fun k b e => .inl ⟨k, e⟩⟩
  refine ⟨g, hG, ⟨fun h b e => (by simp [ofLO] at e), hm.inj, fun k b e => Nat.lt_of_lt_of_le (hm.lt k b e) hb.size, fun b hk => Nat.lt_of_lt_of_le (hm.xlt b hk) hb.size, hm.xl⟩, fun k _ l hl => ?_, .tr (.v trivial)⟩
  rw [hun k (Nat.zero_le _)] at hl
  cases hl

def kP (n : ByteArray) : Prg := ⟨[⟨kx, 0, 0⟩, ⟨ky, 0, 0⟩], [], [⟨ka, [], [.mk 1 n ⟨#[]⟩ [.mk 2 0 0 ky [] 0] [] [] 0], 0⟩]⟩
theorem rT_int {ok : Nat → Prop} {w : World} {k : IntKind} (n : Int) (h : goodB (.int k n) = true) : RepT ok w (.int k n) (.v (.int k n)) := .v (good_of h)
theorem rT_str {ok : Nat → Prop} {w : World} (s : ByteArray) (h : Nat.ble s.size 9223372036854775807 = true) : RepT ok w (.string s) (.v (.string s)) := .v (good_of h)
theorem rT_nil {ok : Nat → Prop} {w : World} (n B : Nat) : RepT ok w (.slice none 0 0) (.lst n B []) := RepT.nil n B (.v ⟨rfl, rfl, rfl⟩)
/-- a slice of one block, from its beginning -/
theorem rT_lst {ok : Nat → Prop} {w : World} {b len cap n B : Nat} {rows : List (List Tr)} {cs : Array Value} {t : TypeId} {fr : Nat × Nat} (hb : w.heap[b]? = some (.cells cs t fr)) (ho : ok b) (h1 : len = rows.length) (h2 : len ≤ cap) (h3 : cap ≤ 9223372036854775807) (h4 : len * B ≤ 140737488351232)
    (h5 : ∀ row ∈ rows, row.length = n) (h6 : cs.size = rows.length * n) (h7 : ∀ (i : Nat) (c : Value) (t : Tr), cs[i]? = some c → rows.flatten[i]? = some t → RepT ok w c t) : RepT ok w (.slice (some ⟨b, 0, none⟩) len cap) (.lst n B rows) := by
  have hfl : ∀ (rows : List (List Tr)) (i : Nat) (row : List Tr) (j : Nat), (∀ r ∈ rows, r.length = n) → rows[i]? = some row → j < n → rows.flatten[i * n + j]? = row[j]? := by
    intro rows
    induction rows with
    | nil => intro i row j _ h; simp at h
    | cons r rows ih =>
      intro i row j hr h hj
      have h0 := hr r (by simp)
      cases i with
      | zero => simp at h; subst h; rw [List.flatten_cons, Nat.zero_mul, Nat.zero_add, List.getElem?_append_left (by omega)]
      | succ i =>
        rw [List.flatten_cons, List.getElem?_append_right (by rw [h0, Nat.succ_mul]; omega), h0, show (i + 1) * n + j - n = i * n + j by rw [Nat.succ_mul]; omega]
        exact ih i row j (fun r hh => hr r (by simp [hh])) (by simpa using h) hj
  refine .lst (fun i j => cs.getD (i * n + j) undef) h1 h2 h3 h4 (fun h => by cases h) (fun i row hi => ?_) (fun i row j t hi hj => ?_)
  · have hl := h5 row (List.mem_of_getElem? hi)
    refine ⟨hl, b, 0, rfl, ho, fun j hj => ?_⟩
    have hlt := (List.getElem?_eq_some_iff.1 hi).1
    have hm : i * n + n ≤ rows.length * n := by have := Nat.mul_le_mul_right n (show i + 1 ≤ rows.length by omega); rw [Nat.succ_mul] at this; omega
    rw [heap_cell hb, Nat.zero_add]
    simp [Array.getD, show i * n + j < cs.size by omega]
  · have hl := h5 row (List.mem_of_getElem? hi)
    have hjn : j < n := by rw [← hl]; exact (List.getElem?_eq_some_iff.1 hj).1
    have hlt := (List.getElem?_eq_some_iff.1 hi).1
    have hm : i * n + n ≤ rows.length * n := by have := Nat.mul_le_mul_right n (show i + 1 ≤ rows.length by omega); rw [Nat.succ_mul] at this; omega
    refine h7 (i * n + j) _ t ?_ ((hfl rows i row j h5 hi hjn).trans hj)
    simp [Array.getD, show i * n + j < cs.size by omega]
inductive RTs (ok : Nat → Prop) (w : World) : List Value → List Tr → Prop
  | nil : RTs ok w [] []
  | cons {c : Value} {t : Tr} {l : List Value} {r : List Tr} : RepT ok w c t → RTs ok w l r → RTs ok w (c :: l) (t :: r)
theorem arr_get {cs : Array Value} {i : Nat} {c : Value} (h : cs[i]? = some c) : cs.toList[i]? = some c := by rw [Array.getElem?_toList]; exact h
theorem cellsT {ok : Nat → Prop} {w : World} : ∀ {l : List Value} {r : List Tr}, RTs ok w l r → ∀ (i : Nat) (c : Value) (t : Tr), l[i]? = some c → r[i]? = some t → RepT ok w c t
  | _, _, .nil, i, c, t, h, _ => by simp at h
  | _, _, .cons h1 h2, 0, c, t, e1, e2 => by simp at e1 e2; subst e1; subst e2; exact h1
  | _, _, .cons h1 h2, i + 1, c, t, e1, e2 => cellsT h2 i c t (by simpa using e1) (by simpa using e2)
theorem kP_rep {W : World} {B : Nat} {n : ByteArray} (h : KAt W B n) (hn : Nat.ble n.size 9223372036854775807 = true) : Rep gh0 W (.agg (kCells B)) (kP n).av := by
  have ho : ∀ k, k < B + 5 → okB gh0 W k := fun k hk => gh0_ok (by have := h.size; omega)
  have hE : RepT (okB gh0 W) W (.slice (some ⟨B + 1, 0, none⟩) 1 1) (exprsT [.mk 2 0 0 ky [] 0]) :=
    rT_lst h.e (ho _ (by omega)) rfl (Nat.le_refl _) (by decide) (by decide) (by simp [Expr.rows, Expr.cells]) rfl (fun i c t e1 e2 => cellsT (l := [.int .u8 2, .int .u8 0, .int .i64 0, .string ky, .slice none 0 0, .int .i64 0]) (.cons (rT_int _ rfl) (.cons (rT_int _ rfl) (.cons (rT_int _ rfl) (.cons (rT_str _ rfl) (.cons (rT_nil _ _) (.cons (rT_int _ rfl) .nil)))))) i c t (arr_get e1) e2)
  have hS : RepT (okB gh0 W) W (.slice (some ⟨B + 3, 0, none⟩) 1 1) (stmtsT [.mk 1 n ⟨#[]⟩ [.mk 2 0 0 ky [] 0] [] [] 0]) :=
    rT_lst h.s (ho _ (by omega)) rfl (Nat.le_refl _) (by decide) (by decide) (by simp [Stmt.rows, Stmt.cells]) rfl (fun i c t e1 e2 => cellsT (l := [.int .u8 1, .string n, .string ⟨#[]⟩, .slice (some ⟨B + 1, 0, none⟩) 1 1, .slice none 0 0, .slice none 0 0, .int .i64 0]) (.cons (rT_int _ rfl) (.cons (rT_str _ hn) (.cons (rT_str _ rfl) (.cons hE (.cons (rT_nil _ _) (.cons (rT_nil _ _) (.cons (rT_int _ rfl) .nil))))))) i c t (arr_get e1) e2)
  have hT : RepT (okB gh0 W) W (.slice (some ⟨B + 4, 0, none⟩) 1 1) (threadsT (kP n).threads) :=
    rT_lst h.t (ho _ (by omega)) rfl (Nat.le_refl _) (by decide) (by decide) (by simp [Thread.cells, kP]) rfl (fun i c t e1 e2 => cellsT (l := [.string ka, .slice none 0 0, .slice (some ⟨B + 3, 0, none⟩) 1 1, .int .i64 0]) (.cons (rT_str _ rfl) (.cons (rT_nil _ _) (.cons hS (.cons (rT_int _ rfl) .nil)))) i c t (arr_get e1) e2)
  have hD : RepT (okB gh0 W) W (.slice (some ⟨B + 2, 0, none⟩) 2 2) (declsT (kP n).shared) :=
    rT_lst h.d (ho _ (by omega)) rfl (Nat.le_refl _) (by decide) (by decide) (by simp [Decl.cells, kP]) rfl (fun i c t e1 e2 => cellsT (l := [.string kx, .int .i64 0, .int .i64 0, .string ky, .int .i64 0, .int .i64 0]) (.cons (rT_str _ rfl) (.cons (rT_int _ rfl) (.cons (rT_int _ rfl) (.cons (rT_str _ rfl) (.cons (rT_int _ rfl) (.cons (rT_int _ rfl) .nil)))))) i c t (arr_get e1) e2)
  refine .agg rfl (fun a ha => ?_) (fun i c a e1 e2 => ?_)
  · simp only [List.mem_cons, List.not_mem_nil, or_false] at ha
    rcases ha with rfl | rfl | rfl <;> rfl
  · have key := cellsT (l := (kCells B).toList) (.cons hD (.cons (rT_nil 3 32) (.cons hT .nil))) i c
    match i, e2 with
    | 0, e2 => cases e2; exact .tr (key _ (arr_get e1) rfl)
    | 1, e2 => cases e2; exact .tr (key _ (arr_get e1) rfl)
    | 2, e2 => cases e2; exact .tr (key _ (arr_get e1) rfl)
end Go.Proofs.YtbpcbhmdjphodaaGreat.am

namespace Go.Proofs.YtbpcbhmdjphodaaGreat.am
open Go Go.Proofs Go.RowKit Go.Lib

theorem kP_args {W : World} {B : Nat} {n : ByteArray} (h : KAt W B n) (hn : Nat.ble n.size 9223372036854775807 = true) : ∀ (i : Nat) (v : Value) (a : AV), (#[.agg (kCells B)] : Array Value)[i]? = some v → [(kP n).av][i]? = some a → Rep gh0 W v a := by
  intro i v a h1 h2
  match i with
  | 0 => cases h2; have h1 := arr_get h1; cases h1; exact kP_rep h hn
  | i + 1 => simp at h2
theorem tup_inv {g : Gh} {w : World} {v : Value} {a b : AV} (h : Rep g w v (.tup [a, b])) : ∃ x y, v = .tuple #[x, y] ∧ Rep g w x a ∧ Rep g w y b := by
  cases h with
  | tup h1 h2 =>
    rename_i cs
    obtain ⟨l⟩ := cs
    match l, h1 with
    | [x, y], _ => exact ⟨x, y, rfl, h2 0 x a rfl rfl, h2 1 y b rfl rfl⟩
theorem flt_inv {g : Gh} {w : World} {v : Value} {a b : Int} (h : Rep g w v (Flt.av ⟨a, b⟩)) : v = .agg #[.int .i64 a, .int .i64 b] := by
  have h : Rep g w v (.agg [.tr (ti a), .tr (ti b)]) := h
  cases h with
  | agg h1 h2 h3 =>
    rename_i cs
    obtain ⟨l⟩ := cs
    match l, h1 with
    | [x, y], _ =>
      have e1 := (val_inv (h3 0 x _ rfl rfl)).1
      have e2 := (val_inv (h3 1 y _ rfl rfl)).1
      rw [e1, e2]
theorem check_any {W : World} {B : Nat} {n : ByteArray} {a b c : Int} (h : KAt W B n) (hn : Nat.ble n.size 9223372036854775807 = true) (hv : checkW (kP n) = (a, ⟨b, c⟩)) :
    Calls Tryz.prog 11 #[.agg (kCells B)] W fun e W' => e = .returned (.tuple #[.int .i64 a, .agg #[.int .i64 b, .int .i64 c]]) ∧ Below W.heap.size W W' := by
  refine (K.calls (k10 (kP n)) W _ rfl (kP_args h hn)).mono ?_
  rintro e W' ⟨hb, v, rfl, g', hR⟩
  rw [hv] at hR
  obtain ⟨x, y, rfl, h1, h2⟩ := tup_inv hR
  rw [(val_inv h1).1, flt_inv h2]
  exact ⟨rfl, hb⟩
theorem shared_any {W : World} {B : Nat} {n : ByteArray} (h : KAt W B n) (hn : Nat.ble n.size 9223372036854775807 = true) :
    Calls Tryz.prog 13 #[.agg (kCells B), .string ⟨#[121]⟩] W fun e W' => e = .returned (.int .i64 1) ∧ Below W.heap.size W W' := by
  refine (K.calls (k16 (kP n) ⟨#[121]⟩) W _ rfl ?_).mono ?_
  · intro i v a h1 h2
    match i with
    | 0 => exact kP_args h hn 0 v a h1 h2
    | 1 => cases h2; have h1 := arr_get h1; cases h1; exact .tr (rT_str _ rfl)
    | i + 2 => simp at h2
  · rintro e W' ⟨hb, v, rfl, g', hR⟩
    rw [(val_inv hR).1]
    exact ⟨congrArg (fun z => Ending.returned (.int .i64 z)) (show findI [⟨kx, 0, 0⟩, ⟨ky, 0, 0⟩] ⟨#[121]⟩ 0 = 1 by kernel_rfl), hb⟩
theorem one_inv {g : Gh} {w : World} {v : Value} {n : Int} (h : RepT (okB g w) w v (intsT [n])) : ∃ b o c, v = .slice (some ⟨b, o, none⟩) 1 c ∧ 1 ≤ c ∧ b < w.heap.size ∧ w.cell? ⟨b, o, none⟩ = some (.int .i64 n) := by
  obtain ⟨ao, cap, f, rfl, q1, q2, q3, q4, q5, q6⟩ := lst_inv h
  obtain ⟨q7, b, o, rfl, ho, hc⟩ := q5 0 [ti n] rfl
  have := hc 0 (by simp)
  have h2 := q6 0 [ti n] 0 (ti n) rfl rfl
  generalize f 0 0 = x at this h2
  cases h2 with
  | v hg => exact ⟨b, o, cap, rfl, by simpa using q1, ho.1, by simpa using this⟩
/-- one cell of a list -/
structure RAt (W : World) (b o : Nat) (x : Int) : Prop where
  lt : b < W.heap.size
  c : W.cell? ⟨b, o, none⟩ = some (.int .i64 x)
theorem RAt.below {W W' : World} {b o : Nat} {x : Int} (h : RAt W b o x) (hb : Below W.heap.size W W') : RAt W' b o x := ⟨Nat.lt_of_lt_of_le h.lt hb.size, (cell_same (hb.block _ h.lt)).trans h.c⟩
theorem touch_any {W : World} {B : Nat} (h : KAt W B kx) :
    Calls Tryz.prog 12 #[.agg (kCells B), .int .i64 0] W fun e W' => Below W.heap.size W W' ∧ ∃ b1 o1 c1 b2 o2 c2, e = .returned (.tuple #[.slice (some ⟨b1, o1, none⟩) 1 c1, .slice (some ⟨b2, o2, none⟩) 1 c2]) ∧
      RAt W' b1 o1 1 ∧ RAt W' b2 o2 0 := by
  refine (K.calls (k14 (kP kx) 0) W _ rfl ?_).mono ?_
  · intro i v a h1 h2
    match i with
    | 0 => exact kP_args h rfl 0 v a h1 h2
    | 1 => cases h2; have h1 := arr_get h1; cases h1; exact .tr (rT_int _ rfl)
    | i + 2 => simp at h2
  · rintro e W' ⟨hb, v, rfl, g', hR⟩
    rw [show touchW (kP kx) 0 = ([1], [0]) by kernel_rfl] at hR
    obtain ⟨x, y, rfl, h1, h2⟩ := tup_inv hR
    obtain ⟨b1, o1, c1, rfl, _, l1, e1⟩ := one_inv h1.tr_inv
    obtain ⟨b2, o2, c2, rfl, _, l2, e2⟩ := one_inv h2.tr_inv
    exact ⟨hb, b1, o1, c1, b2, o2, c2, rfl, ⟨l1, e1⟩, ⟨l2, e2⟩⟩
theorem below_cell {W W' : World} (hb : Below W.heap.size W W') {b o : Nat} {v : Value} (hl : b < W.heap.size) (h : W.cell? ⟨b, o, none⟩ = some v) : W'.cell? ⟨b, o, none⟩ = some v := (cell_same (hb.block b hl)).trans h

theorem old_cell (w : World) (o : Obj) {b k : Nat} (h : b < w.heap.size) : (w.alloc o).cell? ⟨b, k, none⟩ = w.cell? ⟨b, k, none⟩ := cell_same (hp_old w o b h)
theorem new_cell (w : World) (cs : Array Value) (t : TypeId) (k : Nat) : (w.alloc (.cells cs t)).cell? ⟨w.heap.size, k, none⟩ = cs[k]? := by
  have : (w.alloc (.cells cs t)).heap[w.heap.size]? = some (.cells cs t (0, 0)) := by show (w.heap.push _)[w.heap.size]? = _; simp
  exact heap_cell this
/-- the three cells of the program, at block b -/
structure PAt (W : World) (b B : Nat) : Prop where
  lt : b < W.heap.size
  c : ∀ k, W.cell? ⟨b, k, none⟩ = (kCells B)[k]?
theorem PAt.below {W W' : World} {b B : Nat} (h : PAt W b B) (hb : Below W.heap.size W W') : PAt W' b B := ⟨Nat.lt_of_lt_of_le h.lt hb.size, fun k => (cell_same (hb.block _ h.lt)).trans (h.c k)⟩
theorem PAt.alloc {W : World} {b B : Nat} (h : PAt W b B) (o : Obj) : PAt (W.alloc o) b B := h.below ((Below.refl _ _).alloc (Nat.le_refl _) _)
theorem KAt.alloc {W : World} {B : Nat} {n : ByteArray} (h : KAt W B n) (o : Obj) : KAt (W.alloc o) B n := h.below ((Below.refl _ _).alloc (Nat.le_refl _) _)
/-- two cells of a fault -/
structure FAt (W : World) (b : Nat) (x y : Int) : Prop where
  lt : b < W.heap.size
  c0 : W.cell? ⟨b, 0, none⟩ = some (.int .i64 x)
  c1 : W.cell? ⟨b, 1, none⟩ = some (.int .i64 y)
theorem FAt.below {W W' : World} {b : Nat} {x y : Int} (h : FAt W b x y) (hb : Below W.heap.size W W') : FAt W' b x y := ⟨Nat.lt_of_lt_of_le h.lt hb.size, (cell_same (hb.block _ h.lt)).trans h.c0, (cell_same (hb.block _ h.lt)).trans h.c1⟩
theorem FAt.alloc {W : World} {b : Nat} {x y : Int} (h : FAt W b x y) (o : Obj) : FAt (W.alloc o) b x y := h.below ((Below.refl _ _).alloc (Nat.le_refl _) _)

theorem KAt.tc {W : World} {B : Nat} {n : ByteArray} (h : KAt W B n) : W.cell? ⟨B + 4, 2, none⟩ = some (.slice (some ⟨B + 3, 0, none⟩) 1 1) := heap_cell h.t
theorem KAt.sc {W : World} {B : Nat} {n : ByteArray} (h : KAt W B n) : W.cell? ⟨B + 3, 1, none⟩ = some (.string n) := heap_cell h.s
theorem KAt.fz {W : World} {B : Nat} {n : ByteArray} (h : KAt W B n) : W.frozen? ⟨B + 3, 1, none⟩ = false := by simp [World.frozen?, h.s, kStmt]
abbrev zS : Value := .string ⟨#[122]⟩
theorem put_old {W : World} {B b : Nat} (h : b ≠ B + 3) : (W.setCell ⟨B + 3, 1, none⟩ zS).heap[b]? = W.heap[b]? := by
  simp [World.setCell, Array.getElem?_modify, Ne.symm h]
theorem put_size {W : World} {a : Addr} {v : Value} : (W.setCell a v).heap.size = W.heap.size := by simp
theorem KAt.put {W : World} {B : Nat} {n : ByteArray} (h : KAt W B n) : KAt (W.setCell ⟨B + 3, 1, none⟩ zS) B ⟨#[122]⟩ := by
  refine ⟨by rw [put_size]; exact h.size, (put_old (by omega)).trans h.e, (put_old (by omega)).trans h.d, ?_, (put_old (by omega)).trans h.t⟩
  simp [World.setCell, Array.getElem?_modify, h.s, kStmt]
theorem PAt.put {W : World} {b B : Nat} (h : PAt W b B) (hb : b ≠ B + 3) : PAt (W.setCell ⟨B + 3, 1, none⟩ zS) b B := ⟨by rw [put_size]; exact h.lt, fun k => (cell_same (put_old hb)).trans (h.c k)⟩
theorem FAt.put {W : World} {b B : Nat} {x y : Int} (h : FAt W b x y) (hb : b ≠ B + 3) : FAt (W.setCell ⟨B + 3, 1, none⟩ zS) b x y := ⟨by rw [put_size]; exact h.lt, (cell_same (put_old hb)).trans h.c0, (cell_same (put_old hb)).trans h.c1⟩
theorem RAt.put {W : World} {b o B : Nat} {x : Int} {n : ByteArray} (h : RAt W b o x) (hk : KAt W B n) : RAt (W.setCell ⟨B + 3, 1, none⟩ zS) b o x := by
  refine ⟨by rw [put_size]; exact h.lt, ?_⟩
  by_cases hb : b = B + 3
  · subst hb
    have h1 := h.c
    have ho : o ≠ 1 := by
      rintro rfl
      rw [hk.sc] at h1; cases h1
    rw [heap_cell hk.s] at h1
    have hs : (W.setCell ⟨B + 3, 1, none⟩ zS).heap[B + 3]? = some (.cells ((#[.int .u8 1, .string n, .string ⟨#[]⟩, .slice (some ⟨B + 1, 0, none⟩) 1 1, .slice none 0 0, .slice none 0 0, .int .i64 0] : Array Value).setIfInBounds 1 zS) 50 (0, 0)) := by
      simp [World.setCell, Array.getElem?_modify, hk.s, kStmt]
    rw [heap_cell hs, Array.getElem?_setIfInBounds_ne (Ne.symm ho)]
    exact h1
  · exact (cell_same (put_old hb)).trans h.c

set_option maxHeartbeats 2000000 in
theorem lives_any (w : World) : Calls Tryz.prog 5 #[] w fun e w' => e = .returned (.bool true) ∧ Below w.heap.size w w' := by
  go_enter Tryz.func5, Tryz.ntmps5
  go_wp2_with (first
    | (go_at_call 10; refine (known_any _).mono ?_; rintro e w1 ⟨rfl, hk1, hb1⟩; simp only [kCells])
    | (go_at_call 11; refine (check_any (W := _) (B := w.heap.size) (n := ⟨#[122]⟩) (a := 50) (b := 0) (c := 5) (hk3.put) rfl (by kernel_rfl)).mono ?_; rintro e w5 ⟨rfl, hb5⟩;
       have hp5 := (hp3.put n1).below hb5; have hf5 := (hf3.put n2).below hb5; have hk5 := hk3.put.below hb5; have hr5 := (hr3.put hk3).below hb5; have hv5 := (hv3.put hk3).below hb5;
       have p50 := hp5.c 0; have p51 := hp5.c 1; have p52 := hp5.c 2; have hs5 := hp5.lt; have f50 := hf5.c0; have f51 := hf5.c1; have hl5 := hf5.lt; have r5 := hr5.c; have v5 := hv5.c; have rl5 := hr5.lt; have vl5 := hv5.lt; simp only [kCells, List.getElem?_toArray, List.getElem?_cons_zero, List.getElem?_cons_succ] at p50 p51 p52)
    | (go_at_call 11; refine (check_any (W := _) (B := w.heap.size) (a := 0) (b := 0) (c := 0) (hk1.alloc _) rfl (by kernel_rfl)).mono ?_; rintro e w2 ⟨rfl, hb2⟩;
       have hp2 := PAt.below (b := w1.heap.size) (B := w.heap.size) ⟨by simp, new_cell w1 _ _⟩ hb2;
       have hk2 := (hk1.alloc _).below hb2;
       have p20 := hp2.c 0; have p21 := hp2.c 1; have p22 := hp2.c 2; have hs2 := hp2.lt; simp only [kCells, List.getElem?_toArray, List.getElem?_cons_zero, List.getElem?_cons_succ] at p20 p21 p22)
    | (go_at_call 12; refine (touch_any (hk2.alloc _)).mono ?_; rintro e w3 ⟨hb3, b1, o1, c1, b2, o2, c2, rfl, hr3, hv3⟩;
       have hp3 := (hp2.alloc _).below hb3; have hk3 := (hk2.alloc _).below hb3; have hf3 := FAt.below (b := w2.heap.size) (x := 0) (y := 0) ⟨by simp, new_cell w2 _ _ 0, new_cell w2 _ _ 1⟩ hb3;
       have p30 := hp3.c 0; have p31 := hp3.c 1; have p32 := hp3.c 2; have hs3 := hp3.lt; have t3 := hk3.tc; have s3 := hk3.sc; have z3 := hk3.fz; have kl3 := hk3.size; have kl1 := hk1.size; have n1 : ¬ w1.heap.size = w.heap.size + 3 := (by omega); have n2 : ¬ w2.heap.size = w.heap.size + 3 := (by omega); have n3 : ¬ w.heap.size + 3 = w1.heap.size := (by omega); have n4 : ¬ w.heap.size + 3 = w2.heap.size := (by omega); simp only [kCells, List.getElem?_toArray, List.getElem?_cons_zero, List.getElem?_cons_succ] at p30 p31 p32)
    | (go_at_call 13; refine (shared_any (hk5.alloc _) rfl).mono ?_; rintro e w6 ⟨rfl, hb6⟩)
    )
  go_ret
  refine ⟨rfl, ?_⟩
  have l1 := hb1.size
  have q1 : Below w.heap.size w w2 := (hb1.alloc l1 _).trans (hb2.mono (by simp; omega))
  have l2 := q1.size
  have q2 : Below w.heap.size w w3 := (q1.alloc l2 _).trans (hb3.mono (by simp; omega))
  have l3 := q2.size
  have q3 : Below w.heap.size w w5 := (q2.setCell (by simp) _).trans (hb5.mono (by simp; omega))
  have l5 := q3.size
  exact (q3.alloc l5 _).trans (hb6.mono (by simp; omega))
theorem k_lives : K 5 [] [] (.ret (.tr (tb true))) [] := K.of_calls (fun _ _ => by kernel_rfl) lives_any
end Go.Proofs.YtbpcbhmdjphodaaGreat.am

namespace Go.Proofs.YtbpcbhmdjphodaaGreat.am
open Go

/-! names -/
def hasD (l : List Decl) (n : ByteArray) : Bool := l.any fun d => seq d.name n
def hasT (l : List Thread) (n : ByteArray) : Bool := l.any fun d => seq d.name n
theorem seq_comm (a b : ByteArray) : seq a b = seq b a := by
  unfold seq
  rw [Bool.eq_iff_iff]
  simp only [beq_iff_eq]
  exact ⟨Eq.symm, Eq.symm⟩
theorem findI_has : ∀ (l : List Decl) (n : ByteArray) (k : Nat), decide (findI l n k ≥ 0) = hasD l n
  | [], n, k => rfl
  | d :: l, n, k => by
    unfold findI hasD
    rw [List.any_cons]
    by_cases h : seq d.name n = true
    · rw [if_pos h, h, Bool.true_or]
      exact decide_eq_true (Int.natCast_nonneg k)
    · rw [if_neg h]
      have := findI_has l n (k + 1)
      rw [this]
      have h : seq d.name n = false := by simpa using h
      rw [h, Bool.false_or]
      rfl
theorem threadI_has : ∀ (l : List Thread) (n : ByteArray) (k : Nat), decide (threadI l n k ≥ 0) = hasT l n
  | [], n, k => rfl
  | d :: l, n, k => by
    unfold threadI hasT
    rw [List.any_cons]
    by_cases h : seq d.name n = true
    · rw [if_pos h, h, Bool.true_or]
      exact decide_eq_true (Int.natCast_nonneg k)
    · rw [if_neg h]
      have := threadI_has l n (k + 1)
      rw [this]
      have h : seq d.name n = false := by simpa using h
      rw [h, Bool.false_or]
      rfl
/-- the first of that name is ahead of place k + i just if one of the first i has it -/
theorem threadI_lt : ∀ (l : List Thread) (n : ByteArray) (k i : Nat) (t : Thread), l[i]? = some t → seq t.name n = true → decide (threadI l n k < (k + i : Nat)) = hasT (l.take i) n
  | [], n, k, i, t, h, _ => by simp at h
  | d :: l, n, k, 0, t, h, hn => by
    simp at h; subst h
    unfold threadI
    rw [if_pos hn]
    simp [hasT]
  | d :: l, n, k, i + 1, t, h, hn => by
    unfold threadI
    rw [List.take_succ_cons]
    unfold hasT
    rw [List.any_cons]
    by_cases hd : seq d.name n = true
    · rw [if_pos hd, hd, Bool.true_or]
      exact decide_eq_true (by omega)
    · rw [if_neg hd]
      have hd : seq d.name n = false := by simpa using hd
      rw [hd, Bool.false_or]
      have := threadI_lt l n (k + 1) i t (by simpa using h) hn
      rw [show k + 1 + i = k + (i + 1) by omega] at this
      exact this
theorem same_ks (a b : ByteArray) : MK.same (.ks a) (.ks b) = seq a b := rfl
/-- all keys are texts -/
def txt (M : MI) : Prop := ∀ p ∈ M, ∃ a, p.1 = .ks a
theorem same_comm (k q : MK) : MK.same k q = MK.same q k := by
  cases k <;> cases q <;> first | rfl | exact seq_comm _ _ | (show (_ == _) = (_ == _); rw [Bool.eq_iff_iff, beq_iff_eq, beq_iff_eq]; exact ⟨Eq.symm, Eq.symm⟩)
theorem get_cons (k : MK) (v : Int) (r : MI) (q : MK) : mgetI ((k, v) :: r) q = bif MK.same k q then v else mgetI r q := by rw [same_comm]; rfl
theorem put_cons (k : MK) (v : Int) (r : MI) (q : MK) (x : Int) : mputI ((k, v) :: r) q x = bif MK.same k q then (q, x) :: r else (k, v) :: mputI r q x := by rw [same_comm]; rfl
theorem put_nil (q : MK) (x : Int) : mputI [] q x = [(q, x)] := by rw [mputI]
theorem get_put : ∀ (M : MI) (a b : ByteArray) (x : Int), txt M → mgetI (mputI M (.ks a) x) (.ks b) = bif seq a b then x else mgetI M (.ks b)
  | [], a, b, x, _ => by
    rw [put_nil, get_cons, same_ks]
  | (k, v) :: M, a, b, x, h => by
    obtain ⟨c, hc⟩ := h (k, v) (by simp)
    simp only at hc
    subst hc
    have ih := get_put M a b x (fun p hp => h p (by simp [hp]))
    rw [put_cons, get_cons, same_ks, same_ks]
    cases hca : seq c a with
    | true =>
      rw [cond_true, get_cons, same_ks]
      cases hab : seq a b with
      | true => rfl
      | false =>
        have hcb : seq c b = false := by
          unfold seq at *
          have : c.toList = a.toList := by simpa using hca
          rw [this]; exact hab
        rw [hcb]; rfl
    | false =>
      rw [cond_false, get_cons, same_ks, ih]
      cases hab : seq a b with
      | true =>
        have hcb : seq c b = false := by
          unfold seq at *
          have : a.toList = b.toList := by simpa using hab
          rw [← this]; exact hca
        rw [hcb]; rfl
      | false => rfl
theorem txt_put : ∀ (M : MI) (a : ByteArray) (x : Int), txt M → txt (mputI M (.ks a) x)
  | [], a, x, _ => fun p hp => by
    have : p = (.ks a, x) := by simpa [mputI] using hp
    exact ⟨a, by rw [this]⟩
  | (k, v) :: M, a, x, h => by
    intro p hp
    rw [put_cons] at hp
    cases hs : MK.same k (.ks a) with
    | true =>
      rw [hs] at hp
      rcases List.mem_cons.1 hp with rfl | hp
      · exact ⟨a, rfl⟩
      · exact h p (by simp [hp])
    | false =>
      rw [hs] at hp
      rcases List.mem_cons.1 hp with rfl | hp
      · exact h _ (by simp)
      · exact txt_put M a x (fun p hp => h p (by simp [hp])) p hp
/-- a map whose words are 0 and 1, and which names have 1 -/
structure Is1 (M : MI) (f : ByteArray → Bool) : Prop where
  txt : txt M
  get : ∀ n, mgetI M (.ks n) = bif f n then 1 else 0
theorem Is1.nil : Is1 [] fun _ => false := ⟨fun p hp => by simp at hp, fun n => rfl⟩
theorem Is1.put {M : MI} {f : ByteArray → Bool} (h : Is1 M f) (a : ByteArray) : Is1 (mputI M (.ks a) 1) fun n => f n || seq a n := by
  refine ⟨txt_put M a 1 h.txt, fun n => ?_⟩
  rw [get_put M a n 1 h.txt, h.get]
  cases seq a n <;> cases f n <;> rfl
theorem Is1.ones {M : MI} {f : ByteArray → Bool} (h : Is1 M f) : ∀ (l : List Decl), Is1 (ones M l) fun n => f n || hasD l n
  | [] => ⟨h.txt, fun n => by rw [show (am.ones M []) = M from rfl, h.get]; simp [hasD]⟩
  | d :: l => by
    have := (h.put d.name).ones l
    refine ⟨this.txt, fun n => ?_⟩
    rw [show am.ones M (d :: l) = am.ones (mputI M (.ks d.name) 1) l from rfl, this.get]
    simp only [hasD, List.any_cons, Bool.or_assoc]
theorem Is1.onesT {M : MI} {f : ByteArray → Bool} (h : Is1 M f) : ∀ (l : List Thread), Is1 (onesT M l) fun n => f n || hasT l n
  | [] => ⟨h.txt, fun n => by rw [show (am.onesT M []) = M from rfl, h.get]; simp [hasT]⟩
  | d :: l => by
    have := (h.put d.name).onesT l
    refine ⟨this.txt, fun n => ?_⟩
    rw [show am.onesT M (d :: l) = am.onesT (mputI M (.ks d.name) 1) l from rfl, this.get]
    simp only [hasT, List.any_cons, Bool.or_assoc]
theorem Is1.pos {M : MI} {f : ByteArray → Bool} (h : Is1 M f) (n : ByteArray) : decide (mgetI M (.ks n) > 0) = f n := by
  rw [h.get]; cases f n <;> rfl

/-! rules -/
theorem whenI_le (r : Int) (b : Bool) : whenI r b = bif b then r else 0 := rfl
theorem least4 (a b c d : Bool) : leastW [whenI 1 a, whenI 2 b, whenI 3 c, whenI 4 d] 0 = bif a then 1 else bif b then 2 else bif c then 3 else bif d then 4 else 0 := by
  cases a <;> cases b <;> cases c <;> cases d <;> rfl
theorem least3 (a b c : Bool) : leastW [whenI 1 a, whenI 2 b, whenI 3 c] 0 = bif a then 1 else bif b then 2 else bif c then 3 else 0 := by
  cases a <;> cases b <;> cases c <;> rfl
/-- the two answers agree -/
def Ag (o : Option Flt) (f : Flt) : Prop := match o with
  | some g => f = g ∧ g.rule ≠ 0
  | none => f = ⟨0, 0⟩
theorem Ag.rule {o : Option Flt} {f : Flt} (h : Ag o f) : (f.rule != 0) = o.isSome := by
  cases o with
  | none => have h : f = ⟨0, 0⟩ := h; rw [h]; rfl
  | some g => obtain ⟨rfl, h⟩ := h; simpa using h
theorem pos_ne (a b c d : Bool) : decide ((bif a then (1 : Int) else bif b then 2 else bif c then 3 else bif d then 4 else 0) > 0) = ((bif a then (1 : Int) else bif b then 2 else bif c then 3 else bif d then 4 else 0) != 0) := by
  cases a <;> cases b <;> cases c <;> cases d <;> rfl
theorem tops_ag (p : Prg) (kind : Int) (most : Nat) (bad : Int → Bool) (hbad : ∀ w, bad w = wordI kind w) (rest : ByteArray → Bool) (hrest : ∀ pre name, twiceB p kind pre name = (rest name || hasD pre name)) :
    ∀ (l : List Decl) (i : Nat) (M : MI) (pre : List Decl), pre.length = i → i ≤ most → Is1 M (fun n => rest n || hasD pre n) → Ag (topsW most bad l i M) (declsF p kind most pre l)
  | [], i, M, pre, _, _, _ => by unfold topsW declsF; rfl
  | d :: l, i, M, pre, hp, hi, hM => by
    have hlen : ((pre.length : Int) : Int) = i := by rw [hp]
    have h3 : ((i : Int) == (most : Int)) = decide ((i : Int) ≥ most) := by
      rw [Bool.eq_iff_iff]; simp only [beq_iff_eq, decide_eq_true_eq]; omega
    have hL : leastW (topRules M most bad i d) 0 = declI p kind pre d pre.length most := by
      unfold topRules
      rw [least4, hM.pos, h3, hbad]
      unfold declI
      rw [hrest, hlen]
    unfold topsW declsF
    rw [hL]
    have hpn : decide (declI p kind pre d pre.length most > 0) = (declI p kind pre d pre.length most != 0) := pos_ne ..
    rw [hpn]
    cases hc : declI p kind pre d pre.length most != 0 with
    | true => exact ⟨rfl, by simpa using hc⟩
    | false =>
      show Ag (topsW most bad l (i + 1) (mputI M (.ks d.name) 1)) (declsF p kind most (pre ++ [d]) l)
      have hlt : ¬ (i : Int) ≥ most := by
        intro h
        have hh : decide ((i : Int) ≥ most) = true := decide_eq_true h
        unfold declI at hc
        rw [hlen, hh] at hc
        revert hc
        cases nameB d.name <;> cases twiceB p kind pre d.name <;> intro hc <;> simp at hc
      refine tops_ag p kind most bad hbad rest hrest l (i + 1) _ (pre ++ [d]) (by simp [hp]) (by omega) ?_
      have := hM.put d.name
      refine ⟨this.txt, fun n => ?_⟩
      rw [this.get]
      simp [hasD, Bool.or_assoc]
/-- locals: what is above is asked apart -/
theorem locs_ag (p : Prg) (above : MI) (hA : Is1 above fun n => hasD p.shared n || hasD p.locks n) :
    ∀ (l : List Decl) (i : Nat) (M : MI) (pre : List Decl), pre.length = i → i ≤ 64 → Is1 M (hasD pre) → Ag (localsW above l i M) (declsF p 2 64 pre l)
  | [], i, M, pre, _, _, _ => by unfold localsW declsF; rfl
  | d :: l, i, M, pre, hp, hi, hM => by
    have hlen : ((pre.length : Int) : Int) = i := by rw [hp]
    have h3 : ((i : Int) == 64) = decide ((i : Int) ≥ 64) := by
      rw [Bool.eq_iff_iff]; simp only [beq_iff_eq, decide_eq_true_eq]; omega
    have h2 : decide (IntKind.i64.wrap (mgetI M (.ks d.name) + mgetI above (.ks d.name)) > 0) = twiceB p 2 pre d.name := by
      unfold twiceB
      rw [findI_has, findI_has, findI_has, hM.get, hA.get]
      cases hasD pre d.name <;> cases hasD p.shared d.name <;> cases hasD p.locks d.name <;> rfl
    have h4 : (d.word != 0) = wordI 2 d.word := rfl
    have hL : leastW (localRules above M i d) 0 = declI p 2 pre d pre.length 64 := by
      unfold localRules
      rw [least4, h2, h3, h4]
      unfold declI
      rw [hlen]
    unfold localsW declsF
    rw [hL]
    have hpn : decide (declI p 2 pre d pre.length 64 > 0) = (declI p 2 pre d pre.length 64 != 0) := pos_ne ..
    rw [hpn]
    cases hc : declI p 2 pre d pre.length 64 != 0 with
    | true => exact ⟨rfl, by simpa using hc⟩
    | false =>
      show Ag (localsW above l (i + 1) (mputI M (.ks d.name) 1)) (declsF p 2 64 (pre ++ [d]) l)
      have hlt : ¬ (i : Int) ≥ 64 := by
        intro h
        have hh : decide ((i : Int) ≥ 64) = true := decide_eq_true h
        unfold declI at hc
        rw [hlen, hh] at hc
        revert hc
        cases nameB d.name <;> cases twiceB p 2 pre d.name <;> intro hc <;> simp at hc
      refine locs_ag p above hA l (i + 1) _ (pre ++ [d]) (by simp [hp]) (by omega) ?_
      have := hM.put d.name
      refine ⟨this.txt, fun n => ?_⟩
      rw [this.get]
      simp [hasD]
/-! what the top declares: of one name the first one's sort -/
structure IsTop (M : MI) (f : ByteArray → Int) : Prop where
  txt : txt M
  get : ∀ n, mgetI M (.ks n) = f n
theorem IsTop.put {M : MI} {f : ByteArray → Int} (h : IsTop M f) (a : ByteArray) (s : Int) : IsTop (putTop M a s) fun n => bif seq a n && f n == 0 then s else f n := by
  unfold putTop
  cases hc : mgetI M (.ks a) == 0 with
  | true =>
    refine ⟨txt_put M a s h.txt, fun n => ?_⟩
    show mgetI (mputI M (.ks a) s) (.ks n) = _
    rw [get_put M a n s h.txt, h.get]
    cases hs : seq a n with
    | false => rfl
    | true =>
      have : f n = f a := by
        rw [← h.get n, ← h.get a]
        have key : ∀ M : MI, mgetI M (.ks n) = mgetI M (.ks a) := by
          intro M
          induction M with
          | nil => rfl
          | cons p M ih =>
            obtain ⟨k, v⟩ := p
            rw [get_cons, get_cons, ih]
            have : MK.same k (.ks n) = MK.same k (.ks a) := by
              cases k with
              | ks c => show seq c n = seq c a; unfold seq at *; rw [show a.toList = n.toList by simpa using hs]
              | _ => rfl
            rw [this]
        exact key M
      rw [← h.get a, ] at this
      rw [this, hc]; rfl
  | false =>
    refine ⟨h.txt, fun n => ?_⟩
    show mgetI M (.ks n) = _
    rw [h.get]
    cases hs : seq a n with
    | false => rfl
    | true =>
      have : f n = f a := by
        rw [← h.get n, ← h.get a]
        have key : ∀ M : MI, mgetI M (.ks n) = mgetI M (.ks a) := by
          intro M
          induction M with
          | nil => rfl
          | cons p M ih =>
            obtain ⟨k, v⟩ := p
            rw [get_cons, get_cons, ih]
            have : MK.same k (.ks n) = MK.same k (.ks a) := by
              cases k with
              | ks c => show seq c n = seq c a; unfold seq at *; rw [show a.toList = n.toList by simpa using hs]
              | _ => rfl
            rw [this]
        exact key M
      rw [h.get a, ← this] at hc
      rw [hc]; rfl
theorem IsTop.putAll {s : Int} (hs : s ≠ 0) : ∀ (l : List Decl) {M : MI} {f : ByteArray → Int}, IsTop M f → IsTop (putAll M l s) fun n => bif hasD l n && f n == 0 then s else f n
  | [], M, f, h => ⟨h.txt, fun n => h.get n⟩
  | d :: l, M, f, h => by
    have := IsTop.putAll hs l (h.put d.name s)
    refine ⟨this.txt, fun n => ?_⟩
    rw [show am.putAll M (d :: l) s = am.putAll (putTop M d.name s) l s from rfl, this.get]
    show (bif hasD l n && (bif seq d.name n && f n == 0 then s else f n) == 0 then s else (bif seq d.name n && f n == 0 then s else f n)) = bif (seq d.name n || hasD l n) && f n == 0 then s else f n
    have hs' : (s == 0) = false := by simpa using hs
    cases seq d.name n <;> cases hasD l n <;> cases hf : f n == 0 <;> simp [hf, hs']
theorem IsTop.putThs : ∀ (l : List Thread) {M : MI} {f : ByteArray → Int}, IsTop M f → IsTop (putThs M l) fun n => bif hasT l n && f n == 0 then 3 else f n
  | [], M, f, h => ⟨h.txt, fun n => h.get n⟩
  | d :: l, M, f, h => by
    have := IsTop.putThs l (h.put d.name 3)
    refine ⟨this.txt, fun n => ?_⟩
    rw [show am.putThs M (d :: l) = am.putThs (putTop M d.name 3) l from rfl, this.get]
    show (bif hasT l n && (bif seq d.name n && f n == 0 then 3 else f n) == 0 then 3 else (bif seq d.name n && f n == 0 then 3 else f n)) = bif (seq d.name n || hasT l n) && f n == 0 then 3 else f n
    cases seq d.name n <;> cases hasT l n <;> cases hf : f n == 0 <;> simp [hf]
def sortI (p : Prg) (n : ByteArray) : Int := bif hasD p.shared n then 1 else bif hasD p.locks n then 2 else bif hasT p.threads n then 3 else 0
theorem top_is (p : Prg) : IsTop (topOf p) (sortI p) := by
  have h0 : IsTop [] fun _ => 0 := ⟨fun p hp => by simp at hp, fun n => rfl⟩
  have := IsTop.putThs p.threads (IsTop.putAll (s := 2) (by decide) p.locks (IsTop.putAll (s := 1) (by decide) p.shared h0))
  refine ⟨this.txt, fun n => (this.get n).trans ?_⟩
  unfold sortI
  cases hasD p.shared n <;> cases hasD p.locks n <;> cases hasT p.threads n <;> rfl
end Go.Proofs.YtbpcbhmdjphodaaGreat.am

namespace Go.Proofs.YtbpcbhmdjphodaaGreat.am
open Go

def R056 (v : Int) : Prop := v = 0 ∨ v = 5 ∨ v = 6
theorem when6 (b : Bool) : R056 (whenI 6 b) := by cases b <;> simp [R056, whenI]
theorem least_e (a d : Bool) {v : Int} (hv : R056 v) : leastW [whenI 4 a, v, whenI 7 d] 0 = bif a then 4 else (bif (v == 0) && d then 7 else v) := by
  rcases hv with rfl | rfl | rfl <;> cases a <;> cases d <;> rfl
theorem least_s0 (a d : Bool) : leastW [whenI 4 a, whenI 7 d] 0 = bif a then 4 else (bif ((0 : Int) == 0) && d then 7 else 0) := by
  cases a <;> cases d <;> rfl
theorem least_s1 (a d : Bool) {v : Int} (hv : R056 v) : leastW [whenI 4 a, whenI 7 d, v] 0 = bif a then 4 else (bif (v == 0) && d then 7 else v) := by
  rcases hv with rfl | rfl | rfl <;> cases a <;> cases d <;> rfl
theorem least_s2 (a d : Bool) {v u : Int} (hv : R056 v) (hu : R056 u) : leastW [whenI 4 a, whenI 7 d, v, u] 0 = bif a then 4 else (bif (leastI v u == 0) && d then 7 else leastI v u) := by
  rcases hv with rfl | rfl | rfl <;> rcases hu with rfl | rfl | rfl <;> cases a <;> cases d <;> rfl
theorem leastI_056 {v u : Int} (hv : R056 v) (hu : R056 u) : R056 (leastI v u) := by
  rcases hv with rfl | rfl | rfl <;> rcases hu with rfl | rfl | rfl <;> simp [R056, leastI]
theorem pos_dp (a d : Bool) {v : Int} (hv : R056 v) : decide ((bif a then (4 : Int) else (bif (v == 0) && d then 7 else v)) > 0) = ((bif a then (4 : Int) else (bif (v == 0) && d then 7 else v)) != 0) := by
  rcases hv with rfl | rfl | rfl <;> cases a <;> cases d <;> rfl

section
variable {p : Prg} {i : Nat} {th : Thread} {M : MI}
theorem local_has (hi : p.threads[i]? = some th) (n : ByteArray) : decide (localI p i n ≥ 0) = hasD th.locals n := by
  unfold localI
  rw [if_neg (by omega), show (i : Int).toNat = i by omega, hi]
  exact findI_has ..
theorem var056 (p : Prg) (i : Int) (n : ByteArray) (b : Bool) : R056 (variableI p i n b) := by
  unfold variableI
  cases decide (localI p i n ≥ 0) <;> cases decide (findI p.shared n 0 ≥ 0) <;> cases (decide (findI p.locks n 0 ≥ 0) || decide (threadI p.threads n 0 ≥ 0)) <;> cases b <;> simp [R056]
theorem lock056 (p : Prg) (i : Int) (n : ByteArray) : R056 (lockI p i n) := by
  unfold lockI
  cases decide (localI p i n ≥ 0) <;> cases decide (findI p.locks n 0 ≥ 0) <;> cases (decide (findI p.shared n 0 ≥ 0) || decide (threadI p.threads n 0 ≥ 0)) <;> simp [R056]
theorem var_eq (hi : p.threads[i]? = some th) (hM : Is1 M (hasD th.locals)) (n : ByteArray) (b : Bool) : variableW (topOf p) M n b = variableI p i n b := by
  unfold variableW variableI
  rw [hM.pos, local_has hi, findI_has, findI_has, threadI_has, (top_is p).get]
  unfold sortI
  cases hasD th.locals n <;> cases hasD p.shared n <;> cases hasD p.locks n <;> cases hasT p.threads n <;> cases b <;> rfl
theorem lock_eq (hi : p.threads[i]? = some th) (hM : Is1 M (hasD th.locals)) (hLS : ∀ n, hasD p.locks n = true → hasD p.shared n = false) (n : ByteArray) : guardW (topOf p) M n = lockI p i n := by
  unfold guardW lockI
  rw [hM.pos, local_has hi, findI_has, findI_has, threadI_has, (top_is p).get, hM.get]
  unfold sortI
  have := hLS n
  revert this
  cases hasD th.locals n <;> cases hasD p.shared n <;> cases hasD p.locks n <;> cases hasT p.threads n <;> intro this <;> first | rfl | (exact absurd (this rfl) (by decide))
mutual
theorem expr_ag (hi : p.threads[i]? = some th) (hM : Is1 M (hasD th.locals)) : ∀ (e : Expr) (deep : Int), Ag (exprW (topOf p) M e deep) (exprF p i e deep)
  | .mk kind op word name kids at_, deep => by
    have ih := exprs_ag hi hM kids (deep + 1)
    have hv : R056 (bif kind == 2 then variableI p i name false else 0) := by
      cases kind == 2
      · exact .inl rfl
      · exact var056 ..
    have hL : leastW (exprRules (topOf p) M kind op word name kids at_ deep) 0 = bif !partsB (.mk kind op word name kids at_) then 4 else deepI (bif kind == 2 then variableI p i name false else 0) deep := by
      unfold exprRules
      rw [var_eq hi hM]
      exact least_e _ _ hv
    unfold exprW exprF
    rw [hL]
    have hp : decide ((bif !partsB (.mk kind op word name kids at_) then 4 else deepI (bif kind == 2 then variableI p i name false else 0) deep) > 0) = ((bif !partsB (.mk kind op word name kids at_) then 4 else deepI (bif kind == 2 then variableI p i name false else 0) deep) != 0) := pos_dp _ _ hv
    rw [hp]
    cases !partsB (.mk kind op word name kids at_) with
    | true => exact ⟨rfl, show (4 : Int) ≠ 0 by decide⟩
    | false =>
      simp only [cond_false]
      cases hd : deepI (bif kind == 2 then variableI p i name false else 0) deep != 0 with
      | true => exact ⟨rfl, by simpa using hd⟩
      | false => exact ih
theorem exprs_ag (hi : p.threads[i]? = some th) (hM : Is1 M (hasD th.locals)) : ∀ (l : List Expr) (deep : Int), Ag (exprsW (topOf p) M l deep) (exprsF p i l deep)
  | [], deep => by unfold exprsW exprsF; rfl
  | e :: l, deep => by
    have h1 := expr_ag hi hM e deep
    have h2 := exprs_ag hi hM l deep
    unfold exprsW exprsF
    rw [h1.rule]
    cases he : exprW (topOf p) M e deep with
    | some f => rw [he] at h1; exact h1
    | none => exact h2
end
mutual
theorem stmt_ag (hi : p.threads[i]? = some th) (hM : Is1 M (hasD th.locals)) (hLS : ∀ n, hasD p.locks n = true → hasD p.shared n = false) : ∀ (s : Stmt) (deep : Int), Ag (stmtW (topOf p) M s deep) (stmtF p i s deep)
  | .mk kind name other e body els at_, deep => by
    have h1 := exprs_ag hi hM e 1
    have h2 := block_ag hi hM hLS body (deep + 1)
    have h3 := block_ag hi hM hLS els (deep + 1)
    have hv : R056 (namesI p i kind name other) := by
      unfold namesI
      cases kind == 1 with
      | true => exact var056 ..
      | false =>
        simp only [cond_false]
        cases kind == 2 with
        | true => exact leastI_056 (var056 ..) (var056 ..)
        | false =>
          simp only [cond_false]
          cases kind == 5 with
          | true => exact lock056 ..
          | false => exact .inl rfl
    have hL : leastW (stmtRules (topOf p) M kind name other e body els at_ deep) 0 = bif !fieldsB (.mk kind name other e body els at_) then 4 else deepI (namesI p i kind name other) deep := by
      unfold stmtRules namesI
      rw [var_eq hi hM, var_eq hi hM, lock_eq hi hM hLS]
      cases kind == 1 with
      | true => exact least_s1 _ _ (var056 ..)
      | false =>
        simp only [cond_false]
        cases kind == 2 with
        | true => exact least_s2 _ _ (var056 ..) (var056 ..)
        | false =>
          simp only [cond_false]
          cases kind == 5 with
          | true => exact least_s1 _ _ (lock056 ..)
          | false => exact least_s0 _ _
    unfold stmtW stmtF
    rw [hL]
    have hp : decide ((bif !fieldsB (.mk kind name other e body els at_) then 4 else deepI (namesI p i kind name other) deep) > 0) = ((bif !fieldsB (.mk kind name other e body els at_) then 4 else deepI (namesI p i kind name other) deep) != 0) := pos_dp _ _ hv
    rw [hp]
    cases !fieldsB (.mk kind name other e body els at_) with
    | true => exact ⟨rfl, show (4 : Int) ≠ 0 by decide⟩
    | false =>
      simp only [cond_false]
      cases hd : deepI (namesI p i kind name other) deep != 0 with
      | true => exact ⟨rfl, by simpa using hd⟩
      | false =>
        simp only [cond_false]
        rw [h1.rule, h2.rule]
        cases he : exprsW (topOf p) M e 1 with
        | some f => rw [he] at h1; exact h1
        | none =>
          cases hb : blockW (topOf p) M body (deep + 1) with
          | some f => rw [hb] at h2; exact h2
          | none => exact h3
theorem block_ag (hi : p.threads[i]? = some th) (hM : Is1 M (hasD th.locals)) (hLS : ∀ n, hasD p.locks n = true → hasD p.shared n = false) : ∀ (l : List Stmt) (deep : Int), Ag (blockW (topOf p) M l deep) (stmtsF p i l deep)
  | [], deep => by unfold blockW stmtsF; rfl
  | s :: l, deep => by
    have h1 := stmt_ag hi hM hLS s deep
    have h2 := block_ag hi hM hLS l deep
    unfold blockW stmtsF
    rw [h1.rule]
    cases he : stmtW (topOf p) M s deep with
    | some f => rw [he] at h1; exact h1
    | none => exact h2
end
end
theorem one_nil : Is1 [] (hasD []) := ⟨fun p hp => by simp at hp, fun n => rfl⟩
theorem above_is (p : Prg) : Is1 (aboveM p) fun n => hasD p.shared n || hasD p.locks n := by
  have := (one_nil.ones p.shared).ones p.locks
  refine ⟨this.txt, fun n => ?_⟩
  rw [show aboveM p = ones (ones [] p.shared) p.locks from rfl, this.get]
  simp [hasD]
theorem ths_ag (p : Prg) (hLS : ∀ n, hasD p.locks n = true → hasD p.shared n = false) : ∀ (l : List Thread) (i : Nat) (M : MI), l = p.threads.drop i → i ≤ 8 → Is1 M (fun n => hasD p.shared n || hasD p.locks n || hasT (p.threads.take i) n) → Ag (thsW p (topOf p) l i M) (threadsF p i l ⟨0, 0⟩)
  | [], i, M, _, _, _ => by unfold thsW threadsF; rfl
  | t :: l, i, M, hl, hi8, hM => by
    have hlt : i < p.threads.length := by
      rcases Nat.lt_or_ge i p.threads.length with h | h
      · exact h
      · rw [List.drop_of_length_le h] at hl; cases hl
    have hi : p.threads[i]? = some t := by
      have := congrArg List.head? hl
      rw [List.head?_cons, List.head?_drop] at this
      exact this.symm
    have hl' : l = p.threads.drop (i + 1) := by
      have := congrArg List.tail hl
      rw [List.tail_cons, List.tail_drop] at this
      exact this
    have h3 : ((i : Int) == 8) = decide ((i : Int) ≥ 8) := by
      rw [Bool.eq_iff_iff]; simp only [beq_iff_eq, decide_eq_true_eq]; omega
    have hd : decide (threadI p.threads t.name 0 < i) = hasT (p.threads.take i) t.name := by
      have := threadI_lt p.threads t.name 0 i t hi (by unfold seq; simp)
      rw [Nat.zero_add] at this; exact this
    have h2 : (decide (findI p.shared t.name 0 ≥ 0) || decide (findI p.locks t.name 0 ≥ 0) || decide (threadI p.threads t.name 0 < i)) = decide (mgetI M (.ks t.name) > 0) := by
      rw [hM.pos, findI_has, findI_has, hd]
    have hlo := locs_ag p (aboveM p) (above_is p) t.locals 0 [] [] rfl (by omega) one_nil
    have hM1 : Is1 (ones [] t.locals) (hasD t.locals) := by
      have := one_nil.ones t.locals
      refine ⟨this.txt, fun n => ?_⟩
      rw [this.get]; simp [hasD]
    have hbl := block_ag hi hM1 hLS t.body 1
    unfold thsW threadsF thRules
    rw [least3, h2, h3]
    cases hn : !nameB t.name with
    | true => exact ⟨rfl, show (1 : Int) ≠ 0 by decide⟩
    | false =>
    cases hs : decide (mgetI M (.ks t.name) > 0) with
    | true => exact ⟨rfl, show (2 : Int) ≠ 0 by decide⟩
    | false =>
    cases h8 : decide ((i : Int) ≥ 8) with
    | true => exact ⟨rfl, show (3 : Int) ≠ 0 by decide⟩
    | false =>
    have h8 := of_decide_eq_false h8
    show Ag (match threadW p (topOf p) t with | some f => some f | none => thsW p (topOf p) l (i + 1) (mputI M (.ks t.name) 1)) (threadsF p (i + 1) l (bif (declsF p 2 64 [] t.locals).rule == 0 then stmtsF p i t.body 1 else declsF p 2 64 [] t.locals))
    have hth : Ag (threadW p (topOf p) t) (bif (declsF p 2 64 [] t.locals).rule == 0 then stmtsF p i t.body 1 else declsF p 2 64 [] t.locals) := by
      unfold threadW
      have hr := hlo.rule
      cases ho : localsW (aboveM p) t.locals 0 [] with
      | some f =>
        rw [ho] at hlo hr
        have : ((declsF p 2 64 [] t.locals).rule == 0) = false := by simpa using hr
        rw [this]; exact hlo
      | none =>
        rw [ho] at hr
        have : ((declsF p 2 64 [] t.locals).rule == 0) = true := by simpa using hr
        rw [this]; exact hbl
    have ih := ths_ag p hLS l (i + 1) (mputI M (.ks t.name) 1) hl' (by omega) (by
      have := hM.put t.name
      refine ⟨this.txt, fun n => ?_⟩
      rw [this.get, take_snoc hi]
      simp [hasT, Bool.or_assoc])
    generalize (bif (declsF p 2 64 [] t.locals).rule == 0 then stmtsF p i t.body 1 else declsF p 2 64 [] t.locals) = f at *
    cases ho : threadW p (topOf p) t with
    | some g =>
      rw [ho] at hth
      obtain ⟨rfl, hg⟩ := hth
      have key : ∀ (l : List Thread) (i : Nat), threadsF p i l f = f := by
        intro l
        cases l with
        | nil => intro i; unfold threadsF; rfl
        | cons t l => intro i; unfold threadsF; rw [show (f.rule != 0) = true by simpa using hg]; rfl
      rw [key]
      exact ⟨rfl, hg⟩
    | none =>
      rw [ho] at hth
      have hth : f = ⟨0, 0⟩ := hth
      rw [hth]
      exact ih
theorem first_ag (p : Prg) : Ag (firstW p) (firstF p) := by
  have h1 := tops_ag p 0 64 minW (fun w => by unfold minW wordI; cases (w == -9223372036854775808) <;> rfl) (fun _ => false) (fun pre name => by unfold twiceB; rw [findI_has]; simp) p.shared 0 [] [] rfl (by omega) ⟨fun p hp => by simp at hp, fun n => rfl⟩
  have h2 := tops_ag p 1 16 anyW (fun w => by unfold anyW wordI; rfl) (fun n => hasD p.shared n) (fun pre name => by unfold twiceB; rw [findI_has, findI_has]; simp [Bool.or_comm]) p.locks 0 (ones [] p.shared) [] rfl (by omega) (by
    have := one_nil.ones p.shared
    refine ⟨this.txt, fun n => ?_⟩
    rw [this.get]; simp [hasD])
  unfold firstW firstF
  have r1 := h1.rule
  cases ho : topsW 64 minW p.shared 0 [] with
  | some f =>
    rw [show ((64 : Nat) : Int) = 64 from rfl, ho] at h1 r1
    have : ((declsF p 0 64 [] p.shared).rule == 0) = false := by simpa using r1
    rw [this]
    obtain ⟨h1, hf⟩ := h1
    have h1 : declsF p 0 64 [] p.shared = f := h1
    rw [cond_false, h1]
    refine ⟨?_, hf⟩
    cases p.threads with
    | nil => unfold threadsF; rfl
    | cons t l => unfold threadsF; rw [show (f.rule != 0) = true by simpa using hf]; rfl
  | none =>
    rw [show ((64 : Nat) : Int) = 64 from rfl, ho] at h1 r1
    have : ((declsF p 0 64 [] p.shared).rule == 0) = true := by simpa using r1
    rw [this, cond_true]
    have r2 := h2.rule
    cases ho2 : topsW 16 anyW p.locks 0 (ones [] p.shared) with
    | some f =>
      rw [show ((16 : Nat) : Int) = 16 from rfl, ho2] at h2
      obtain ⟨h2, hf⟩ := h2
      have h2 : declsF p 1 16 [] p.locks = f := h2
      rw [h2]
      refine ⟨?_, hf⟩
      cases p.threads with
      | nil => unfold threadsF; rfl
      | cons t l => unfold threadsF; rw [show (f.rule != 0) = true by simpa using hf]; rfl
    | none =>
      rw [show ((16 : Nat) : Int) = 16 from rfl, ho2] at h2
      have h2 : declsF p 1 16 [] p.locks = ⟨0, 0⟩ := h2
      rw [h2]
      refine ths_ag p ?_ p.threads 0 _ (by rw [List.drop_zero]) (by omega) ?_
      · -- no lock has a shared variable's name
        have key : ∀ (l : List Decl) (i : Nat) (M : MI) (pre : List Decl), Is1 M (fun n => hasD p.shared n || hasD pre n) → topsW 16 anyW l i M = none → ∀ d ∈ l, hasD p.shared d.name = false := by
          intro l
          induction l with
          | nil => intro i M pre _ _ d hd; simp at hd
          | cons x l ih =>
            intro i M pre hM h d hd
            have hL : leastW (topRules M 16 anyW i x) 0 = bif !nameB x.name then 1 else bif (hasD p.shared x.name || hasD pre x.name) then 2 else bif ((i : Int) == 16) then 3 else bif anyW x.word then 4 else 0 := by
              unfold topRules; rw [least4, hM.pos]
            unfold topsW at h
            cases hb : decide (leastW (topRules M 16 anyW i x) 0 > 0) with
            | true => rw [hb] at h; cases h
            | false =>
            rw [hb] at h
            have hn : topsW 16 anyW l (i + 1) (mputI M (.ks x.name) 1) = none := h
            have hsx : hasD p.shared x.name = false := by
              cases hs : hasD p.shared x.name with
              | false => rfl
              | true =>
                rw [hL, hs, Bool.true_or] at hb
                have hb := of_decide_eq_false hb
                exfalso
                apply hb
                cases nameB x.name
                · show (1 : Int) > 0; decide
                · show (2 : Int) > 0; decide
            rcases List.mem_cons.1 hd with rfl | hd
            · exact hsx
            · exact ih (i + 1) _ (pre ++ [x]) (by
                have := hM.put x.name
                refine ⟨this.txt, fun n => ?_⟩
                rw [this.get]; simp [hasD, Bool.or_assoc]) hn d hd
        intro n hn
        unfold hasD at hn
        obtain ⟨d, hd, hdn⟩ := List.any_eq_true.1 hn
        have := key p.locks 0 _ [] (by
          have := one_nil.ones p.shared
          refine ⟨this.txt, fun n => ?_⟩
          rw [this.get]; simp [hasD]) ho2 d hd
        have e : ∀ x : ByteArray, seq x d.name = seq x n := fun x => by
          unfold seq at *
          rw [show d.name.toList = n.toList by simpa using hdn]
        unfold hasD at this ⊢
        simpa [e] using this
      · have := (one_nil.ones p.shared).ones p.locks
        refine ⟨this.txt, fun n => ?_⟩
        rw [this.get]; simp [hasD, hasT]
theorem check_eq (p : Prg) : checkW p = checkF p := by
  have h := first_ag p
  have hr := h.rule
  unfold checkW checkF
  cases ho : firstW p with
  | some f =>
    rw [ho] at h hr
    rw [hr]
    obtain ⟨rfl, _⟩ := h
    rfl
  | none =>
    rw [ho] at hr
    rw [hr]; rfl
end Go.Proofs.YtbpcbhmdjphodaaGreat.am

namespace Go.Proofs.YtbpcbhmdjphodaaGreat.am
open Go Go.Proofs

section
variable {P : Program} {t : Nat} {l : List Tr}
theorem fits_int {k : IntKind} (hu : P.underlying t = some (.int k)) (h : Fits P t l) : ∃ n, l = [.v (.int k n)] := by
  cases h with
  | int n h => rw [hu] at h; cases h; exact ⟨n, rfl⟩
  | bool b h => rw [hu] at h; cases h
  | str s h => rw [hu] at h; cases h
  | slice rows h => rw [hu] at h; cases h
  | struct l h => rw [hu] at h; cases h
theorem fits_bool (hu : P.underlying t = some .bool) (h : Fits P t l) : ∃ n, l = [.v (.bool n)] := by
  cases h with
  | int n h => rw [hu] at h; cases h
  | bool b h => exact ⟨b, rfl⟩
  | str s h => rw [hu] at h; cases h
  | slice rows h => rw [hu] at h; cases h
  | struct l h => rw [hu] at h; cases h
theorem fits_str (hu : P.underlying t = some .string) (h : Fits P t l) : ∃ s, l = [.v (.string s)] := by
  cases h with
  | int n h => rw [hu] at h; cases h
  | bool b h => rw [hu] at h; cases h
  | str s h => exact ⟨s, rfl⟩
  | slice rows h => rw [hu] at h; cases h
  | struct l h => rw [hu] at h; cases h
theorem fits_slice {e n B : Nat} (hu : P.underlying t = some (.slice e)) (hn : P.cellsOf e = n) (hB : P.bytesOf e = B) (h : Fits P t l) : ∃ rows, l = [.lst n B rows] ∧ FitsR P e rows := by
  cases h with
  | int n h => rw [hu] at h; cases h
  | bool b h => rw [hu] at h; cases h
  | str s h => rw [hu] at h; cases h
  | slice rows h hr => rw [hu] at h; cases h; rw [hn, hB]; exact ⟨rows, rfl, hr⟩
  | struct l h => rw [hu] at h; cases h
theorem fits_struct {fs : Array Field} {ts : List Nat} (hu : P.underlying t = some (.struct fs)) (hts : fs.toList.map (·.type) = ts) (h : Fits P t l) : FitsL P ts l := by
  cases h with
  | int n h => rw [hu] at h; cases h
  | bool b h => rw [hu] at h; cases h
  | str s h => rw [hu] at h; cases h
  | slice rows h => rw [hu] at h; cases h
  | struct l h hl => rw [hu] at h; cases h; rw [← hts]; exact hl
theorem fitsL_cons {ts : List Nat} (h : FitsL P (t :: ts) l) : ∃ a b, l = a ++ b ∧ Fits P t a ∧ FitsL P ts b := by
  cases h with
  | cons h1 h2 => exact ⟨_, _, rfl, h1, h2⟩
theorem fitsL_nil (h : FitsL P [] l) : l = [] := by cases h; rfl
theorem fitsR_all {e : Nat} {α : Type} {f : α → List Tr} (hf : ∀ r, Fits P e r → ∃ x, r = f x) : ∀ {rows : List (List Tr)}, FitsR P e rows → ∃ l : List α, rows = l.map f
  | [], _ => ⟨[], rfl⟩
  | r :: rows, h => by
    cases h with
    | cons h1 h2 =>
      obtain ⟨x, rfl⟩ := hf r h1
      obtain ⟨l, rfl⟩ := fitsR_all hf h2
      exact ⟨x :: l, rfl⟩
end
noncomputable abbrev PP : Program := Tryz.prog
theorem decl_fits {l : List Tr} (h : Fits PP 64 l) : ∃ d : Decl, l = d.cells := by
  obtain ⟨a, r1, rfl, h1, q1⟩ := fitsL_cons (fits_struct Tryz.underlying64 rfl h)
  obtain ⟨b, r2, rfl, h2, q2⟩ := fitsL_cons q1
  obtain ⟨c, r3, rfl, h3, q3⟩ := fitsL_cons q2
  obtain rfl := fitsL_nil q3
  obtain ⟨s, rfl⟩ := fits_str Tryz.underlying9 h1
  obtain ⟨w, rfl⟩ := fits_int Tryz.underlying2 h2
  obtain ⟨n, rfl⟩ := fits_int Tryz.underlying3 h3
  exact ⟨⟨s, w, n⟩, rfl⟩
theorem decls_fits {l : List Tr} (h : Fits PP 22 l) : ∃ d : List Decl, l = [declsT d] := by
  obtain ⟨rows, rfl, hr⟩ := fits_slice (n := 3) (B := 32) Tryz.underlying22 (by kernel_rfl) (by kernel_rfl) h
  obtain ⟨l, rfl⟩ := fitsR_all (fun r h => decl_fits h) hr
  exact ⟨l, rfl⟩
theorem expr_fits : ∀ (n : Nat), (∀ (l : List Tr), SizeOf.sizeOf l < n → Fits PP 62 l → ∃ e : Expr, l = e.cells) ∧ ∀ (rows : List (List Tr)), SizeOf.sizeOf rows < n → FitsR PP 62 rows → ∃ e : List Expr, rows = Expr.rows e := by
  intro n
  induction n with
  | zero => exact ⟨fun l h => by omega, fun l h => by omega⟩
  | succ n ih =>
    refine ⟨fun l hn h => ?_, fun rows hn h => ?_⟩
    · obtain ⟨a, r1, rfl, h1, q1⟩ := fitsL_cons (fits_struct Tryz.underlying62 rfl h)
      obtain ⟨b, r2, rfl, h2, q2⟩ := fitsL_cons q1
      obtain ⟨c, r3, rfl, h3, q3⟩ := fitsL_cons q2
      obtain ⟨d, r4, rfl, h4, q4⟩ := fitsL_cons q3
      obtain ⟨e, r5, rfl, h5, q5⟩ := fitsL_cons q4
      obtain ⟨f, r6, rfl, h6, q6⟩ := fitsL_cons q5
      obtain rfl := fitsL_nil q6
      obtain ⟨x1, rfl⟩ := fits_int Tryz.underlying59 h1
      obtain ⟨x2, rfl⟩ := fits_int Tryz.underlying60 h2
      obtain ⟨x3, rfl⟩ := fits_int Tryz.underlying2 h3
      obtain ⟨x4, rfl⟩ := fits_str Tryz.underlying9 h4
      obtain ⟨rows, rfl, hr⟩ := fits_slice (n := 6) (B := 64) Tryz.underlying47 (by kernel_rfl) (by kernel_rfl) h5
      obtain ⟨x6, rfl⟩ := fits_int Tryz.underlying3 h6
      obtain ⟨x5, rfl⟩ := ih.2 rows (by simp at hn; omega) hr
      exact ⟨.mk x1 x2 x3 x4 x5 x6, rfl⟩
    · cases h with
      | nil => exact ⟨[], rfl⟩
      | cons h1 h2 =>
        simp at hn
        obtain ⟨e, rfl⟩ := ih.1 _ (by omega) h1
        obtain ⟨l, rfl⟩ := ih.2 _ (by omega) h2
        exact ⟨e :: l, rfl⟩
theorem stmt_fits : ∀ (n : Nat), (∀ (l : List Tr), SizeOf.sizeOf l < n → Fits PP 50 l → ∃ e : Stmt, l = e.cells) ∧ ∀ (rows : List (List Tr)), SizeOf.sizeOf rows < n → FitsR PP 50 rows → ∃ e : List Stmt, rows = Stmt.rows e := by
  intro n
  induction n with
  | zero => exact ⟨fun l h => by omega, fun l h => by omega⟩
  | succ n ih =>
    refine ⟨fun l hn h => ?_, fun rows hn h => ?_⟩
    · obtain ⟨a, r1, rfl, h1, q1⟩ := fitsL_cons (fits_struct Tryz.underlying50 rfl h)
      obtain ⟨b, r2, rfl, h2, q2⟩ := fitsL_cons q1
      obtain ⟨c, r3, rfl, h3, q3⟩ := fitsL_cons q2
      obtain ⟨d, r4, rfl, h4, q4⟩ := fitsL_cons q3
      obtain ⟨e, r5, rfl, h5, q5⟩ := fitsL_cons q4
      obtain ⟨f, r6, rfl, h6, q6⟩ := fitsL_cons q5
      obtain ⟨g, r7, rfl, h7, q7⟩ := fitsL_cons q6
      obtain rfl := fitsL_nil q7
      obtain ⟨x1, rfl⟩ := fits_int Tryz.underlying46 h1
      obtain ⟨x2, rfl⟩ := fits_str Tryz.underlying9 h2
      obtain ⟨x3, rfl⟩ := fits_str Tryz.underlying9 h3
      obtain ⟨rows4, rfl, hr4⟩ := fits_slice (n := 6) (B := 64) Tryz.underlying47 (by kernel_rfl) (by kernel_rfl) h4
      obtain ⟨rows5, rfl, hr5⟩ := fits_slice (n := 7) (B := 120) Tryz.underlying48 (by kernel_rfl) (by kernel_rfl) h5
      obtain ⟨rows6, rfl, hr6⟩ := fits_slice (n := 7) (B := 120) Tryz.underlying48 (by kernel_rfl) (by kernel_rfl) h6
      obtain ⟨x7, rfl⟩ := fits_int Tryz.underlying3 h7
      obtain ⟨x4, rfl⟩ := (expr_fits _).2 rows4 (Nat.lt_succ_self _) hr4
      obtain ⟨x5, rfl⟩ := ih.2 rows5 (by simp at hn; omega) hr5
      obtain ⟨x6, rfl⟩ := ih.2 rows6 (by simp at hn; omega) hr6
      exact ⟨.mk x1 x2 x3 x4 x5 x6 x7, rfl⟩
    · cases h with
      | nil => exact ⟨[], rfl⟩
      | cons h1 h2 =>
        simp at hn
        obtain ⟨e, rfl⟩ := ih.1 _ (by omega) h1
        obtain ⟨l, rfl⟩ := ih.2 _ (by omega) h2
        exact ⟨e :: l, rfl⟩
theorem thread_fits {l : List Tr} (h : Fits PP 52 l) : ∃ d : Thread, l = d.cells := by
  obtain ⟨a, r1, rfl, h1, q1⟩ := fitsL_cons (fits_struct Tryz.underlying52 rfl h)
  obtain ⟨b, r2, rfl, h2, q2⟩ := fitsL_cons q1
  obtain ⟨c, r3, rfl, h3, q3⟩ := fitsL_cons q2
  obtain ⟨d, r4, rfl, h4, q4⟩ := fitsL_cons q3
  obtain rfl := fitsL_nil q4
  obtain ⟨s, rfl⟩ := fits_str Tryz.underlying9 h1
  obtain ⟨ls, rfl⟩ := decls_fits h2
  obtain ⟨rows, rfl, hr⟩ := fits_slice (n := 7) (B := 120) Tryz.underlying48 (by kernel_rfl) (by kernel_rfl) h3
  obtain ⟨n, rfl⟩ := fits_int Tryz.underlying3 h4
  obtain ⟨b, rfl⟩ := (stmt_fits _).2 rows (Nat.lt_succ_self _) hr
  exact ⟨⟨s, ls, b, n⟩, rfl⟩
theorem prg_fits {l : List Tr} (h : Fits PP 25 l) : ∃ p : Prg, l = [declsT p.shared, declsT p.locks, threadsT p.threads] := by
  obtain ⟨a, r1, rfl, h1, q1⟩ := fitsL_cons (fits_struct Tryz.underlying25 rfl h)
  obtain ⟨b, r2, rfl, h2, q2⟩ := fitsL_cons q1
  obtain ⟨c, r3, rfl, h3, q3⟩ := fitsL_cons q2
  obtain rfl := fitsL_nil q3
  obtain ⟨x, rfl⟩ := decls_fits h1
  obtain ⟨y, rfl⟩ := decls_fits h2
  obtain ⟨rows, rfl, hr⟩ := fits_slice (n := 4) (B := 72) Tryz.underlying23 (by kernel_rfl) (by kernel_rfl) h3
  obtain ⟨z, rfl⟩ := fitsR_all (fun r h => thread_fits h) hr
  exact ⟨⟨x, y, z⟩, rfl⟩
def progTypes : List Nat := [25, 22, 23, 64, 9, 2, 3, 52, 48, 50, 46, 47, 62, 59, 60]
theorem prog_closed : closedB PP progTypes = true := by kernel_rfl
set_option maxRecDepth 100000 in
/-- an argument of type Program -/
theorem open_prg {H : Type} {enc : TypeId × Value → H} {W : World} {v : Value} {d : DataW H} {ps : List MemPlace} (hv : Value.okWide PP W .any 0 25 v ∨ ∃ cs, v = .agg cs) (h : DataW.Trod enc PP W 0 (fun _ => true) true 25 v d ps)
    (hw : (d.weights PP 25).all (· ≤ reachBytes) = true) (hp : ∀ x ∈ ps, x.block < W.heap.size) : ∃ p : Prg, Rep gh0 W v p.av := by
  obtain ⟨cs, rfl⟩ : ∃ cs, v = .agg cs := by
    rcases hv with hv | hv
    · unfold Value.okWide at hv
      rw [Tryz.underlying25] at hv
      obtain ⟨cs, rfl, _⟩ := hv
      exact ⟨cs, rfl⟩
    · exact hv
  obtain ⟨fuel, hf⟩ := h
  obtain ⟨trs, h1, h2⟩ := read (ok := okB gh0 W) prog_closed (fun b hb => gh0_ok hb) fuel _ _ _ _ (by decide) hf hw hp
  obtain ⟨p, rfl⟩ := prg_fits h1
  refine ⟨p, .agg (h2.1 : cs.size = 3) (fun a ha => ?_) (fun i c a e1 e2 => ?_)⟩
  · simp only [List.mem_cons, List.not_mem_nil, or_false] at ha
    rcases ha with rfl | rfl | rfl <;> rfl
  · have e1 := arr_get e1
    match i, e2 with
    | 0, e2 => cases e2; exact .tr (h2.2 0 c _ e1 rfl)
    | 1, e2 => cases e2; exact .tr (h2.2 1 c _ e1 rfl)
    | 2, e2 => cases e2; exact .tr (h2.2 2 c _ e1 rfl)
end Go.Proofs.YtbpcbhmdjphodaaGreat.am

namespace Go.Proofs.YtbpcbhmdjphodaaGreat.am
open Go Go.Proofs
theorem kFaults (p : Prg) : K 6 [p.av] [] (.ret (.tr (tb true))) [] := by
  refine Ctr.of hT hmix Tryz.func6 rfl (fun _ _ => by kernel_rfl) rfl fun hok => ?_
  clear hok
  have h10 := k10 p
  rw [check_eq] at h10
  have h11 := k11 p
  generalize checkF p = c at h10 h11
  obtain ⟨a, b, r⟩ := c
  conv => whnf
  refine acall.pure _ (k9 p) rfl rfl fun _ => ?_
  conv => whnf
  refine acall.pure _ (h10) rfl rfl fun _ => ?_
  conv => whnf
  refine acall.pure _ (h11) rfl rfl fun _ => ?_
  conv => whnf
  refine acall.pure _ (k_lives) rfl rfl fun _ => ?_
  conv => whnf
  refine csplit (fun h1 => ?_) (fun h1 => ?_)
  · conv => whnf
    refine csplit (fun h2 => ?_) (fun h2 => ?_)
    · conv => whnf
      refine acall.pure _ (k13 p) rfl rfl fun _ => ?_
      conv => whnf
      exact ⟨Or.inl rfl, trivial⟩
    · exact absurd h2 (by simp)
  · exact absurd h1 (by simp)
end Go.Proofs.YtbpcbhmdjphodaaGreat.am

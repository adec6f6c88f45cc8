/- Plain: renaming in trees. No program of the seat. Contracts: copies that one's own slices are made of. Contracts: a program's copy, as slices of one's own. Contracts: renaming in place, the reference's and check's. Contracts: the reference's Touches. Contracts: whether a name stands in a program. Contracts: Rename of both. -/
import Derived.Test.YtbpcbhmdjphodaaH1
import Derived.Test.YtbpcbhmdjphodaaH3
import Derived.Test.YtbpcbhmdjphodaaH4
import Derived.Test.YtbpcbhmdjphodaaH2
set_option linter.all false

namespace Go.Proofs.Ytbpcbhmdjphodaa.am
open Go
def ren (o n s : ByteArray) : ByteArray := bif seq s o then n else s
mutual
def Expr.ren (o n : ByteArray) : Expr → Expr
  | .mk kind op word name kids at_ => .mk kind op word (am.ren o n name) (Expr.renL o n kids) at_
def Expr.renL (o n : ByteArray) : List Expr → List Expr
  | [] => []
  | e :: l => Expr.ren o n e :: Expr.renL o n l
end
mutual
def Stmt.ren (o n : ByteArray) : Stmt → Stmt
  | .mk kind name other e body els at_ => .mk kind (am.ren o n name) (am.ren o n other) (Expr.renL o n e) (Stmt.renL o n body) (Stmt.renL o n els) at_
def Stmt.renL (o n : ByteArray) : List Stmt → List Stmt
  | [] => []
  | e :: l => Stmt.ren o n e :: Stmt.renL o n l
end
theorem Expr.renL_eq (o n : ByteArray) : ∀ l : List Expr, Expr.renL o n l = l.map (Expr.ren o n)
  | [] => rfl
  | e :: l => by simp only [Expr.renL, List.map_cons, Expr.renL_eq o n l]
theorem Stmt.renL_eq (o n : ByteArray) : ∀ l : List Stmt, Stmt.renL o n l = l.map (Stmt.ren o n)
  | [] => rfl
  | e :: l => by simp only [Stmt.renL, List.map_cons, Stmt.renL_eq o n l]
def Decl.ren (o n : ByteArray) (d : Decl) : Decl := ⟨am.ren o n d.name, d.word, d.at_⟩
def Thread.ren (o n : ByteArray) (t : Thread) : Thread := ⟨am.ren o n t.name, t.locals.map (Decl.ren o n), Stmt.renL o n t.body, t.at_⟩
def Prg.ren (o n : ByteArray) (p : Prg) : Prg := ⟨p.shared.map (Decl.ren o n), p.locks.map (Decl.ren o n), p.threads.map (Thread.ren o n)⟩
/-- the first i of a list are turned -/
def upto {α : Type} (f : α → α) (i : Nat) (l : List α) : List α := (l.take i).map f ++ l.drop i
theorem upto_len {α : Type} (f : α → α) (i : Nat) (l : List α) : (upto f i l).length = l.length := by
  unfold upto; simp; omega
theorem upto_zero {α : Type} (f : α → α) (l : List α) : upto f 0 l = l := by simp [upto]
theorem upto_all {α : Type} {f : α → α} {i : Nat} {l : List α} (h : l.length ≤ i) : upto f i l = l.map f := by
  unfold upto; rw [List.take_of_length_le h, List.drop_of_length_le h, List.append_nil]
theorem upto_get {α : Type} {f : α → α} {i : Nat} {l : List α} {d : α} (h : l[i]? = some d) : (upto f i l)[i]? = some d := by
  have hl := (List.getElem?_eq_some_iff.1 h).1
  have h1 : ((l.take i).map f).length = i := by simp; omega
  unfold upto
  rw [List.getElem?_append_right (by omega), h1, Nat.sub_self, List.getElem?_drop, Nat.add_zero, h]
theorem upto_set {α : Type} {f : α → α} {i : Nat} {l : List α} {d : α} (h : l[i]? = some d) : (upto f i l).set i (f d) = upto f (i + 1) l := by
  have hl := (List.getElem?_eq_some_iff.1 h).1
  have h1 : ((l.take i).map f).length = i := by simp; omega
  unfold upto
  rw [List.set_append_right _ _ (by omega), h1, Nat.sub_self, drop_cons h, List.set_cons_zero, take_snoc h, List.map_append, List.append_assoc]
  rfl
theorem erow_get {f : Expr → Expr} {i : Nat} {l : List Expr} {d : Expr} (h : l[i]? = some d) {row : List Tr} (hr : (Expr.rows (upto f i l))[i]? = some row) : row = d.cells := by
  rw [Expr.rows_eq, List.getElem?_map, upto_get h] at hr
  exact (Option.some.inj hr).symm
theorem srow_get {f : Stmt → Stmt} {i : Nat} {l : List Stmt} {d : Stmt} (h : l[i]? = some d) {row : List Tr} (hr : (Stmt.rows (upto f i l))[i]? = some row) : row = d.cells := by
  rw [Stmt.rows_eq, List.getElem?_map, upto_get h] at hr
  exact (Option.some.inj hr).symm
theorem mrow_get {α : Type} {c : α → List Tr} {f : α → α} {i : Nat} {l : List α} {d : α} (h : l[i]? = some d) {row : List Tr} (hr : ((upto f i l).map c)[i]? = some row) : row = c d := by
  rw [List.getElem?_map, upto_get h] at hr
  exact (Option.some.inj hr).symm
theorem erow_set {f : Expr → Expr} {i : Nat} {l : List Expr} {d : Expr} (h : l[i]? = some d) {row : List Tr} (hr : row = (f d).cells) : (Expr.rows (upto f i l)).set i row = Expr.rows (upto f (i + 1) l) := by
  rw [← upto_set h, Expr.rows_eq, Expr.rows_eq, hr, List.map_set]
theorem srow_set {f : Stmt → Stmt} {i : Nat} {l : List Stmt} {d : Stmt} (h : l[i]? = some d) {row : List Tr} (hr : row = (f d).cells) : (Stmt.rows (upto f i l)).set i row = Stmt.rows (upto f (i + 1) l) := by
  rw [← upto_set h, Stmt.rows_eq, Stmt.rows_eq, hr, List.map_set]
theorem mrow_set {α : Type} {c : α → List Tr} {f : α → α} {i : Nat} {l : List α} {d : α} (h : l[i]? = some d) {row : List Tr} (hr : row = c (f d)) : ((upto f i l).map c).set i row = (upto f (i + 1) l).map c := by
  rw [← upto_set h, hr, List.map_set]
theorem set_get {rows : List (List Tr)} {i : Nat} {r row : List Tr} (hi : i < rows.length) (h : (rows.set i r)[i]? = some row) : row = r := by
  rw [List.getElem?_set_self hi] at h; exact (Option.some.inj h).symm
theorem setC_set {rows : List (List Tr)} {i j : Nat} {r : List Tr} {t : Tr} (hi : i < rows.length) : setC (rows.set i r) i j t = rows.set i (r.set j t) := by
  unfold setC
  rw [List.getElem?_set_self hi, List.set_set]
  rfl
theorem SOk.own {s : AS} (h : SOk s) (i : Nat) {n B : Nat} {rows : List (List Tr)} {ln : List ((Nat × Nat) × (Nat × Nat))} (hi : s.m i = some (.own n B rows ln)) : rows.length * B ≤ 140737488351232 ∧ rows.length ≤ 9223372036854775807 := by
  obtain ⟨g, w, hm, _⟩ := h
  obtain ⟨lc, _, hB, hn, hv⟩ := hm.blk i _ hi
  refine ⟨hB, ?_⟩
  rcases hv with ⟨_, rfl⟩ | ⟨b, cap, cur, e, Fs, _, q1, q2, q3, _⟩
  · simp
  · omega
theorem one_some {α : Type} {x t : α} (h : some x = some t) : t = x := (Option.some.inj h).symm
end Go.Proofs.Ytbpcbhmdjphodaa.am

namespace Go.Proofs.Ytbpcbhmdjphodaa.am
open Go Go.Proofs
theorem setC_snoc {a : List (List Tr)} {r : List Tr} {i j : Nat} {t : Tr} (h : a.length = i) : setC (a ++ [r]) (i + 0) j t = a ++ [r.set j t] := by
  subst h
  unfold setC
  rw [Nat.add_zero, List.getElem?_append_right (Nat.le_refl _), Nat.sub_self, List.set_append_right _ _ (Nat.le_refl _), Nat.sub_self]
  rfl
theorem o89 : ∀ (n : Nat) (l : List Expr), SizeOf.sizeOf l < n → K 89 [.tr (exprsT l)] [] (.ret (.sl 0 l.length)) [some (.own 6 64 (Expr.rows l) [])] := by
  intro n
  induction n with
  | zero => intro l h; omega
  | succ n ih =>
  intro l hsz
  refine Ctr.new [] hT hmix Try.func89 rfl (fun _ _ => by kernel_rfl) rfl fun hok => ?_
  obtain ⟨hB, hl, _⟩ := (hok.slot 0 rfl).tr.lst
  rw [erows_len] at hl hB
  clear hok
  conv => whnf
  refine LoopL.by (fun i : Nat => ⟨[(3, .sl 0 i), (6, .tr (exprsT l)), (7, .tr (ti (Expr.rows l).length)), (8, .tr (ti i))], [(0, .own 6 64 ((Expr.rows l).take i) [])], 1⟩)
    (fun i => i ≤ l.length) (fun i => l.length - i) 0 [] [0] (Sub.mk' rfl ⟨⟨rfl, rfl, rfl, rfl⟩, .inl rfl, .inl rfl, .inl rfl, trivial⟩ ⟨⟨rfl, rfl, rfl, by omega⟩, trivial⟩ rfl rfl) (Nat.zero_le _) ?_
  intro i hi _
  conv => whnf
  refine csplit (fun hlt => ?_) (fun hge => ?_)
  · have hlt : i < l.length := by rw [erows_len] at hlt; simpa using hlt
    conv => whnf
    refine ⟨rfl, by omega, by rw [erows_len]; omega, fun row hrow => ?_⟩
    obtain ⟨d, hd, rfl⟩ := erows_get hrow
    replace hd : l[i]? = some d := hd
    clear hrow
    have hsn := rows_snoc hd
    have hs1 := size_kid hd
    obtain ⟨k1, k2, k3, k4, k5, k6⟩ := d
    simp only [Expr.mk.sizeOf_spec] at hs1
    conv => whnf
    refine acall.new [] [] _ _ _ _ (ih k5 (by omega)) rfl rfl rfl rfl (by repeat' (first | exact trivial | exact Or.inl (ti_succ (by assumption) (by assumption)) | exact Or.inl rfl | exact rfl | exact Nat.le_refl _ | apply And.intro)) (by repeat' (first | exact trivial | exact Or.inl (ti_succ (by assumption) (by assumption)) | exact Or.inl rfl | exact rfl | exact Nat.le_refl _ | apply And.intro)) rfl rfl fun _ => ?_
    conv => whnf
    refine ⟨by rw [List.length_take, erows_len]; omega, rfl, Nat.le_refl _, by show (i + 1) * 64 ≤ 140737488351232; omega, trivial, trivial, trivial, ?_⟩
    conv => whnf
    have hti : (List.take i (Expr.rows l)).length = i := by rw [List.length_take, erows_len]; omega
    refine ⟨i + 1, [14], [], Sub.pk [14] ?_, hlt, by omega⟩
    conv => whnf
    refine ⟨rfl, rfl, by rw [erows_len]; exact Nat.le_refl _, ?_⟩
    refine Sub0.mk' rfl ⟨⟨rfl, rfl⟩, .inl rfl, .inl rfl, .inl (ti_succ hlt hl), trivial⟩ ⟨⟨rfl, rfl, rfl, rfl, .inl ?_⟩, trivial⟩ rfl rfl
    rw [← hsn, List.take_take, Nat.min_self]
    refine (setC_snoc hti).trans ?_
    rw [List.take_of_length_le (l := Expr.rows k5) (by rw [erows_len]; exact Nat.le_refl _)]
    rfl
  · have hge : l.length ≤ i := by rw [erows_len] at hge; simpa using hge
    conv => whnf
    refine ⟨fun _ => ?_, fun h => absurd rfl h⟩
    conv => whnf
    exact ⟨[0], rfl, rfl, ⟨rfl, by omega⟩, ⟨rfl, rfl, rfl, rfl, .inl (List.take_of_length_le (by rw [erows_len]; exact hge))⟩, trivial⟩
theorem o53 : ∀ (n : Nat) (l : List Expr), SizeOf.sizeOf l < n → K 53 [.tr (exprsT l)] [] (.ret (.sl 0 l.length)) [some (.own 6 64 (Expr.rows l) [])] := by
  intro n
  induction n with
  | zero => intro l h; omega
  | succ n ih =>
  intro l hsz
  refine Ctr.new [] hT hmix Try.func53 rfl (fun _ _ => by kernel_rfl) rfl fun hok => ?_
  obtain ⟨hB, hl, _⟩ := (hok.slot 0 rfl).tr.lst
  rw [erows_len] at hl hB
  clear hok
  conv => whnf
  refine LoopL.by (fun i : Nat => ⟨[(3, .sl 0 i), (6, .tr (exprsT l)), (7, .tr (ti (Expr.rows l).length)), (8, .tr (ti i))], [(0, .own 6 64 ((Expr.rows l).take i) [])], 1⟩)
    (fun i => i ≤ l.length) (fun i => l.length - i) 0 [] [0] (Sub.mk' rfl ⟨⟨rfl, rfl, rfl, rfl⟩, .inl rfl, .inl rfl, .inl rfl, trivial⟩ ⟨⟨rfl, rfl, rfl, by omega⟩, trivial⟩ rfl rfl) (Nat.zero_le _) ?_
  intro i hi _
  conv => whnf
  refine csplit (fun hlt => ?_) (fun hge => ?_)
  · have hlt : i < l.length := by rw [erows_len] at hlt; simpa using hlt
    conv => whnf
    refine ⟨rfl, by omega, by rw [erows_len]; omega, fun row hrow => ?_⟩
    obtain ⟨d, hd, rfl⟩ := erows_get hrow
    replace hd : l[i]? = some d := hd
    clear hrow
    have hsn := rows_snoc hd
    have hs1 := size_kid hd
    obtain ⟨k1, k2, k3, k4, k5, k6⟩ := d
    simp only [Expr.mk.sizeOf_spec] at hs1
    conv => whnf
    refine acall.new [] [] _ _ _ _ (ih k5 (by omega)) rfl rfl rfl rfl (by repeat' (first | exact trivial | exact Or.inl (ti_succ (by assumption) (by assumption)) | exact Or.inl rfl | exact rfl | exact Nat.le_refl _ | apply And.intro)) (by repeat' (first | exact trivial | exact Or.inl (ti_succ (by assumption) (by assumption)) | exact Or.inl rfl | exact rfl | exact Nat.le_refl _ | apply And.intro)) rfl rfl fun _ => ?_
    conv => whnf
    refine ⟨by rw [List.length_take, erows_len]; omega, rfl, Nat.le_refl _, by show (i + 1) * 64 ≤ 140737488351232; omega, trivial, trivial, trivial, ?_⟩
    conv => whnf
    have hti : (List.take i (Expr.rows l)).length = i := by rw [List.length_take, erows_len]; omega
    refine ⟨i + 1, [14], [], Sub.pk [14] ?_, hlt, by omega⟩
    conv => whnf
    refine ⟨rfl, rfl, by rw [erows_len]; exact Nat.le_refl _, ?_⟩
    refine Sub0.mk' rfl ⟨⟨rfl, rfl⟩, .inl rfl, .inl rfl, .inl (ti_succ hlt hl), trivial⟩ ⟨⟨rfl, rfl, rfl, rfl, .inl ?_⟩, trivial⟩ rfl rfl
    rw [← hsn, List.take_take, Nat.min_self]
    refine (setC_snoc hti).trans ?_
    rw [List.take_of_length_le (l := Expr.rows k5) (by rw [erows_len]; exact Nat.le_refl _)]
    rfl
  · have hge : l.length ≤ i := by rw [erows_len] at hge; simpa using hge
    conv => whnf
    refine ⟨fun _ => ?_, fun h => absurd rfl h⟩
    conv => whnf
    exact ⟨[0], rfl, rfl, ⟨rfl, by omega⟩, ⟨rfl, rfl, rfl, rfl, .inl (List.take_of_length_le (by rw [erows_len]; exact hge))⟩, trivial⟩
theorem o28 : ∀ (n : Nat) (l : List Stmt), SizeOf.sizeOf l < n → K 28 [.tr (stmtsT l)] [] (.ret (.sl 0 l.length)) [some (.own 7 120 (Stmt.rows l) [])] := by
  intro n
  induction n with
  | zero => intro l h; omega
  | succ n ih =>
  intro l hsz
  refine Ctr.new [] hT hmix Try.func28 rfl (fun _ _ => by kernel_rfl) rfl fun hok => ?_
  obtain ⟨hB, hl, _⟩ := (hok.slot 0 rfl).tr.lst
  rw [srows_len] at hl hB
  clear hok
  conv => whnf
  refine LoopL.by (fun i : Nat => ⟨[(3, .sl 0 i), (6, .tr (stmtsT l)), (7, .tr (ti (Stmt.rows l).length)), (8, .tr (ti i))], [(0, .own 7 120 ((Stmt.rows l).take i) [])], 1⟩)
    (fun i => i ≤ l.length) (fun i => l.length - i) 0 [] [0] (Sub.mk' rfl ⟨⟨rfl, rfl, rfl, rfl⟩, .inl rfl, .inl rfl, .inl rfl, trivial⟩ ⟨⟨rfl, rfl, rfl, by omega⟩, trivial⟩ rfl rfl) (Nat.zero_le _) ?_
  intro i hi _
  conv => whnf
  refine csplit (fun hlt => ?_) (fun hge => ?_)
  · have hlt : i < l.length := by rw [srows_len] at hlt; simpa using hlt
    conv => whnf
    refine ⟨rfl, by omega, by rw [srows_len]; omega, fun row hrow => ?_⟩
    obtain ⟨d, hd, rfl⟩ := srows_get hrow
    replace hd : l[i]? = some d := hd
    clear hrow
    have hsn := srows_snoc hd
    have hs1 := size_kid2 hd
    obtain ⟨k1, k2, k3, k4, k5, k6, k7⟩ := d
    simp only [Stmt.mk.sizeOf_spec] at hs1
    conv => whnf
    refine acall.new [] [] _ _ _ _ (o53 (SizeOf.sizeOf k4 + 1) k4 (by omega)) rfl rfl rfl rfl (by repeat' (first | exact trivial | exact Or.inl (ti_succ (by assumption) (by assumption)) | exact Or.inl rfl | exact rfl | exact Nat.le_refl _ | apply And.intro)) (by repeat' (first | exact trivial | exact Or.inl (ti_succ (by assumption) (by assumption)) | exact Or.inl rfl | exact rfl | exact Nat.le_refl _ | apply And.intro)) rfl rfl fun _ => ?_
    conv => whnf
    refine acall.new [] [] _ _ _ _ (ih k5 (by omega)) rfl rfl rfl rfl (by repeat' (first | exact trivial | exact Or.inl (ti_succ (by assumption) (by assumption)) | exact Or.inl rfl | exact rfl | exact Nat.le_refl _ | apply And.intro)) (by repeat' (first | exact trivial | exact Or.inl (ti_succ (by assumption) (by assumption)) | exact Or.inl rfl | exact rfl | exact Nat.le_refl _ | apply And.intro)) rfl rfl fun _ => ?_
    conv => whnf
    refine acall.new [] [] _ _ _ _ (ih k6 (by omega)) rfl rfl rfl rfl (by repeat' (first | exact trivial | exact Or.inl (ti_succ (by assumption) (by assumption)) | exact Or.inl rfl | exact rfl | exact Nat.le_refl _ | apply And.intro)) (by repeat' (first | exact trivial | exact Or.inl (ti_succ (by assumption) (by assumption)) | exact Or.inl rfl | exact rfl | exact Nat.le_refl _ | apply And.intro)) rfl rfl fun _ => ?_
    conv => whnf
    refine ⟨by rw [List.length_take, srows_len]; omega, rfl, Nat.le_refl _, by show (i + 1) * 120 ≤ 140737488351232; omega, trivial, trivial, trivial, ?_⟩
    conv => whnf
    have hti : (List.take i (Stmt.rows l)).length = i := by rw [List.length_take, srows_len]; omega
    refine ⟨i + 1, [24], [], Sub.pk [24, 24, 24] ?_, hlt, by omega⟩
    conv => whnf
    refine ⟨rfl, rfl, by rw [erows_len]; exact Nat.le_refl _, ?_⟩
    conv => whnf
    refine ⟨rfl, rfl, by rw [srows_len]; exact Nat.le_refl _, ?_⟩
    conv => whnf
    refine ⟨rfl, rfl, by rw [srows_len]; exact Nat.le_refl _, ?_⟩
    refine Sub0.mk' rfl ⟨⟨rfl, rfl⟩, .inl rfl, .inl rfl, .inl (ti_succ hlt hl), trivial⟩ ⟨⟨rfl, rfl, rfl, rfl, .inl ?_⟩, trivial⟩ rfl rfl
    rw [← hsn, List.take_take, Nat.min_self]
    refine (congrArg (fun r => setC (setC r _ _ _) _ _ _) (setC_snoc hti)).trans ((congrArg (fun r => setC r _ _ _) (setC_snoc hti)).trans ((setC_snoc hti).trans ?_))
    rw [List.take_of_length_le (l := Expr.rows k4) (by rw [erows_len]; exact Nat.le_refl _), List.take_of_length_le (l := Stmt.rows k5) (by rw [srows_len]; exact Nat.le_refl _), List.take_of_length_le (l := Stmt.rows k6) (by rw [srows_len]; exact Nat.le_refl _)]
    rfl
  · have hge : l.length ≤ i := by rw [srows_len] at hge; simpa using hge
    conv => whnf
    refine ⟨fun _ => ?_, fun h => absurd rfl h⟩
    conv => whnf
    exact ⟨[0], rfl, rfl, ⟨rfl, by omega⟩, ⟨rfl, rfl, rfl, rfl, .inl (List.take_of_length_le (by rw [srows_len]; exact hge))⟩, trivial⟩
theorem o74 : ∀ (n : Nat) (l : List Stmt), SizeOf.sizeOf l < n → K 74 [.tr (stmtsT l)] [] (.ret (.sl 0 l.length)) [some (.own 7 120 (Stmt.rows l) [])] := by
  intro n
  induction n with
  | zero => intro l h; omega
  | succ n ih =>
  intro l hsz
  refine Ctr.new [] hT hmix Try.func74 rfl (fun _ _ => by kernel_rfl) rfl fun hok => ?_
  obtain ⟨hB, hl, _⟩ := (hok.slot 0 rfl).tr.lst
  rw [srows_len] at hl hB
  clear hok
  conv => whnf
  refine LoopL.by (fun i : Nat => ⟨[(3, .sl 0 i), (6, .tr (stmtsT l)), (7, .tr (ti (Stmt.rows l).length)), (8, .tr (ti i))], [(0, .own 7 120 ((Stmt.rows l).take i) [])], 1⟩)
    (fun i => i ≤ l.length) (fun i => l.length - i) 0 [] [0] (Sub.mk' rfl ⟨⟨rfl, rfl, rfl, rfl⟩, .inl rfl, .inl rfl, .inl rfl, trivial⟩ ⟨⟨rfl, rfl, rfl, by omega⟩, trivial⟩ rfl rfl) (Nat.zero_le _) ?_
  intro i hi _
  conv => whnf
  refine csplit (fun hlt => ?_) (fun hge => ?_)
  · have hlt : i < l.length := by rw [srows_len] at hlt; simpa using hlt
    conv => whnf
    refine ⟨rfl, by omega, by rw [srows_len]; omega, fun row hrow => ?_⟩
    obtain ⟨d, hd, rfl⟩ := srows_get hrow
    replace hd : l[i]? = some d := hd
    clear hrow
    have hsn := srows_snoc hd
    have hs1 := size_kid2 hd
    obtain ⟨k1, k2, k3, k4, k5, k6, k7⟩ := d
    simp only [Stmt.mk.sizeOf_spec] at hs1
    conv => whnf
    refine acall.new [] [] _ _ _ _ (o89 (SizeOf.sizeOf k4 + 1) k4 (by omega)) rfl rfl rfl rfl (by repeat' (first | exact trivial | exact Or.inl (ti_succ (by assumption) (by assumption)) | exact Or.inl rfl | exact rfl | exact Nat.le_refl _ | apply And.intro)) (by repeat' (first | exact trivial | exact Or.inl (ti_succ (by assumption) (by assumption)) | exact Or.inl rfl | exact rfl | exact Nat.le_refl _ | apply And.intro)) rfl rfl ?_
    conv => whnf
    refine acall.new [] [] _ _ _ _ (ih k5 (by omega)) rfl rfl rfl rfl (by repeat' (first | exact trivial | exact Or.inl (ti_succ (by assumption) (by assumption)) | exact Or.inl rfl | exact rfl | exact Nat.le_refl _ | apply And.intro)) (by repeat' (first | exact trivial | exact Or.inl (ti_succ (by assumption) (by assumption)) | exact Or.inl rfl | exact rfl | exact Nat.le_refl _ | apply And.intro)) rfl rfl ?_
    conv => whnf
    refine acall.new [] [] _ _ _ _ (ih k6 (by omega)) rfl rfl rfl rfl (by repeat' (first | exact trivial | exact Or.inl (ti_succ (by assumption) (by assumption)) | exact Or.inl rfl | exact rfl | exact Nat.le_refl _ | apply And.intro)) (by repeat' (first | exact trivial | exact Or.inl (ti_succ (by assumption) (by assumption)) | exact Or.inl rfl | exact rfl | exact Nat.le_refl _ | apply And.intro)) rfl rfl ?_
    conv => whnf
    refine ⟨by kernel_rfl, fun _ => ?_⟩
    conv => whnf
    refine ⟨by rw [List.length_take, srows_len]; omega, rfl, Nat.le_refl _, by show (i + 1) * 120 ≤ 140737488351232; omega, trivial, trivial, trivial, ?_⟩
    conv => whnf
    have hti : (List.take i (Stmt.rows l)).length = i := by rw [List.length_take, srows_len]; omega
    refine ⟨i + 1, [24], [], Sub.pk [24, 24, 24] ?_, hlt, by omega⟩
    conv => whnf
    refine ⟨rfl, rfl, by rw [erows_len]; exact Nat.le_refl _, ?_⟩
    conv => whnf
    refine ⟨rfl, rfl, by rw [srows_len]; exact Nat.le_refl _, ?_⟩
    conv => whnf
    refine ⟨rfl, rfl, by rw [srows_len]; exact Nat.le_refl _, ?_⟩
    refine Sub0.mk' rfl ⟨⟨rfl, rfl⟩, .inl rfl, .inl rfl, .inl (ti_succ hlt hl), trivial⟩ ⟨⟨rfl, rfl, rfl, rfl, .inl ?_⟩, trivial⟩ rfl rfl
    rw [← hsn, List.take_take, Nat.min_self]
    refine (congrArg (fun r => setC (setC r _ _ _) _ _ _) (setC_snoc hti)).trans ((congrArg (fun r => setC r _ _ _) (setC_snoc hti)).trans ((setC_snoc hti).trans ?_))
    rw [List.take_of_length_le (l := Expr.rows k4) (by rw [erows_len]; exact Nat.le_refl _), List.take_of_length_le (l := Stmt.rows k5) (by rw [srows_len]; exact Nat.le_refl _), List.take_of_length_le (l := Stmt.rows k6) (by rw [srows_len]; exact Nat.le_refl _)]
    rfl
  · have hge : l.length ≤ i := by rw [srows_len] at hge; simpa using hge
    conv => whnf
    refine ⟨fun _ => ?_, fun h => absurd rfl h⟩
    conv => whnf
    exact ⟨[0], rfl, rfl, ⟨rfl, by omega⟩, ⟨rfl, rfl, rfl, rfl, .inl (List.take_of_length_le (by rw [srows_len]; exact hge))⟩, trivial⟩
end Go.Proofs.Ytbpcbhmdjphodaa.am

namespace Go.Proofs.Ytbpcbhmdjphodaa.am
open Go Go.Proofs
theorem decl_leaf (l : List Decl) : leafR (l.map Decl.cells) := by
  intro row hr t ht
  obtain ⟨d, _, rfl⟩ := List.mem_map.1 hr
  simp only [Decl.cells, List.mem_cons, List.not_mem_nil, or_false] at ht
  rcases ht with rfl | rfl | rfl <;> exact ⟨_, rfl⟩
theorem o27 (l : List Decl) : K 27 [.tr (declsT l)] [] (.ret (.sl 0 l.length)) [some (.own 3 32 (l.map Decl.cells) [])] := by
  refine Ctr.new [] hT hmix Try.func27 rfl (fun _ _ => by kernel_rfl) rfl fun hok => ?_
  obtain ⟨hB, _, _⟩ := (hok.slot 0 rfl).tr.lst
  clear hok
  conv => whnf
  refine ⟨hB, ?_⟩
  conv => whnf
  exact ⟨[4], rfl, rfl, ⟨rfl, List.length_map ..⟩, ⟨rfl, rfl, rfl, decl_leaf l, .inl rfl⟩, trivial⟩
def Prg.ob (p : Prg) : List (Option Blk) := [some (.own 3 32 (p.shared.map Decl.cells) []), some (.own 3 32 (p.locks.map Decl.cells) []), some (.own 4 72 (p.threads.map Thread.cells) [])]
def Prg.oav (p : Prg) (h : Nat) : AV := .agg [.sl h p.shared.length, .sl (h + 1) p.locks.length, .sl (h + 2) p.threads.length]
theorem o9 (p : Prg) : K 9 [p.av] [] (.ret (.agg [.sl 0 p.shared.length, .sl 1 p.locks.length, .sl 2 p.threads.length])) [some (.own 3 32 (p.shared.map Decl.cells) []), some (.own 3 32 (p.locks.map Decl.cells) []), some (.own 4 72 (p.threads.map Thread.cells) [])] := by
  refine Ctr.new [] hT hmix Try.func9 rfl (fun _ _ => by kernel_rfl) rfl fun hok => ?_
  obtain ⟨hB, hl, _⟩ := ((hok.slot 0 rfl).agg _ (.tail _ (.tail _ (.head _)))).tr.lst
  obtain ⟨hB1, _, _⟩ := ((hok.slot 0 rfl).agg _ (.head _)).tr.lst
  obtain ⟨hB2, _, _⟩ := ((hok.slot 0 rfl).agg _ (.tail _ (.head _))).tr.lst
  rw [List.length_map] at hl hB
  have hB3 : ∀ (t : Thread), t ∈ p.threads → (t.locals.map Decl.cells).length * 32 ≤ 140737488351232 := fun t ht => by
    have := ((hok.slot 0 rfl).agg _ (.tail _ (.tail _ (.head _)))).tr.lst.2.2 _ (List.mem_map_of_mem ht)
    exact (this.2 (declsT t.locals) (by simp [Thread.cells])).lst.1
  clear hok
  conv => whnf
  refine acall.new [] [] _ _ _ _ (o27 p.shared) rfl rfl rfl rfl (by repeat' (first | exact trivial | exact Or.inl (ti_succ (by assumption) (by assumption)) | exact Or.inl rfl | exact rfl | exact Nat.le_refl _ | apply And.intro)) (by repeat' (first | exact trivial | exact Or.inl (ti_succ (by assumption) (by assumption)) | exact Or.inl rfl | exact rfl | exact Nat.le_refl _ | apply And.intro)) rfl rfl ?_
  conv => whnf
  refine acall.new [] [] _ _ _ _ (o27 p.locks) rfl rfl rfl rfl (by repeat' (first | exact trivial | exact Or.inl (ti_succ (by assumption) (by assumption)) | exact Or.inl rfl | exact rfl | exact Nat.le_refl _ | apply And.intro)) (by repeat' (first | exact trivial | exact Or.inl (ti_succ (by assumption) (by assumption)) | exact Or.inl rfl | exact rfl | exact Nat.le_refl _ | apply And.intro)) rfl rfl ?_
  conv => whnf
  refine ⟨by kernel_rfl, fun _ => ?_⟩
  conv => whnf
  refine LoopL.by (fun i : Nat => ⟨[(1, .ptr 0 0), (2, .ptr 1 0), (3, .ptr 2 0), (14, .tr (threadsT p.threads)), (15, .tr (ti (p.threads.map Thread.cells).length)), (16, .tr (ti i))],
      [(0, .cells 25 [.tr (declsT p.shared), .tr (declsT p.locks), .tr (threadsT p.threads)]), (1, .cells 25 [.tr tnil, .tr tnil, .tr tnil]), (2, .cells 25 [.sl 3 p.shared.length, .sl 4 p.locks.length, .sl 5 i]), (3, .own 3 32 (p.shared.map Decl.cells) []), (4, .own 3 32 (p.locks.map Decl.cells) []), (5, .own 4 72 ((p.threads.map Thread.cells).take i) [])], 6⟩)
    (fun i => i ≤ p.threads.length) (fun i => p.threads.length - i) 0 [0, 1, 9, 4, 7] [5]
    (Sub.mk' rfl ⟨⟨rfl, rfl⟩, ⟨rfl, rfl⟩, ⟨rfl, rfl⟩, .inl rfl, .inl rfl, .inl rfl, trivial⟩ ⟨⟨rfl, .inl rfl, .inl rfl, .inl rfl, trivial⟩, ⟨rfl, .inl rfl, .inl rfl, .inl rfl, trivial⟩, ⟨rfl, ⟨rfl, rfl⟩, ⟨rfl, rfl⟩, ⟨rfl, rfl, rfl, rfl⟩, trivial⟩, ⟨rfl, rfl, rfl, rfl, .inl rfl⟩, ⟨rfl, rfl, rfl, rfl, .inl rfl⟩, ⟨rfl, rfl, rfl, by omega⟩, trivial⟩ rfl rfl) (Nat.zero_le _) ?_
  intro i hi _
  conv => whnf
  refine csplit (fun hlt => ?_) (fun hge => ?_)
  · have hlt : i < p.threads.length := by rw [List.length_map] at hlt; simpa using hlt
    conv => whnf
    refine ⟨rfl, by omega, by rw [List.length_map]; omega, fun row hrow => ?_⟩
    obtain ⟨d, hd, rfl⟩ := map_get hrow
    replace hd : p.threads[i]? = some d := hd
    clear hrow
    have hsn := throws_snoc hd
    have hB4 := hB3 d (List.mem_of_getElem? hd)
    obtain ⟨name, ls, body, at_⟩ := d
    conv => whnf
    refine acall.new [] [] _ _ _ _ (o27 ls) rfl rfl rfl rfl (by repeat' (first | exact trivial | exact Or.inl (ti_succ (by assumption) (by assumption)) | exact Or.inl rfl | exact rfl | exact Nat.le_refl _ | apply And.intro)) (by repeat' (first | exact trivial | exact Or.inl (ti_succ (by assumption) (by assumption)) | exact Or.inl rfl | exact rfl | exact Nat.le_refl _ | apply And.intro)) rfl rfl fun _ => ?_
    conv => whnf
    refine acall.new [] [] _ _ _ _ (o28 (SizeOf.sizeOf body + 1) body (by omega)) rfl rfl rfl rfl (by repeat' (first | exact trivial | exact Or.inl (ti_succ (by assumption) (by assumption)) | exact Or.inl rfl | exact rfl | exact Nat.le_refl _ | apply And.intro)) (by repeat' (first | exact trivial | exact Or.inl (ti_succ (by assumption) (by assumption)) | exact Or.inl rfl | exact rfl | exact Nat.le_refl _ | apply And.intro)) rfl rfl fun _ => ?_
    conv => whnf
    refine ⟨by rw [List.length_take, List.length_map]; omega, rfl, Nat.le_refl _, by show (i + 1) * 72 ≤ 140737488351232; omega, trivial, trivial, trivial, ?_⟩
    conv => whnf
    have hti : (List.take i (p.threads.map Thread.cells)).length = i := by rw [List.length_take, List.length_map]; omega
    refine ⟨i + 1, [0, 1, 2, 3, 4, 25], [], Sub.pk [25, 25] ?_, hlt, by omega⟩
    conv => whnf
    refine ⟨rfl, rfl, (by rw [List.length_map]; exact Nat.le_refl _), ?_⟩
    conv => whnf
    refine ⟨rfl, rfl, by rw [srows_len]; exact Nat.le_refl _, ?_⟩
    refine Sub0.mk' rfl ⟨⟨rfl, rfl⟩, ⟨rfl, rfl⟩, ⟨rfl, rfl⟩, .inl rfl, .inl rfl, .inl (ti_succ hlt hl), trivial⟩ ⟨⟨rfl, .inl rfl, .inl rfl, .inl rfl, trivial⟩, ⟨rfl, .inl rfl, .inl rfl, .inl rfl, trivial⟩, ⟨rfl, ⟨rfl, rfl⟩, ⟨rfl, rfl⟩, ⟨rfl, rfl⟩, trivial⟩, ⟨rfl, rfl, rfl, rfl, .inl rfl⟩, ⟨rfl, rfl, rfl, rfl, .inl rfl⟩, ⟨rfl, rfl, rfl, rfl, .inl ?_⟩, trivial⟩ rfl rfl
    rw [← hsn, List.take_take, Nat.min_self]
    refine (congrArg (fun r => setC r _ _ _) (setC_snoc hti)).trans ((setC_snoc hti).trans ?_)
    rw [List.take_of_length_le (l := ls.map Decl.cells) (by rw [List.length_map]; exact Nat.le_refl _), List.take_of_length_le (l := Stmt.rows body) (by rw [srows_len]; exact Nat.le_refl _)]
    rfl
  · have hge : p.threads.length ≤ i := by rw [List.length_map] at hge; simpa using hge
    conv => whnf
    refine ⟨fun _ => ?_, fun h => absurd rfl h⟩
    conv => whnf
    exact ⟨[3, 4, 5], rfl, rfl, ⟨⟨rfl, rfl⟩, ⟨rfl, rfl⟩, ⟨rfl, by omega⟩, trivial⟩, ⟨rfl, rfl, rfl, rfl, .inl rfl⟩, ⟨rfl, rfl, rfl, rfl, .inl rfl⟩, ⟨rfl, rfl, rfl, rfl, .inl (List.take_of_length_le (by rw [List.length_map]; exact hge))⟩, trivial⟩
theorem o43 (p : Prg) : K 43 [p.av] [] (.ret (.agg [.sl 0 p.shared.length, .sl 1 p.locks.length, .sl 2 p.threads.length])) [some (.own 3 32 (p.shared.map Decl.cells) []), some (.own 3 32 (p.locks.map Decl.cells) []), some (.own 4 72 (p.threads.map Thread.cells) [])] := by
  refine Ctr.new [] hT hmix Try.func43 rfl (fun _ _ => by kernel_rfl) rfl fun hok => ?_
  obtain ⟨hB, hl, _⟩ := ((hok.slot 0 rfl).agg _ (.tail _ (.tail _ (.head _)))).tr.lst
  obtain ⟨hB1, _, _⟩ := ((hok.slot 0 rfl).agg _ (.head _)).tr.lst
  obtain ⟨hB2, _, _⟩ := ((hok.slot 0 rfl).agg _ (.tail _ (.head _))).tr.lst
  rw [List.length_map] at hl hB
  have hB3 : ∀ (t : Thread), t ∈ p.threads → (t.locals.map Decl.cells).length * 32 ≤ 140737488351232 := fun t ht => by
    have := ((hok.slot 0 rfl).agg _ (.tail _ (.tail _ (.head _)))).tr.lst.2.2 _ (List.mem_map_of_mem ht)
    exact (this.2 (declsT t.locals) (by simp [Thread.cells])).lst.1
  clear hok
  conv => whnf
  refine ⟨hB1, ?_⟩
  conv => whnf
  refine ⟨hB2, ?_⟩
  conv => whnf
  refine ⟨by kernel_rfl, fun _ => ?_⟩
  conv => whnf
  refine LoopL.by (fun i : Nat => ⟨[(1, .ptr 0 0), (2, .ptr 1 0), (3, .ptr 2 0), (14, .tr (threadsT p.threads)), (15, .tr (ti (p.threads.map Thread.cells).length)), (16, .tr (ti i))],
      [(0, .cells 25 [.tr (declsT p.shared), .tr (declsT p.locks), .tr (threadsT p.threads)]), (1, .cells 25 [.tr tnil, .tr tnil, .tr tnil]), (2, .cells 25 [.sl 3 p.shared.length, .sl 4 p.locks.length, .sl 5 i]), (3, .own 3 32 (p.shared.map Decl.cells) []), (4, .own 3 32 (p.locks.map Decl.cells) []), (5, .own 4 72 ((p.threads.map Thread.cells).take i) [])], 6⟩)
    (fun i => i ≤ p.threads.length) (fun i => p.threads.length - i) 0 [0, 1, 9, 4, 7] [5]
    (Sub.mk' rfl ⟨⟨rfl, rfl⟩, ⟨rfl, rfl⟩, ⟨rfl, rfl⟩, .inl rfl, .inl rfl, .inl rfl, trivial⟩ ⟨⟨rfl, .inl rfl, .inl rfl, .inl rfl, trivial⟩, ⟨rfl, .inl rfl, .inl rfl, .inl rfl, trivial⟩, ⟨rfl, ⟨rfl, List.length_map ..⟩, ⟨rfl, List.length_map ..⟩, ⟨rfl, rfl, rfl, rfl⟩, trivial⟩, ⟨rfl, rfl, rfl, decl_leaf _, .inl rfl⟩, ⟨rfl, rfl, rfl, decl_leaf _, .inl rfl⟩, ⟨rfl, rfl, rfl, by omega⟩, trivial⟩ rfl rfl) (Nat.zero_le _) ?_
  intro i hi _
  conv => whnf
  refine csplit (fun hlt => ?_) (fun hge => ?_)
  · have hlt : i < p.threads.length := by rw [List.length_map] at hlt; simpa using hlt
    conv => whnf
    refine ⟨rfl, by omega, by rw [List.length_map]; omega, fun row hrow => ?_⟩
    obtain ⟨d, hd, rfl⟩ := map_get hrow
    replace hd : p.threads[i]? = some d := hd
    clear hrow
    have hsn := throws_snoc hd
    have hB4 := hB3 d (List.mem_of_getElem? hd)
    obtain ⟨name, ls, body, at_⟩ := d
    conv => whnf
    refine ⟨hB4, ?_⟩
    conv => whnf
    refine acall.new [] [] _ _ _ _ (o74 (SizeOf.sizeOf body + 1) body (by omega)) rfl rfl rfl rfl (by repeat' (first | exact trivial | exact Or.inl (ti_succ (by assumption) (by assumption)) | exact Or.inl rfl | exact rfl | exact Nat.le_refl _ | apply And.intro)) (by repeat' (first | exact trivial | exact Or.inl (ti_succ (by assumption) (by assumption)) | exact Or.inl rfl | exact rfl | exact Nat.le_refl _ | apply And.intro)) rfl rfl fun _ => ?_
    conv => whnf
    refine ⟨by rw [List.length_take, List.length_map]; omega, rfl, Nat.le_refl _, by show (i + 1) * 72 ≤ 140737488351232; omega, trivial, trivial, trivial, ?_⟩
    conv => whnf
    have hti : (List.take i (p.threads.map Thread.cells)).length = i := by rw [List.length_take, List.length_map]; omega
    refine ⟨i + 1, [0, 1, 2, 3, 4, 25], [], Sub.pk [25, 25] ?_, hlt, by omega⟩
    conv => whnf
    refine ⟨rfl, rfl, (Nat.le_refl _), decl_leaf _, ?_⟩
    conv => whnf
    refine ⟨rfl, rfl, by rw [srows_len]; exact Nat.le_refl _, ?_⟩
    refine Sub0.mk' rfl ⟨⟨rfl, rfl⟩, ⟨rfl, rfl⟩, ⟨rfl, rfl⟩, .inl rfl, .inl rfl, .inl (ti_succ hlt hl), trivial⟩ ⟨⟨rfl, .inl rfl, .inl rfl, .inl rfl, trivial⟩, ⟨rfl, .inl rfl, .inl rfl, .inl rfl, trivial⟩, ⟨rfl, ⟨rfl, rfl⟩, ⟨rfl, rfl⟩, ⟨rfl, rfl⟩, trivial⟩, ⟨rfl, rfl, rfl, rfl, .inl rfl⟩, ⟨rfl, rfl, rfl, rfl, .inl rfl⟩, ⟨rfl, rfl, rfl, rfl, .inl ?_⟩, trivial⟩ rfl rfl
    rw [← hsn, List.take_take, Nat.min_self]
    refine (congrArg (fun r => setC r _ _ _) (setC_snoc hti)).trans ((setC_snoc hti).trans ?_)
    rw [List.take_of_length_le (l := ls.map Decl.cells) (Nat.le_refl _), List.take_of_length_le (l := Stmt.rows body) (by rw [srows_len]; exact Nat.le_refl _)]
    rfl
  · have hge : p.threads.length ≤ i := by rw [List.length_map] at hge; simpa using hge
    conv => whnf
    refine ⟨fun _ => ?_, fun h => absurd rfl h⟩
    conv => whnf
    exact ⟨[3, 4, 5], rfl, rfl, ⟨⟨rfl, rfl⟩, ⟨rfl, rfl⟩, ⟨rfl, by omega⟩, trivial⟩, ⟨rfl, rfl, rfl, rfl, .inl rfl⟩, ⟨rfl, rfl, rfl, rfl, .inl rfl⟩, ⟨rfl, rfl, rfl, rfl, .inl (List.take_of_length_le (by rw [List.length_map]; exact hge))⟩, trivial⟩
end Go.Proofs.Ytbpcbhmdjphodaa.am

namespace Go.Proofs.Ytbpcbhmdjphodaa.am
open Go Go.Proofs
theorem k50 (s o n : ByteArray) : K 50 [.tr (ts s), .tr (ts o), .tr (ts n)] [] (.ret (.tr (ts (ren o n s)))) [] := by
  refine Ctr.of hT hmix Try.func50 rfl (fun _ _ => by kernel_rfl) rfl fun hok => ?_
  clear hok
  conv => whnf
  refine csplit (fun h => ?_) (fun h => ?_)
  · conv => whnf
    exact ⟨Or.inl (congrArg ts (by unfold ren seq; rw [h]; rfl)), trivial⟩
  · conv => whnf
    exact ⟨Or.inl (congrArg ts (by unfold ren seq; rw [h]; rfl)), trivial⟩
theorem set_take {l : List Tr} {off : Nat} {x y : Tr} (h : l[off]? = some y) : l.take off ++ [x] ++ l.drop (off + 1) = l.set off x := by
  have hl := (List.getElem?_eq_some_iff.1 h).1
  rw [List.set_eq_take_append_cons_drop, if_pos hl, List.append_assoc]; rfl
theorem set_same {α : Type} {l : List α} {i : Nat} {x : α} (h : l[i]? = some x) : l.set i x = l := by
  obtain ⟨h1, rfl⟩ := List.getElem?_eq_some_iff.1 h
  exact List.set_getElem_self h1
theorem k45 {o n s : ByteArray} {N B i off : Nat} {rows : List (List Tr)} {row : List Tr} (hr : rows[i]? = some row) (ho : row[off]? = some (ts s)) :
    K 45 [.agg [.tr (ts o), .tr (ts n)], .vpt 0 N i off] [.own N B rows []] (.ret (.tup [])) [some (.own N B (rows.set i (row.set off (ts (ren o n s)))) [])] := by
  have hi := (List.getElem?_eq_some_iff.1 hr).1
  have hj := (List.getElem?_eq_some_iff.1 ho).1
  refine Ctr.of hT hmix Try.func45 rfl (fun _ _ => by kernel_rfl) rfl fun hok => ?_
  clear hok
  conv => whnf
  refine ⟨rfl, hi, fun row' hrow => ?_⟩
  obtain rfl : row' = row := by rw [hr] at hrow; exact (Option.some.inj hrow).symm
  clear hrow
  refine ⟨hj, fun t ht => ?_⟩
  obtain rfl : t = ts s := by rw [ho] at ht; exact (Option.some.inj ht).symm
  clear ht
  conv => whnf
  refine ⟨by kernel_rfl, fun _ => ?_⟩
  conv => whnf
  refine csplit (fun h => ?_) (fun h => ?_)
  · conv => whnf
    refine ⟨rfl, rfl, rfl, hi, trivial, fun row'' hrow => ?_⟩
    obtain rfl : row'' = row' := by rw [hr] at hrow; exact (Option.some.inj hrow).symm
    refine ⟨hj, ?_⟩
    conv => whnf
    refine ⟨trivial, ⟨rfl, rfl, rfl, rfl, .inl (congrArg _ ((set_take ho).trans ?_))⟩, trivial⟩
    unfold ren seq; rw [h]; rfl
  · conv => whnf
    refine ⟨trivial, ⟨rfl, rfl, rfl, rfl, .inl ?_⟩, trivial⟩
    have : ren o n s = s := by unfold ren seq; rw [h]; rfl
    rw [this, set_same ho, set_same hr]
theorem k49 (o n : ByteArray) : ∀ (l : List Decl), K 49 [.sl 0 (l.map Decl.cells).length, .tr (ts o), .tr (ts n)] [.own 3 32 (l.map Decl.cells) []] (.ret (.tup [])) [some (.own 3 32 (((l.map (Decl.ren o n))).map Decl.cells) [])] := by
  intro l
  refine Ctr.of hT hmix Try.func49 rfl (fun _ _ => by kernel_rfl) rfl fun hok => ?_
  have hl := (hok.own 0 rfl).2
  rw [List.length_map] at hl
  clear hok
  conv => whnf
  refine LoopL.by (fun i : Nat => ⟨[(0, .sl 0 (l.map Decl.cells).length), (1, .tr (ts o)), (2, .tr (ts n)), (8, .tr (ti (l.map Decl.cells).length)), (9, .tr (ti i))], [(0, .own 3 32 ((upto (Decl.ren o n) i l).map Decl.cells) [])], 1⟩)
    (fun i => i ≤ l.length) (fun i => l.length - i) 0 [0] [] (Sub.mk' rfl ⟨⟨rfl, rfl⟩, .inl rfl, .inl rfl, .inl rfl, .inl rfl, trivial⟩ ⟨⟨rfl, rfl, rfl, rfl, .inl (by rw [upto_zero])⟩, trivial⟩ rfl rfl) (Nat.zero_le _) ?_
  intro i hi _
  conv => whnf
  refine csplit (fun hlt => ?_) (fun hge => ?_)
  · have hlt : i < l.length := by rw [List.length_map] at hlt; simpa using hlt
    have hd : l[i]? = some l[i] := by simp [hlt]
    generalize l[i] = d at hd
    have hlen : i < ((upto (Decl.ren o n) i l).map Decl.cells).length := by rw [List.length_map, upto_len]; exact hlt
    conv => whnf
    obtain ⟨k1, k2, k3⟩ := d
    refine ⟨rfl, by omega, by rw [List.length_map]; omega, ?_⟩
    conv => whnf
    refine ⟨rfl, hlen, fun row hrow => ?_⟩
    obtain rfl := mrow_get hd hrow
    clear hrow
    refine ⟨Nat.le_of_ble_eq_true rfl, fun t ht => ?_⟩
    obtain rfl := one_some (x := ts k1) ht
    conv => whnf
    refine acall.pure _ (k50 k1 o n) rfl rfl fun _ => ?_
    conv => whnf
    refine ⟨rfl, by omega, by rw [List.length_map]; omega, ?_⟩
    conv => whnf
    refine ⟨rfl, rfl, rfl, hlen, trivial, fun row hrow => ?_⟩
    obtain rfl := mrow_get hd hrow
    refine ⟨Nat.le_of_ble_eq_true rfl, ?_⟩
    conv => whnf
    exact ⟨i + 1, [0], [], Sub.mk' rfl ⟨⟨rfl, rfl⟩, .inl rfl, .inl rfl, .inl rfl, .inl (ti_succ hlt hl), trivial⟩ ⟨⟨rfl, rfl, rfl, rfl, .inl (mrow_set hd rfl)⟩, trivial⟩ rfl rfl, hlt, by omega⟩
  · have hge : l.length ≤ i := by rw [List.length_map] at hge; simpa using hge
    conv => whnf
    refine ⟨fun _ => ?_, fun h => absurd rfl h⟩
    conv => whnf
    exact ⟨trivial, ⟨rfl, rfl, rfl, rfl, .inl (by rw [upto_all hge])⟩, trivial⟩
theorem k80 (o n : ByteArray) : ∀ (m : Nat) (l : List Expr), SizeOf.sizeOf l < m → K 80 [.sl 0 (Expr.rows l).length, .tr (ts o), .tr (ts n)] [.own 6 64 (Expr.rows l) []] (.ret (.tup [])) [some (.own 6 64 (Expr.rows (Expr.renL o n l)) [])] := by
  intro m
  induction m with
  | zero => intro l h; omega
  | succ m ih =>
  intro l hsz
  refine Ctr.of hT hmix Try.func80 rfl (fun _ _ => by kernel_rfl) rfl fun hok => ?_
  have hl := (hok.own 0 rfl).2
  rw [erows_len] at hl
  clear hok
  conv => whnf
  refine LoopL.by (fun i : Nat => ⟨[(0, .sl 0 (Expr.rows l).length), (1, .tr (ts o)), (2, .tr (ts n)), (8, .tr (ti (Expr.rows l).length)), (9, .tr (ti i))], [(0, .own 6 64 (Expr.rows (upto (Expr.ren o n) i l)) [])], 1⟩)
    (fun i => i ≤ l.length) (fun i => l.length - i) 0 [0] [] (Sub.mk' rfl ⟨⟨rfl, rfl⟩, .inl rfl, .inl rfl, .inl rfl, .inl rfl, trivial⟩ ⟨⟨rfl, rfl, rfl, rfl, .inl (by rw [upto_zero])⟩, trivial⟩ rfl rfl) (Nat.zero_le _) ?_
  intro i hi _
  conv => whnf
  refine csplit (fun hlt => ?_) (fun hge => ?_)
  · have hlt : i < l.length := by rw [erows_len] at hlt; simpa using hlt
    have hd : l[i]? = some l[i] := by simp [hlt]
    generalize l[i] = d at hd
    have hlen : i < (Expr.rows (upto (Expr.ren o n) i l)).length := by rw [erows_len, upto_len]; exact hlt
    conv => whnf
    have hs1 := size_kid hd
    obtain ⟨k1, k2, k3, k4, k5, k6⟩ := d
    simp only [Expr.mk.sizeOf_spec] at hs1
    refine ⟨rfl, by omega, by rw [erows_len]; omega, ?_⟩
    conv => whnf
    refine ⟨rfl, hlen, fun row hrow => ?_⟩
    obtain rfl := erow_get hd hrow
    clear hrow
    refine ⟨Nat.le_of_ble_eq_true rfl, fun t ht => ?_⟩
    obtain rfl := one_some (x := ts k4) ht
    clear ht
    conv => whnf
    refine acall.pure _ (k50 k4 o n) rfl rfl fun _ => ?_
    conv => whnf
    refine ⟨rfl, by omega, by rw [erows_len]; omega, ?_⟩
    conv => whnf
    refine ⟨rfl, rfl, rfl, hlen, trivial, fun row hrow => ?_⟩
    obtain rfl := erow_get hd hrow
    clear hrow
    refine ⟨Nat.le_of_ble_eq_true rfl, ?_⟩
    conv => whnf
    refine ⟨rfl, by omega, by rw [erows_len]; omega, ?_⟩
    conv => whnf
    refine ⟨rfl, (by rw [List.length_set]; exact hlen), fun row hrow => ?_⟩
    obtain rfl := set_get hlen hrow
    clear hrow
    refine ⟨Nat.le_of_ble_eq_true rfl, fun t ht => ?_⟩
    obtain rfl := one_some (x := exprsT k5) ht
    clear ht
    refine ⟨by omega, ?_⟩
    conv => whnf
    refine acall.gen [21] [] _ _ _ _ (ih k5 (by omega)) rfl rfl rfl rfl (by repeat' (first | exact trivial | exact Or.inl (ti_succ (by assumption) (by assumption)) | exact Or.inl rfl | exact rfl | exact Nat.le_refl _ | apply And.intro)) ⟨⟨rfl, rfl, rfl, rfl, .inl rfl⟩, trivial⟩ rfl rfl fun _ => ?_
    conv => whnf
    refine ⟨i + 1, [0], [], Sub.pk [0] ?_, hlt, by omega⟩
    conv => whnf
    refine ⟨rfl, rfl, by rw [erows_len, erows_len, Expr.renL_eq, List.length_map]; exact Nat.le_refl _, ?_⟩
    refine Sub0.mk' rfl ⟨⟨rfl, rfl⟩, .inl rfl, .inl rfl, .inl rfl, .inl (ti_succ hlt hl), trivial⟩ ⟨⟨rfl, rfl, rfl, rfl, .inl ?_⟩, trivial⟩ rfl rfl
    refine (setC_set hlen).trans (erow_set hd ?_)
    rw [List.take_of_length_le (l := Expr.rows (Expr.renL o n k5)) (by rw [erows_len, erows_len, Expr.renL_eq, List.length_map]; exact Nat.le_refl _)]
    rfl
  · have hge : l.length ≤ i := by rw [erows_len] at hge; simpa using hge
    conv => whnf
    refine ⟨fun _ => ?_, fun h => absurd rfl h⟩
    conv => whnf
    exact ⟨trivial, ⟨rfl, rfl, rfl, rfl, .inl (by rw [upto_all hge, Expr.renL_eq])⟩, trivial⟩
theorem k51 (o n : ByteArray) : ∀ (m : Nat) (l : List Stmt), SizeOf.sizeOf l < m → K 51 [.sl 0 (Stmt.rows l).length, .tr (ts o), .tr (ts n)] [.own 7 120 (Stmt.rows l) []] (.ret (.tup [])) [some (.own 7 120 (Stmt.rows (Stmt.renL o n l)) [])] := by
  intro m
  induction m with
  | zero => intro l h; omega
  | succ m ih =>
  intro l hsz
  refine Ctr.of hT hmix Try.func51 rfl (fun _ _ => by kernel_rfl) rfl fun hok => ?_
  have hl := (hok.own 0 rfl).2
  rw [srows_len] at hl
  clear hok
  conv => whnf
  refine LoopL.by (fun i : Nat => ⟨[(0, .sl 0 (Stmt.rows l).length), (1, .tr (ts o)), (2, .tr (ts n)), (8, .tr (ti (Stmt.rows l).length)), (9, .tr (ti i))], [(0, .own 7 120 (Stmt.rows (upto (Stmt.ren o n) i l)) [])], 1⟩)
    (fun i => i ≤ l.length) (fun i => l.length - i) 0 [0] [] (Sub.mk' rfl ⟨⟨rfl, rfl⟩, .inl rfl, .inl rfl, .inl rfl, .inl rfl, trivial⟩ ⟨⟨rfl, rfl, rfl, rfl, .inl (by rw [upto_zero])⟩, trivial⟩ rfl rfl) (Nat.zero_le _) ?_
  intro i hi _
  conv => whnf
  refine csplit (fun hlt => ?_) (fun hge => ?_)
  · have hlt : i < l.length := by rw [srows_len] at hlt; simpa using hlt
    have hd : l[i]? = some l[i] := by simp [hlt]
    generalize l[i] = d at hd
    have hlen : i < (Stmt.rows (upto (Stmt.ren o n) i l)).length := by rw [srows_len, upto_len]; exact hlt
    conv => whnf
    have hs1 := size_kid2 hd
    obtain ⟨k1, k2, k3, k4, k5, k6, k7⟩ := d
    simp only [Stmt.mk.sizeOf_spec] at hs1
    refine ⟨rfl, by omega, by rw [srows_len]; omega, ?_⟩
    conv => whnf
    refine ⟨rfl, hlen, fun row hrow => ?_⟩
    obtain rfl := srow_get hd hrow
    clear hrow
    refine ⟨Nat.le_of_ble_eq_true rfl, fun t ht => ?_⟩
    obtain rfl := one_some (x := ts k2) ht
    clear ht
    conv => whnf
    refine acall.pure _ (k50 k2 o n) rfl rfl fun _ => ?_
    conv => whnf
    refine ⟨rfl, by omega, by rw [srows_len]; omega, ?_⟩
    conv => whnf
    refine ⟨rfl, rfl, rfl, hlen, trivial, fun row hrow => ?_⟩
    obtain rfl := srow_get hd hrow
    clear hrow
    refine ⟨Nat.le_of_ble_eq_true rfl, ?_⟩
    conv => whnf
    refine ⟨rfl, by omega, by rw [srows_len]; omega, ?_⟩
    conv => whnf
    refine ⟨rfl, (by rw [List.length_set]; exact hlen), fun row hrow => ?_⟩
    obtain rfl := set_get hlen hrow
    clear hrow
    refine ⟨Nat.le_of_ble_eq_true rfl, fun t ht => ?_⟩
    obtain rfl := one_some (x := ts k3) ht
    clear ht
    conv => whnf
    refine acall.pure _ (k50 k3 o n) rfl rfl fun _ => ?_
    conv => whnf
    refine ⟨rfl, by omega, by rw [srows_len]; omega, ?_⟩
    conv => whnf
    refine ⟨rfl, rfl, rfl, (by rw [List.length_set]; exact hlen), trivial, fun row hrow => ?_⟩
    obtain rfl := set_get hlen hrow
    clear hrow
    refine ⟨Nat.le_of_ble_eq_true rfl, ?_⟩
    conv => whnf
    refine ⟨rfl, by omega, by rw [srows_len]; omega, ?_⟩
    conv => whnf
    refine ⟨rfl, (by rw [List.length_set, List.length_set]; exact hlen), fun row hrow => ?_⟩
    obtain rfl := set_get (by rw [List.length_set]; exact hlen) hrow
    clear hrow
    refine ⟨Nat.le_of_ble_eq_true rfl, fun t ht => ?_⟩
    obtain rfl := one_some (x := exprsT k4) ht
    clear ht
    refine ⟨by omega, ?_⟩
    conv => whnf
    refine acall.gen [34] [] _ _ _ _ (k80 o n (SizeOf.sizeOf k4 + 1) k4 (by omega)) rfl rfl rfl rfl (by repeat' (first | exact trivial | exact Or.inl (ti_succ (by assumption) (by assumption)) | exact Or.inl rfl | exact rfl | exact Nat.le_refl _ | apply And.intro)) ⟨⟨rfl, rfl, rfl, rfl, .inl rfl⟩, trivial⟩ rfl rfl fun _ => ?_
    conv => whnf
    refine ⟨rfl, by omega, by rw [srows_len]; omega, ?_⟩
    conv => whnf
    refine ⟨rfl, (by rw [List.length_set, List.length_set]; exact hlen), fun row hrow => ?_⟩
    obtain rfl := set_get (by rw [List.length_set]; exact hlen) hrow
    clear hrow
    refine ⟨Nat.le_of_ble_eq_true rfl, fun t ht => ?_⟩
    obtain rfl := one_some (x := stmtsT k5) ht
    clear ht
    refine ⟨by omega, ?_⟩
    conv => whnf
    refine acall.gen [42] [] _ _ _ _ (ih k5 (by omega)) rfl rfl rfl rfl (by repeat' (first | exact trivial | exact Or.inl (ti_succ (by assumption) (by assumption)) | exact Or.inl rfl | exact rfl | exact Nat.le_refl _ | apply And.intro)) ⟨⟨rfl, rfl, rfl, rfl, .inl rfl⟩, trivial⟩ rfl rfl fun _ => ?_
    conv => whnf
    refine ⟨rfl, by omega, by rw [srows_len]; omega, ?_⟩
    conv => whnf
    refine ⟨rfl, (by rw [List.length_set, List.length_set]; exact hlen), fun row hrow => ?_⟩
    obtain rfl := set_get (by rw [List.length_set]; exact hlen) hrow
    clear hrow
    refine ⟨Nat.le_of_ble_eq_true rfl, fun t ht => ?_⟩
    obtain rfl := one_some (x := stmtsT k6) ht
    clear ht
    refine ⟨by omega, ?_⟩
    conv => whnf
    refine acall.gen [50] [] _ _ _ _ (ih k6 (by omega)) rfl rfl rfl rfl (by repeat' (first | exact trivial | exact Or.inl (ti_succ (by assumption) (by assumption)) | exact Or.inl rfl | exact rfl | exact Nat.le_refl _ | apply And.intro)) ⟨⟨rfl, rfl, rfl, rfl, .inl rfl⟩, trivial⟩ rfl rfl fun _ => ?_
    conv => whnf
    refine ⟨i + 1, [0], [], Sub.pk [0, 0, 0] ?_, hlt, by omega⟩
    conv => whnf
    refine ⟨rfl, rfl, by rw [srows_len, srows_len, Stmt.renL_eq, List.length_map]; exact Nat.le_refl _, ?_⟩
    conv => whnf
    refine ⟨rfl, rfl, by rw [srows_len, srows_len, Stmt.renL_eq, List.length_map]; exact Nat.le_refl _, ?_⟩
    conv => whnf
    refine ⟨rfl, rfl, by rw [erows_len, erows_len, Expr.renL_eq, List.length_map]; exact Nat.le_refl _, ?_⟩
    refine Sub0.mk' rfl ⟨⟨rfl, rfl⟩, .inl rfl, .inl rfl, .inl rfl, .inl (ti_succ hlt hl), trivial⟩ ⟨⟨rfl, rfl, rfl, rfl, .inl ?_⟩, trivial⟩ rfl rfl
    refine (congrArg (fun r => setC (setC r _ _ _) _ _ _) (setC_set (by rw [List.length_set]; exact hlen))).trans ((congrArg (fun r => setC r _ _ _) (setC_set (by rw [List.length_set]; exact hlen))).trans ((setC_set (by rw [List.length_set]; exact hlen)).trans ?_))
    rw [List.set_set]
    refine srow_set hd ?_
    rw [List.take_of_length_le (l := Expr.rows (Expr.renL o n k4)) (by rw [erows_len, erows_len, Expr.renL_eq, List.length_map]; exact Nat.le_refl _)]
    rw [List.take_of_length_le (l := Stmt.rows (Stmt.renL o n k5)) (by rw [srows_len, srows_len, Stmt.renL_eq, List.length_map]; exact Nat.le_refl _)]
    rw [List.take_of_length_le (l := Stmt.rows (Stmt.renL o n k6)) (by rw [srows_len, srows_len, Stmt.renL_eq, List.length_map]; exact Nat.le_refl _)]
    rfl
  · have hge : l.length ≤ i := by rw [srows_len] at hge; simpa using hge
    conv => whnf
    refine ⟨fun _ => ?_, fun h => absurd rfl h⟩
    conv => whnf
    exact ⟨trivial, ⟨rfl, rfl, rfl, rfl, .inl (by rw [upto_all hge, Stmt.renL_eq])⟩, trivial⟩
theorem k44 (o n : ByteArray) : ∀ (l : List Decl), K 44 [.agg [.tr (ts o), .tr (ts n)], .sl 0 (l.map Decl.cells).length] [.own 3 32 (l.map Decl.cells) []] (.ret (.tup [])) [some (.own 3 32 (((l.map (Decl.ren o n))).map Decl.cells) [])] := by
  intro l
  refine Ctr.of hT hmix Try.func44 rfl (fun _ _ => by kernel_rfl) rfl fun hok => ?_
  have hl := (hok.own 0 rfl).2
  rw [List.length_map] at hl
  clear hok
  conv => whnf
  refine LoopL.by (fun i : Nat => ⟨[(1, .sl 0 (l.map Decl.cells).length), (2, .ptr 1 0), (6, .tr (ti (l.map Decl.cells).length)), (7, .tr (ti i))], [(0, .own 3 32 ((upto (Decl.ren o n) i l).map Decl.cells) []), (1, .cells 73 [.tr (ts o), .tr (ts n)])], 2⟩)
    (fun i => i ≤ l.length) (fun i => l.length - i) 0 [0, 1] [] (Sub.mk' rfl ⟨⟨rfl, rfl⟩, ⟨rfl, rfl⟩, .inl rfl, .inl rfl, trivial⟩ ⟨⟨rfl, rfl, rfl, rfl, .inl (by rw [upto_zero])⟩, ⟨rfl, .inl rfl, .inl rfl, trivial⟩, trivial⟩ rfl rfl) (Nat.zero_le _) ?_
  intro i hi _
  conv => whnf
  refine csplit (fun hlt => ?_) (fun hge => ?_)
  · have hlt : i < l.length := by rw [List.length_map] at hlt; simpa using hlt
    have hd : l[i]? = some l[i] := by simp [hlt]
    generalize l[i] = d at hd
    have hlen : i < ((upto (Decl.ren o n) i l).map Decl.cells).length := by rw [List.length_map, upto_len]; exact hlt
    conv => whnf
    obtain ⟨k1, k2, k3⟩ := d
    refine ⟨rfl, by omega, by rw [List.length_map]; omega, ?_⟩
    conv => whnf
    have hrow : ((upto (Decl.ren o n) i l).map Decl.cells)[i]? = some (Decl.cells ⟨k1, k2, k3⟩) := by rw [List.getElem?_map, upto_get hd]; rfl
    refine acall.gen [0] [] _ _ _ _ (k45 (s := k1) (o := o) (n := n) hrow rfl) rfl rfl rfl rfl (by repeat' (first | exact trivial | exact Or.inl (ti_succ (by assumption) (by assumption)) | exact Or.inl rfl | exact rfl | exact Nat.le_refl _ | apply And.intro)) (by repeat' (first | exact trivial | exact Or.inl (ti_succ (by assumption) (by assumption)) | exact Or.inl rfl | exact rfl | exact Nat.le_refl _ | apply And.intro)) rfl rfl ?_
    conv => whnf
    refine ⟨by kernel_rfl, fun _ => ?_⟩
    conv => whnf
    exact ⟨i + 1, [0, 1], [], Sub.mk' rfl ⟨⟨rfl, rfl⟩, ⟨rfl, rfl⟩, .inl rfl, .inl (ti_succ hlt hl), trivial⟩ ⟨⟨rfl, rfl, rfl, rfl, .inl (mrow_set hd rfl)⟩, ⟨rfl, .inl rfl, .inl rfl, trivial⟩, trivial⟩ rfl rfl, hlt, by omega⟩
  · have hge : l.length ≤ i := by rw [List.length_map] at hge; simpa using hge
    conv => whnf
    refine ⟨fun _ => ?_, fun h => absurd rfl h⟩
    conv => whnf
    exact ⟨trivial, ⟨rfl, rfl, rfl, rfl, .inl (by rw [upto_all hge])⟩, trivial⟩
theorem k75 (o n : ByteArray) : ∀ (m : Nat) (l : List Expr), SizeOf.sizeOf l < m → K 75 [.agg [.tr (ts o), .tr (ts n)], .sl 0 (Expr.rows l).length] [.own 6 64 (Expr.rows l) []] (.ret (.tup [])) [some (.own 6 64 (Expr.rows (Expr.renL o n l)) [])] := by
  intro m
  induction m with
  | zero => intro l h; omega
  | succ m ih =>
  intro l hsz
  refine Ctr.of hT hmix Try.func75 rfl (fun _ _ => by kernel_rfl) rfl fun hok => ?_
  have hl := (hok.own 0 rfl).2
  rw [erows_len] at hl
  clear hok
  conv => whnf
  refine LoopL.by (fun i : Nat => ⟨[(1, .sl 0 (Expr.rows l).length), (2, .ptr 1 0), (6, .tr (ti (Expr.rows l).length)), (7, .tr (ti i))], [(0, .own 6 64 (Expr.rows (upto (Expr.ren o n) i l)) []), (1, .cells 73 [.tr (ts o), .tr (ts n)])], 2⟩)
    (fun i => i ≤ l.length) (fun i => l.length - i) 0 [0, 1] [] (Sub.mk' rfl ⟨⟨rfl, rfl⟩, ⟨rfl, rfl⟩, .inl rfl, .inl rfl, trivial⟩ ⟨⟨rfl, rfl, rfl, rfl, .inl (by rw [upto_zero])⟩, ⟨rfl, .inl rfl, .inl rfl, trivial⟩, trivial⟩ rfl rfl) (Nat.zero_le _) ?_
  intro i hi _
  conv => whnf
  refine csplit (fun hlt => ?_) (fun hge => ?_)
  · have hlt : i < l.length := by rw [erows_len] at hlt; simpa using hlt
    have hd : l[i]? = some l[i] := by simp [hlt]
    generalize l[i] = d at hd
    have hlen : i < (Expr.rows (upto (Expr.ren o n) i l)).length := by rw [erows_len, upto_len]; exact hlt
    conv => whnf
    have hs1 := size_kid hd
    obtain ⟨k1, k2, k3, k4, k5, k6⟩ := d
    simp only [Expr.mk.sizeOf_spec] at hs1
    refine ⟨rfl, by omega, by rw [erows_len]; omega, ?_⟩
    conv => whnf
    refine acall.gen [0] [] _ _ _ _ (k45 (s := k4) (o := o) (n := n) (show (Expr.rows (upto (Expr.ren o n) i l))[i]? = some (Expr.cells (.mk k1 k2 k3 k4 k5 k6)) by rw [Expr.rows_eq, List.getElem?_map, upto_get hd]; rfl) rfl) rfl rfl rfl rfl (by repeat' (first | exact trivial | exact Or.inl (ti_succ (by assumption) (by assumption)) | exact Or.inl rfl | exact rfl | exact Nat.le_refl _ | apply And.intro)) (by repeat' (first | exact trivial | exact Or.inl (ti_succ (by assumption) (by assumption)) | exact Or.inl rfl | exact rfl | exact Nat.le_refl _ | apply And.intro)) rfl rfl ?_
    conv => whnf
    refine ⟨by kernel_rfl, fun _ => ?_⟩
    conv => whnf
    refine ⟨rfl, by omega, by rw [erows_len]; omega, ?_⟩
    conv => whnf
    refine ⟨rfl, (by rw [List.length_set]; exact hlen), fun row hrow => ?_⟩
    obtain rfl := set_get hlen hrow
    clear hrow
    refine ⟨Nat.le_of_ble_eq_true rfl, fun t ht => ?_⟩
    obtain rfl := one_some (x := exprsT k5) ht
    clear ht
    refine ⟨by omega, ?_⟩
    conv => whnf
    refine acall.gen [16] [] _ _ _ _ (ih k5 (by omega)) rfl rfl rfl rfl (by repeat' (first | exact trivial | exact Or.inl (ti_succ (by assumption) (by assumption)) | exact Or.inl rfl | exact rfl | exact Nat.le_refl _ | apply And.intro)) ⟨⟨rfl, rfl, rfl, rfl, .inl rfl⟩, trivial⟩ rfl rfl ?_
    conv => whnf
    refine ⟨by kernel_rfl, fun _ => ?_⟩
    conv => whnf
    refine ⟨i + 1, [0, 1], [], Sub.pk [0] ?_, hlt, by omega⟩
    conv => whnf
    refine ⟨rfl, rfl, by rw [erows_len, erows_len, Expr.renL_eq, List.length_map]; exact Nat.le_refl _, ?_⟩
    refine Sub0.mk' rfl ⟨⟨rfl, rfl⟩, ⟨rfl, rfl⟩, .inl rfl, .inl (ti_succ hlt hl), trivial⟩ ⟨⟨rfl, rfl, rfl, rfl, .inl ?_⟩, ⟨rfl, .inl rfl, .inl rfl, trivial⟩, trivial⟩ rfl rfl
    refine (setC_set hlen).trans (erow_set hd ?_)
    rw [List.take_of_length_le (l := Expr.rows (Expr.renL o n k5)) (by rw [erows_len, erows_len, Expr.renL_eq, List.length_map]; exact Nat.le_refl _)]
    rfl
  · have hge : l.length ≤ i := by rw [erows_len] at hge; simpa using hge
    conv => whnf
    refine ⟨fun _ => ?_, fun h => absurd rfl h⟩
    conv => whnf
    exact ⟨trivial, ⟨rfl, rfl, rfl, rfl, .inl (by rw [upto_all hge, Expr.renL_eq])⟩, trivial⟩
theorem k46 (o n : ByteArray) : ∀ (m : Nat) (l : List Stmt), SizeOf.sizeOf l < m → K 46 [.agg [.tr (ts o), .tr (ts n)], .sl 0 (Stmt.rows l).length] [.own 7 120 (Stmt.rows l) []] (.ret (.tup [])) [some (.own 7 120 (Stmt.rows (Stmt.renL o n l)) [])] := by
  intro m
  induction m with
  | zero => intro l h; omega
  | succ m ih =>
  intro l hsz
  refine Ctr.of hT hmix Try.func46 rfl (fun _ _ => by kernel_rfl) rfl fun hok => ?_
  have hl := (hok.own 0 rfl).2
  rw [srows_len] at hl
  clear hok
  conv => whnf
  refine LoopL.by (fun i : Nat => ⟨[(1, .sl 0 (Stmt.rows l).length), (2, .ptr 1 0), (6, .tr (ti (Stmt.rows l).length)), (7, .tr (ti i))], [(0, .own 7 120 (Stmt.rows (upto (Stmt.ren o n) i l)) []), (1, .cells 73 [.tr (ts o), .tr (ts n)])], 2⟩)
    (fun i => i ≤ l.length) (fun i => l.length - i) 0 [0, 1] [] (Sub.mk' rfl ⟨⟨rfl, rfl⟩, ⟨rfl, rfl⟩, .inl rfl, .inl rfl, trivial⟩ ⟨⟨rfl, rfl, rfl, rfl, .inl (by rw [upto_zero])⟩, ⟨rfl, .inl rfl, .inl rfl, trivial⟩, trivial⟩ rfl rfl) (Nat.zero_le _) ?_
  intro i hi _
  conv => whnf
  refine csplit (fun hlt => ?_) (fun hge => ?_)
  · have hlt : i < l.length := by rw [srows_len] at hlt; simpa using hlt
    have hd : l[i]? = some l[i] := by simp [hlt]
    generalize l[i] = d at hd
    have hlen : i < (Stmt.rows (upto (Stmt.ren o n) i l)).length := by rw [srows_len, upto_len]; exact hlt
    conv => whnf
    have hs1 := size_kid2 hd
    obtain ⟨k1, k2, k3, k4, k5, k6, k7⟩ := d
    simp only [Stmt.mk.sizeOf_spec] at hs1
    refine ⟨rfl, by omega, by rw [srows_len]; omega, ?_⟩
    conv => whnf
    refine acall.gen [0] [] _ _ _ _ (k45 (s := k2) (o := o) (n := n) (show (Stmt.rows (upto (Stmt.ren o n) i l))[i]? = some (Stmt.cells (.mk k1 k2 k3 k4 k5 k6 k7)) by rw [Stmt.rows_eq, List.getElem?_map, upto_get hd]; rfl) rfl) rfl rfl rfl rfl (by repeat' (first | exact trivial | exact Or.inl (ti_succ (by assumption) (by assumption)) | exact Or.inl rfl | exact rfl | exact Nat.le_refl _ | apply And.intro)) (by repeat' (first | exact trivial | exact Or.inl (ti_succ (by assumption) (by assumption)) | exact Or.inl rfl | exact rfl | exact Nat.le_refl _ | apply And.intro)) rfl rfl ?_
    conv => whnf
    refine ⟨by kernel_rfl, fun _ => ?_⟩
    conv => whnf
    refine ⟨rfl, by omega, by rw [srows_len]; omega, ?_⟩
    conv => whnf
    refine acall.gen [0] [] _ _ _ _ (k45 (s := k3) (o := o) (n := n) (List.getElem?_set_self hlen) rfl) rfl rfl rfl rfl (by repeat' (first | exact trivial | exact Or.inl (ti_succ (by assumption) (by assumption)) | exact Or.inl rfl | exact rfl | exact Nat.le_refl _ | apply And.intro)) (by repeat' (first | exact trivial | exact Or.inl (ti_succ (by assumption) (by assumption)) | exact Or.inl rfl | exact rfl | exact Nat.le_refl _ | apply And.intro)) rfl rfl ?_
    conv => whnf
    refine ⟨by kernel_rfl, fun _ => ?_⟩
    conv => whnf
    refine ⟨rfl, by omega, by rw [srows_len]; omega, ?_⟩
    conv => whnf
    refine ⟨rfl, (by rw [List.length_set, List.length_set]; exact hlen), fun row hrow => ?_⟩
    obtain rfl := set_get (by rw [List.length_set]; exact hlen) hrow
    clear hrow
    refine ⟨Nat.le_of_ble_eq_true rfl, fun t ht => ?_⟩
    obtain rfl := one_some (x := exprsT k4) ht
    clear ht
    refine ⟨by omega, ?_⟩
    conv => whnf
    refine acall.gen [22] [] _ _ _ _ (k75 o n (SizeOf.sizeOf k4 + 1) k4 (by omega)) rfl rfl rfl rfl (by repeat' (first | exact trivial | exact Or.inl (ti_succ (by assumption) (by assumption)) | exact Or.inl rfl | exact rfl | exact Nat.le_refl _ | apply And.intro)) ⟨⟨rfl, rfl, rfl, rfl, .inl rfl⟩, trivial⟩ rfl rfl ?_
    conv => whnf
    refine ⟨by kernel_rfl, fun _ => ?_⟩
    conv => whnf
    refine ⟨rfl, by omega, by rw [srows_len]; omega, ?_⟩
    conv => whnf
    refine ⟨rfl, (by rw [List.length_set, List.length_set]; exact hlen), fun row hrow => ?_⟩
    obtain rfl := set_get (by rw [List.length_set]; exact hlen) hrow
    clear hrow
    refine ⟨Nat.le_of_ble_eq_true rfl, fun t ht => ?_⟩
    obtain rfl := one_some (x := stmtsT k5) ht
    clear ht
    refine ⟨by omega, ?_⟩
    conv => whnf
    refine acall.gen [29] [] _ _ _ _ (ih k5 (by omega)) rfl rfl rfl rfl (by repeat' (first | exact trivial | exact Or.inl (ti_succ (by assumption) (by assumption)) | exact Or.inl rfl | exact rfl | exact Nat.le_refl _ | apply And.intro)) ⟨⟨rfl, rfl, rfl, rfl, .inl rfl⟩, trivial⟩ rfl rfl ?_
    conv => whnf
    refine ⟨by kernel_rfl, fun _ => ?_⟩
    conv => whnf
    refine ⟨rfl, by omega, by rw [srows_len]; omega, ?_⟩
    conv => whnf
    refine ⟨rfl, (by rw [List.length_set, List.length_set]; exact hlen), fun row hrow => ?_⟩
    obtain rfl := set_get (by rw [List.length_set]; exact hlen) hrow
    clear hrow
    refine ⟨Nat.le_of_ble_eq_true rfl, fun t ht => ?_⟩
    obtain rfl := one_some (x := stmtsT k6) ht
    clear ht
    refine ⟨by omega, ?_⟩
    conv => whnf
    refine acall.gen [36] [] _ _ _ _ (ih k6 (by omega)) rfl rfl rfl rfl (by repeat' (first | exact trivial | exact Or.inl (ti_succ (by assumption) (by assumption)) | exact Or.inl rfl | exact rfl | exact Nat.le_refl _ | apply And.intro)) ⟨⟨rfl, rfl, rfl, rfl, .inl rfl⟩, trivial⟩ rfl rfl ?_
    conv => whnf
    refine ⟨by kernel_rfl, fun _ => ?_⟩
    conv => whnf
    refine ⟨i + 1, [0, 1], [], Sub.pk [0, 0, 0] ?_, hlt, by omega⟩
    conv => whnf
    refine ⟨rfl, rfl, by rw [srows_len, srows_len, Stmt.renL_eq, List.length_map]; exact Nat.le_refl _, ?_⟩
    conv => whnf
    refine ⟨rfl, rfl, by rw [srows_len, srows_len, Stmt.renL_eq, List.length_map]; exact Nat.le_refl _, ?_⟩
    conv => whnf
    refine ⟨rfl, rfl, by rw [erows_len, erows_len, Expr.renL_eq, List.length_map]; exact Nat.le_refl _, ?_⟩
    refine Sub0.mk' rfl ⟨⟨rfl, rfl⟩, ⟨rfl, rfl⟩, .inl rfl, .inl (ti_succ hlt hl), trivial⟩ ⟨⟨rfl, rfl, rfl, rfl, .inl ?_⟩, ⟨rfl, .inl rfl, .inl rfl, trivial⟩, trivial⟩ rfl rfl
    refine (congrArg (fun r => setC (setC r _ _ _) _ _ _) (setC_set (by rw [List.length_set]; exact hlen))).trans ((congrArg (fun r => setC r _ _ _) (setC_set (by rw [List.length_set]; exact hlen))).trans ((setC_set (by rw [List.length_set]; exact hlen)).trans ?_))
    rw [List.set_set]
    refine srow_set hd ?_
    rw [List.take_of_length_le (l := Expr.rows (Expr.renL o n k4)) (by rw [erows_len, erows_len, Expr.renL_eq, List.length_map]; exact Nat.le_refl _)]
    rw [List.take_of_length_le (l := Stmt.rows (Stmt.renL o n k5)) (by rw [srows_len, srows_len, Stmt.renL_eq, List.length_map]; exact Nat.le_refl _)]
    rw [List.take_of_length_le (l := Stmt.rows (Stmt.renL o n k6)) (by rw [srows_len, srows_len, Stmt.renL_eq, List.length_map]; exact Nat.le_refl _)]
    rfl
  · have hge : l.length ≤ i := by rw [srows_len] at hge; simpa using hge
    conv => whnf
    refine ⟨fun _ => ?_, fun h => absurd rfl h⟩
    conv => whnf
    exact ⟨trivial, ⟨rfl, rfl, rfl, rfl, .inl (by rw [upto_all hge, Stmt.renL_eq])⟩, trivial⟩
end Go.Proofs.Ytbpcbhmdjphodaa.am

namespace Go.Proofs.Ytbpcbhmdjphodaa.am
open Go Go.Proofs
def putGo (l0 : List Int) (n : Int) : List Int → List Int → Bool → List Int
  | [], out, done => bif done then out else out ++ [n]
  | x :: r, out, done => bif x == n then l0 else bif decide (x > n) && !done then putGo l0 n r (out ++ [n] ++ [x]) true else putGo l0 n r (out ++ [x]) done
theorem putGo_at {l0 : List Int} {n : Int} {l : List Int} {i : Nat} {x : Int} {out : List Int} {done : Bool} (h : l[i]? = some x) :
    putGo l0 n (l.drop i) out done = bif x == n then l0 else bif decide (x > n) && !done then putGo l0 n (l.drop (i + 1)) (out ++ [n] ++ [x]) true else putGo l0 n (l.drop (i + 1)) (out ++ [x]) done := by
  rw [drop_cons h]; rfl
theorem app_rows (out : List Int) (x : Int) : List.take out.length (intR out) ++ [[ti x]] = intR (out ++ [x]) := by
  rw [List.take_of_length_le (by rw [intR_len]; exact Nat.le_refl _)]; simp [intR]
theorem k87 (l : List Int) (n : Int) (hb : (l.length + 2) * 8 ≤ 140737488351232) : K 87 [.tr (intsT l), .tr (ti n)] [] (.ret (.tr (intsT (putGo l n l [] false)))) [] := by
  refine Ctr.of hT hmix Try.func87 rfl (fun _ _ => by kernel_rfl) rfl fun hok => ?_
  have hl := (hok.slot 0 rfl).tr.lst.2.1
  rw [List.length_map] at hl
  clear hok
  conv => whnf
  refine LoopL.by (fun x : Nat × List Int × Bool => ⟨[(0, .tr (intsT l)), (1, .tr (ti n)), (5, .sl 0 x.2.1.length), (6, .tr (tb x.2.2)), (9, .tr (intsT l)), (10, .tr (ti (intR l).length)), (11, .tr (ti x.1))], [(0, .vec 3 1 8 (intR x.2.1))], 1⟩)
    (fun x => x.1 ≤ l.length ∧ x.2.1.length ≤ x.1 + (bif x.2.2 then 1 else 0) ∧ putGo l n l [] false = putGo l n (l.drop x.1) x.2.1 x.2.2) (fun x => l.length - x.1) (0, [], false) [] [0]
    (Sub.mk' rfl (by repeat' (first | exact trivial | exact Or.inl (ti_succ (by assumption) (by assumption)) | exact Or.inl rfl | exact rfl | exact Nat.le_refl _ | apply And.intro)) ⟨⟨rfl, 3, 1, 8, rfl, by omega⟩, trivial⟩ rfl rfl) ⟨Nat.zero_le _, Nat.zero_le _, rfl⟩ ?_
  rintro ⟨i, out, done⟩ ⟨hi, ho, hf⟩ -
  have hi : i ≤ l.length := hi
  have ho : out.length ≤ i + (bif done then 1 else 0) := ho
  have hf : putGo l n l [] false = putGo l n (l.drop i) out done := hf
  have ho1 : out.length ≤ i + 1 := by cases done <;> simp at ho <;> omega
  conv => whnf
  refine csplit (fun hlt => ?_) (fun hge => ?_)
  · have hlt : i < l.length := by rw [intR_len] at hlt; simpa using hlt
    conv => whnf
    refine ⟨rfl, by omega, by rw [intR_len]; omega, fun row hrow => ?_⟩
    obtain ⟨x, hd, rfl⟩ := map_get hrow
    replace hd : l[i]? = some x := hd
    rw [putGo_at hd] at hf
    clear hrow
    conv => whnf
    refine csplit (fun h1 => ?_) (fun h1 => ?_)
    · rw [show (x == n) = true from h1] at hf
      conv => whnf
      exact ⟨Or.inl (by rw [hf]; rfl), trivial⟩
    rw [show (x == n) = false from h1] at hf
    conv => whnf
    refine csplit (fun h2 => ?_) (fun h2 => ?_)
    · conv => whnf
      refine csplit (fun h3 => ?_) (fun h3 => ?_)
      · rw [show decide (x > n) = true from h2, show (!done) = true from h3] at hf
        have hdn : done = false := by simpa using h3
        rw [hdn] at ho
        have ho : out.length ≤ i := ho
        conv => whnf
        refine ⟨rfl, rfl, rfl, by show out.length ≤ (intR out).length; (repeat rw [app_rows]); rw [intR_len]; simp, by show (out.length + 1) * 8 ≤ 140737488351232; omega, fun q hq => ?_, ?_⟩
        · cases hq with
          | head => exact Nat.ne_of_beq_eq_false rfl
          | tail _ h => cases h
        conv => whnf
        refine ⟨rfl, rfl, rfl, by show out.length + 1 ≤ (List.take (out.length) (intR out) ++ [[ti n]]).length; (repeat rw [app_rows]); rw [intR_len]; simp, by show (out.length + 1 + 1) * 8 ≤ 140737488351232; omega, fun q hq => ?_, ?_⟩
        · cases hq with
          | head => exact Nat.ne_of_beq_eq_false rfl
          | tail _ h => cases h
        conv => whnf
        exact ⟨(i + 1, out ++ [n] ++ [x], true), [24], [], Sub.mk' rfl ⟨(by repeat' (first | exact trivial | exact Or.inl (ti_succ (by assumption) (by assumption)) | exact Or.inl rfl | exact rfl | exact Nat.le_refl _ | apply And.intro)), (by repeat' (first | exact trivial | exact Or.inl (ti_succ (by assumption) (by assumption)) | exact Or.inl rfl | exact rfl | exact Nat.le_refl _ | apply And.intro)), ⟨rfl, by simp⟩, (by repeat' (first | exact trivial | exact Or.inl (ti_succ (by assumption) (by assumption)) | exact Or.inl rfl | exact rfl | exact Nat.le_refl _ | apply And.intro)), (by repeat' (first | exact trivial | exact Or.inl (ti_succ (by assumption) (by assumption)) | exact Or.inl rfl | exact rfl | exact Nat.le_refl _ | apply And.intro)), (by repeat' (first | exact trivial | exact Or.inl (ti_succ (by assumption) (by assumption)) | exact Or.inl rfl | exact rfl | exact Nat.le_refl _ | apply And.intro)), (by repeat' (first | exact trivial | exact Or.inl (ti_succ (by assumption) (by assumption)) | exact Or.inl rfl | exact rfl | exact Nat.le_refl _ | apply And.intro)), trivial⟩ ⟨⟨rfl, rfl, rfl, by show List.take (out.length + 1) (List.take out.length (intR out) ++ [[ti n]]) ++ [[ti x]] = _; rw [app_rows, show out.length + 1 = (out ++ [n]).length by simp]; exact app_rows _ _⟩, trivial⟩ rfl rfl, ⟨hlt, by show (out ++ [n] ++ [x]).length ≤ i + 1 + 1; simp; omega, hf⟩, by omega⟩
      · rw [show decide (x > n) = true from h2, show (!done) = false from h3, Bool.and_false] at hf
        have hdn : done = true := by simpa using h3
        conv => whnf
        refine ⟨rfl, rfl, rfl, by show out.length ≤ (intR out).length; (repeat rw [app_rows]); rw [intR_len]; simp, by show (out.length + 1) * 8 ≤ 140737488351232; omega, fun q hq => ?_, ?_⟩
        · cases hq with
          | head => exact Nat.ne_of_beq_eq_false rfl
          | tail _ h => cases h
        conv => whnf
        exact ⟨(i + 1, out ++ [x], done), [18], [], Sub.mk' rfl ⟨(by repeat' (first | exact trivial | exact Or.inl (ti_succ (by assumption) (by assumption)) | exact Or.inl rfl | exact rfl | exact Nat.le_refl _ | apply And.intro)), (by repeat' (first | exact trivial | exact Or.inl (ti_succ (by assumption) (by assumption)) | exact Or.inl rfl | exact rfl | exact Nat.le_refl _ | apply And.intro)), ⟨rfl, by simp⟩, (by repeat' (first | exact trivial | exact Or.inl (ti_succ (by assumption) (by assumption)) | exact Or.inl rfl | exact rfl | exact Nat.le_refl _ | apply And.intro)), (by repeat' (first | exact trivial | exact Or.inl (ti_succ (by assumption) (by assumption)) | exact Or.inl rfl | exact rfl | exact Nat.le_refl _ | apply And.intro)), (by repeat' (first | exact trivial | exact Or.inl (ti_succ (by assumption) (by assumption)) | exact Or.inl rfl | exact rfl | exact Nat.le_refl _ | apply And.intro)), (by repeat' (first | exact trivial | exact Or.inl (ti_succ (by assumption) (by assumption)) | exact Or.inl rfl | exact rfl | exact Nat.le_refl _ | apply And.intro)), trivial⟩ ⟨⟨rfl, rfl, rfl, by exact app_rows _ _⟩, trivial⟩ rfl rfl, ⟨hlt, by show (out ++ [x]).length ≤ i + 1 + _; simp [hdn] at ho ⊢; omega, hf⟩, by omega⟩
    · rw [show decide (x > n) = false from h2, Bool.false_and] at hf
      conv => whnf
      refine ⟨rfl, rfl, rfl, by show out.length ≤ (intR out).length; (repeat rw [app_rows]); rw [intR_len]; simp, by show (out.length + 1) * 8 ≤ 140737488351232; omega, fun q hq => ?_, ?_⟩
      · cases hq with
        | head => exact Nat.ne_of_beq_eq_false rfl
        | tail _ h => cases h
      conv => whnf
      exact ⟨(i + 1, out ++ [x], done), [18], [], Sub.mk' rfl ⟨(by repeat' (first | exact trivial | exact Or.inl (ti_succ (by assumption) (by assumption)) | exact Or.inl rfl | exact rfl | exact Nat.le_refl _ | apply And.intro)), (by repeat' (first | exact trivial | exact Or.inl (ti_succ (by assumption) (by assumption)) | exact Or.inl rfl | exact rfl | exact Nat.le_refl _ | apply And.intro)), ⟨rfl, by simp⟩, (by repeat' (first | exact trivial | exact Or.inl (ti_succ (by assumption) (by assumption)) | exact Or.inl rfl | exact rfl | exact Nat.le_refl _ | apply And.intro)), (by repeat' (first | exact trivial | exact Or.inl (ti_succ (by assumption) (by assumption)) | exact Or.inl rfl | exact rfl | exact Nat.le_refl _ | apply And.intro)), (by repeat' (first | exact trivial | exact Or.inl (ti_succ (by assumption) (by assumption)) | exact Or.inl rfl | exact rfl | exact Nat.le_refl _ | apply And.intro)), (by repeat' (first | exact trivial | exact Or.inl (ti_succ (by assumption) (by assumption)) | exact Or.inl rfl | exact rfl | exact Nat.le_refl _ | apply And.intro)), trivial⟩ ⟨⟨rfl, rfl, rfl, by exact app_rows _ _⟩, trivial⟩ rfl rfl, ⟨hlt, by show (out ++ [x]).length ≤ i + 1 + _; cases done <;> simp at ho ⊢ <;> omega, hf⟩, by omega⟩
  · have hge : l.length ≤ i := by rw [intR_len] at hge; simpa using hge
    rw [List.drop_eq_nil_of_le hge] at hf
    conv => whnf
    refine ⟨fun _ => ?_, fun h => absurd rfl h⟩
    conv => whnf
    cases done with
    | true =>
      have hf : putGo l n l [] false = out := hf
      conv => whnf
      exact ⟨⟨rfl, by rw [intR_len]; exact Nat.le_refl _, by rw [hf, List.take_of_length_le (by rw [intR_len]; exact Nat.le_refl _)]⟩, (by repeat' (first | exact trivial | exact Or.inl (ti_succ (by assumption) (by assumption)) | exact Or.inl rfl | exact rfl | exact Nat.le_refl _ | apply And.intro))⟩
    | false =>
      have hf : putGo l n l [] false = out ++ [n] := hf
      have ho : out.length ≤ i := ho
      conv => whnf
      refine ⟨rfl, rfl, rfl, by show out.length ≤ (intR out).length; (repeat rw [app_rows]); rw [intR_len]; simp, by show (out.length + 1) * 8 ≤ 140737488351232; omega, fun q hq => ?_, ?_⟩
      · cases hq with
        | head => exact Nat.ne_of_beq_eq_false rfl
        | tail _ h => cases h
      conv => whnf
      exact ⟨⟨rfl, by show out.length + 1 ≤ (List.take out.length (intR out) ++ [[ti n]]).length; rw [app_rows, intR_len]; simp, by show _ = Tr.lst _ _ (List.take (out.length + 1) (List.take out.length (intR out) ++ [[ti n]])); rw [app_rows, hf, List.take_of_length_le (by rw [intR_len]; simp)]⟩, (by repeat' (first | exact trivial | exact Or.inl (ti_succ (by assumption) (by assumption)) | exact Or.inl rfl | exact rfl | exact Nat.le_refl _ | apply And.intro))⟩

/-! the list of marks -/
theorem putGo_true {l0 : List Int} {n : Int} : ∀ (r : List Bool) (k : Nat) (out : List Int), n < k → putGo l0 n (setI r k) out true = out ++ setI r k
  | [], k, out, _ => by simp [setI, putGo]
  | b :: r, k, out, h => by
    unfold setI
    cases b with
    | true =>
      show putGo l0 n ((k : Int) :: setI r (k + 1)) out true = _
      unfold putGo
      rw [show ((k : Int) == n) = false by simp; omega]
      show (bif decide ((k : Int) > n) && false then _ else _) = _
      rw [Bool.and_false]
      show putGo l0 n (setI r (k + 1)) (out ++ [(k : Int)]) true = _
      rw [putGo_true r (k + 1) _ (by omega)]
      simp
    | false => exact putGo_true r (k + 1) out (by omega)
theorem putGo_gt {l0 : List Int} {n : Int} : ∀ (r : List Bool) (k : Nat) (out : List Int), n < k → putGo l0 n (setI r k) out false = out ++ n :: setI r k
  | [], k, out, _ => by simp [setI, putGo]
  | b :: r, k, out, h => by
    unfold setI
    cases b with
    | true =>
      show putGo l0 n ((k : Int) :: setI r (k + 1)) out false = _
      unfold putGo
      rw [show ((k : Int) == n) = false by simp; omega]
      show (bif decide ((k : Int) > n) && !false then _ else _) = _
      rw [show decide ((k : Int) > n) = true by simp; omega]
      show putGo l0 n (setI r (k + 1)) (out ++ [n] ++ [(k : Int)]) true = _
      rw [putGo_true r (k + 1) _ (by omega)]
      simp
    | false => exact putGo_gt r (k + 1) out (by omega)
theorem putGo_in {l0 : List Int} : ∀ (r : List Bool) (k j : Nat) (out : List Int), j < r.length → putGo l0 ((k + j : Nat) : Int) (setI r k) out false = bif r[j]?.getD false then l0 else out ++ setI (r.set j true) k
  | [], k, j, out, h => by simp at h
  | b :: r, k, 0, out, h => by
    show putGo l0 (k : Int) (setI (b :: r) k) out false = bif b then l0 else out ++ setI (true :: r) k
    unfold setI
    cases b with
    | true =>
      show putGo l0 k ((k : Int) :: setI r (k + 1)) out false = l0
      unfold putGo
      rw [show ((k : Int) == (k : Int)) = true by simp]
      rfl
    | false =>
      show putGo l0 k (setI r (k + 1)) out false = _
      rw [putGo_gt r (k + 1) out (by omega)]
      rfl
  | b :: r, k, j + 1, out, h => by
    have hj : j < r.length := by simpa using h
    have e : ((k + (j + 1) : Nat) : Int) = ((k + 1 + j : Nat) : Int) := by omega
    show putGo l0 ((k + (j + 1) : Nat) : Int) (setI (b :: r) k) out false = bif r[j]?.getD false then l0 else out ++ setI (b :: r.set j true) k
    unfold setI
    cases b with
    | true =>
      show putGo l0 _ ((k : Int) :: setI r (k + 1)) out false = _
      unfold putGo
      rw [show ((k : Int) == ((k + (j + 1) : Nat) : Int)) = false by simp; omega]
      show (bif decide ((k : Int) > _) && !false then _ else _) = _
      rw [show decide ((k : Int) > ((k + (j + 1) : Nat) : Int)) = false by simp; omega]
      show putGo l0 _ (setI r (k + 1)) (out ++ [(k : Int)]) false = _
      rw [e, putGo_in r (k + 1) j _ hj]
      cases r[j]?.getD false
      · show _ ++ _ = out ++ ((k : Int) :: setI (r.set j true) (k + 1)); simp
      · rfl
    | false =>
      show putGo l0 _ (setI r (k + 1)) out false = _
      rw [e, putGo_in r (k + 1) j _ hj]
      rfl
theorem put_set (bs : List Bool) (j : Nat) (h : j < bs.length) : putGo (setI bs 0) (j : Int) (setI bs 0) [] false = setI (bs.set j true) 0 := by
  have := putGo_in (l0 := setI bs 0) bs 0 j [] h
  rw [Nat.zero_add] at this
  rw [this, List.nil_append]
  cases hb : bs[j]?.getD false
  · rfl
  · have hs : bs.set j true = bs := by
      refine List.ext_getElem? fun i => ?_
      rw [List.getElem?_set]
      split
      · rename_i e; subst e
        have : bs[j] = true := by rw [List.getElem?_eq_getElem h] at hb; exact hb
        first | rw [if_pos h, List.getElem?_eq_getElem h, this] | rw [List.getElem?_eq_getElem h, this]
      · rfl
    rw [hs]; rfl
theorem setI_len : ∀ (bs : List Bool) (k : Nat), (setI bs k).length ≤ bs.length
  | [], _ => Nat.le_refl _
  | b :: r, k => by
    have := setI_len r (k + 1)
    unfold setI
    cases b
    · show (setI r (k + 1)).length ≤ r.length + 1; omega
    · show (setI r (k + 1)).length + 1 ≤ r.length + 1; omega
theorem set_comm (l : List Bool) (i j : Nat) : (l.set i true).set j true = (l.set j true).set i true := by
  by_cases h : i = j
  · rw [h]
  · exact List.set_comm _ _ h
theorem mark_comm (p : Prg) (t : Int) (a b : ByteArray) (l : List Bool) : markB p t a (markB p t b l) = markB p t b (markB p t a l) := by
  unfold markB
  cases decide (localI p t a ≥ 0) <;> cases decide (localI p t b ≥ 0) <;> cases decide (findI p.shared a 0 ≥ 0) <;> cases decide (findI p.shared b 0 ≥ 0) <;> first | rfl | exact set_comm ..
mutual
theorem expr_comm (p : Prg) (t : Int) (a : ByteArray) : ∀ (e : Expr) (R : List Bool), exprM p t e (markB p t a R) = markB p t a (exprM p t e R)
  | .mk kind _ _ name kids _, R => by
    unfold exprM
    cases (kind == 2)
    · exact exprs_comm p t a kids R
    · show exprsM p t kids (markB p t name (markB p t a R)) = _
      rw [mark_comm]
      exact exprs_comm p t a kids _
theorem exprs_comm (p : Prg) (t : Int) (a : ByteArray) : ∀ (l : List Expr) (R : List Bool), exprsM p t l (markB p t a R) = markB p t a (exprsM p t l R)
  | [], R => rfl
  | e :: l, R => by unfold exprsM; rw [expr_comm p t a e, exprs_comm p t a l]
end
abbrev prgB (p : Prg) : Blk := .cells 25 [.tr (declsT p.shared), .tr (declsT p.locks), .tr (threadsT p.threads)]
theorem k66 (p : Prg) (t : Int) (name : ByteArray) (bs : List Bool) (hb : bs.length = p.shared.length) : K 66 [p.av, .tr (ti t), .tr (ts name), .tr (intsT (setI bs 0))] [] (.ret (.tr (intsT (setI (markB p t name bs) 0)))) [] := by
  refine Ctr.of hT hmix Try.func66 rfl (fun _ _ => by kernel_rfl) rfl fun hok => ?_
  obtain ⟨hB, hl, _⟩ := ((hok.slot 0 rfl).agg _ (.head _)).tr.lst
  rw [List.length_map] at hl hB
  clear hok
  have hlen := setI_len bs 0
  conv => whnf
  refine acall.pure _ (k17 p name) rfl rfl fun _ => ?_
  conv => whnf
  refine csplit (fun h1 => ?_) (fun h1 => ?_)
  · have hE : markB p t name bs = bs := by
      unfold markB
      rw [show decide (findI p.shared name 0 ≥ 0) = false from decide_eq_false (by have := of_decide_eq_true h1; omega)]
      cases decide (localI p t name ≥ 0) <;> rfl
    rw [hE]
    conv => whnf
    exact ⟨Or.inl rfl, trivial⟩
  conv => whnf
  refine acall.pure _ (k21 p t name) rfl rfl fun _ => ?_
  conv => whnf
  refine csplit (fun h2 => ?_) (fun h2 => ?_)
  · have hE : markB p t name bs = bs := by unfold markB; rw [h2]; rfl
    rw [hE]
    conv => whnf
    exact ⟨Or.inl rfl, trivial⟩
  have h1 : ¬ findI p.shared name 0 < 0 := of_decide_eq_false h1
  have hE : markB p t name bs = bs.set (findI p.shared name 0).toNat true := by
    unfold markB; rw [h2, show decide (findI p.shared name 0 ≥ 0) = true from decide_eq_true (by omega)]; rfl
  have hlt := findI_lt p.shared name 0
  have hj : (findI p.shared name 0).toNat < bs.length := by omega
  have hP := put_set bs _ hj
  rw [Int.toNat_of_nonneg (by omega)] at hP
  rw [hE, ← hP]
  conv => whnf
  refine acall.pure _ (k87 (setI bs 0) (findI p.shared name 0) (by omega)) rfl rfl fun _ => ?_
  conv => whnf
  exact ⟨Or.inl rfl, trivial⟩
theorem k65 (p : Prg) (t : Int) : ∀ (m : Nat) (l : List Expr) (bs : List Bool), SizeOf.sizeOf l < m → bs.length = p.shared.length → K 65 [p.av, .tr (ti t), .tr (exprsT l), .tr (intsT (setI bs 0))] [] (.ret (.tr (intsT (setI (exprsM p t l bs) 0)))) [] := by
  intro m
  induction m with
  | zero => intro l R h; omega
  | succ m ih =>
  intro l R0 hsz hR0
  refine Ctr.of hT hmix Try.func65 rfl (fun _ _ => by kernel_rfl) rfl fun hok => ?_
  have hl := (hok.slot 2 rfl).tr.lst.2.1
  rw [erows_len] at hl
  clear hok
  conv => whnf
  refine LoopL.by (fun x : Nat × List Bool => ⟨[(1, .tr (ti t)), (3, .tr (intsT (setI x.2 0))), (4, .ptr 0 0), (11, .tr (exprsT l)), (12, .tr (ti (Expr.rows l).length)), (13, .tr (ti x.1))], [(0, prgB p)], 1⟩)
    (fun x => x.1 ≤ l.length ∧ x.2.length = p.shared.length ∧ exprsM p t l R0 = exprsM p t (l.drop x.1) x.2) (fun x => l.length - x.1) (0, R0) [0] [] (Sub.mk' rfl (by repeat' (first | exact trivial | exact Or.inl (ti_succ (by assumption) (by assumption)) | exact Or.inl rfl | exact rfl | exact Nat.le_refl _ | apply And.intro)) (by repeat' (first | exact trivial | exact Or.inl (ti_succ (by assumption) (by assumption)) | exact Or.inl rfl | exact rfl | exact Nat.le_refl _ | apply And.intro)) rfl rfl) ⟨Nat.zero_le _, hR0, rfl⟩ ?_
  rintro ⟨i, R⟩ ⟨hi, hR, hf⟩ -
  have hi : i ≤ l.length := hi
  have hR : R.length = p.shared.length := hR
  have hf : exprsM p t l R0 = exprsM p t (l.drop i) R := hf
  conv => whnf
  refine csplit (fun hlt => ?_) (fun hge => ?_)
  · have hlt : i < l.length := by rw [erows_len] at hlt; simpa using hlt
    conv => whnf
    refine ⟨rfl, by omega, by rw [erows_len]; omega, fun row hrow => ?_⟩
    obtain ⟨d, hd, rfl⟩ := erows_get hrow
    replace hd : l[i]? = some d := hd
    rw [exprsM_at hd] at hf
    clear hrow
    have hsd := size_kid hd
    have hlen := exprM_len p t d R
    obtain ⟨kind, op, word, name, kids, at_⟩ := d
    simp only [Expr.mk.sizeOf_spec] at hsd
    conv => whnf
    refine csplit (fun h1 => ?_) (fun h1 => ?_)
    · have hE : exprM p t (.mk kind op word name kids at_) R = exprsM p t kids (markB p t name R) := by unfold exprM; rw [show (kind == 2) = true from h1]; rfl
      conv => whnf
      refine acall.pure _ (k66 p t name R hR) rfl rfl fun _ => ?_
      conv => whnf
      refine acall.pure _ (ih kids (markB p t name R) (by omega) (by rw [markB_len]; exact hR)) rfl rfl fun _ => ?_
      conv => whnf
      exact ⟨(i + 1, exprM p t (.mk kind op word name kids at_) R), [0], [], Sub.mk' rfl ⟨(by repeat' (first | exact trivial | exact Or.inl (ti_succ (by assumption) (by assumption)) | exact Or.inl rfl | exact rfl | exact Nat.le_refl _ | apply And.intro)), .inl (by rw [hE]), (by repeat' (first | exact trivial | exact Or.inl (ti_succ (by assumption) (by assumption)) | exact Or.inl rfl | exact rfl | exact Nat.le_refl _ | apply And.intro)), (by repeat' (first | exact trivial | exact Or.inl (ti_succ (by assumption) (by assumption)) | exact Or.inl rfl | exact rfl | exact Nat.le_refl _ | apply And.intro)), (by repeat' (first | exact trivial | exact Or.inl (ti_succ (by assumption) (by assumption)) | exact Or.inl rfl | exact rfl | exact Nat.le_refl _ | apply And.intro)), (by repeat' (first | exact trivial | exact Or.inl (ti_succ (by assumption) (by assumption)) | exact Or.inl rfl | exact rfl | exact Nat.le_refl _ | apply And.intro)), trivial⟩ (by repeat' (first | exact trivial | exact Or.inl (ti_succ (by assumption) (by assumption)) | exact Or.inl rfl | exact rfl | exact Nat.le_refl _ | apply And.intro)) rfl rfl, ⟨hlt, by rw [hlen]; exact hR, hf⟩, by show l.length - (i + 1) < l.length - i; omega⟩
    · have hE : exprM p t (.mk kind op word name kids at_) R = exprsM p t kids R := by unfold exprM; rw [show (kind == 2) = false from h1]; rfl
      conv => whnf
      refine acall.pure _ (ih kids R (by omega) hR) rfl rfl fun _ => ?_
      conv => whnf
      exact ⟨(i + 1, exprM p t (.mk kind op word name kids at_) R), [0], [], Sub.mk' rfl ⟨(by repeat' (first | exact trivial | exact Or.inl (ti_succ (by assumption) (by assumption)) | exact Or.inl rfl | exact rfl | exact Nat.le_refl _ | apply And.intro)), .inl (by rw [hE]), (by repeat' (first | exact trivial | exact Or.inl (ti_succ (by assumption) (by assumption)) | exact Or.inl rfl | exact rfl | exact Nat.le_refl _ | apply And.intro)), (by repeat' (first | exact trivial | exact Or.inl (ti_succ (by assumption) (by assumption)) | exact Or.inl rfl | exact rfl | exact Nat.le_refl _ | apply And.intro)), (by repeat' (first | exact trivial | exact Or.inl (ti_succ (by assumption) (by assumption)) | exact Or.inl rfl | exact rfl | exact Nat.le_refl _ | apply And.intro)), (by repeat' (first | exact trivial | exact Or.inl (ti_succ (by assumption) (by assumption)) | exact Or.inl rfl | exact rfl | exact Nat.le_refl _ | apply And.intro)), trivial⟩ (by repeat' (first | exact trivial | exact Or.inl (ti_succ (by assumption) (by assumption)) | exact Or.inl rfl | exact rfl | exact Nat.le_refl _ | apply And.intro)) rfl rfl, ⟨hlt, by rw [hlen]; exact hR, hf⟩, by show l.length - (i + 1) < l.length - i; omega⟩
  · have hge : l.length ≤ i := by rw [erows_len] at hge; simpa using hge
    rw [List.drop_eq_nil_of_le hge] at hf
    rw [hf]
    conv => whnf
    refine ⟨fun _ => ?_, fun h => absurd rfl h⟩
    conv => whnf
    exact ⟨Or.inl rfl, trivial⟩
theorem k37 (p : Prg) (t : Int) : ∀ (m : Nat) (l : List Stmt) (R W : List Bool), SizeOf.sizeOf l < m → R.length = p.shared.length → W.length = p.shared.length → K 37 [p.av, .tr (ti t), .tr (stmtsT l), .tr (intsT (setI R 0)), .tr (intsT (setI W 0))] [] (.ret (.tup [.tr (intsT (setI (stmtsM p t l (R, W)).1 0)), .tr (intsT (setI (stmtsM p t l (R, W)).2 0))])) [] := by
  intro m
  induction m with
  | zero => intro l R W h; omega
  | succ m ih =>
  intro l R0 W0 hsz hR0 hW0
  refine Ctr.of hT hmix Try.func37 rfl (fun _ _ => by kernel_rfl) rfl fun hok => ?_
  have hl := (hok.slot 2 rfl).tr.lst.2.1
  rw [srows_len] at hl
  clear hok
  conv => whnf
  refine LoopL.by (fun x : Nat × List Bool × List Bool => ⟨[(1, .tr (ti t)), (3, .tr (intsT (setI x.2.1 0))), (4, .tr (intsT (setI x.2.2 0))), (5, .ptr 0 0), (14, .tr (stmtsT l)), (15, .tr (ti (Stmt.rows l).length)), (16, .tr (ti x.1))], [(0, prgB p)], 1⟩)
    (fun x => x.1 ≤ l.length ∧ x.2.1.length = p.shared.length ∧ x.2.2.length = p.shared.length ∧ stmtsM p t l (R0, W0) = stmtsM p t (l.drop x.1) x.2) (fun x => l.length - x.1) (0, R0, W0) [0] [] (Sub.mk' rfl (by repeat' (first | exact trivial | exact Or.inl (ti_succ (by assumption) (by assumption)) | exact Or.inl rfl | exact rfl | exact Nat.le_refl _ | apply And.intro)) (by repeat' (first | exact trivial | exact Or.inl (ti_succ (by assumption) (by assumption)) | exact Or.inl rfl | exact rfl | exact Nat.le_refl _ | apply And.intro)) rfl rfl) ⟨Nat.zero_le _, hR0, hW0, rfl⟩ ?_
  rintro ⟨i, R, W⟩ ⟨hi, hR, hW, hf⟩ -
  have hi : i ≤ l.length := hi
  have hR : R.length = p.shared.length := hR
  have hW : W.length = p.shared.length := hW
  have hf : stmtsM p t l (R0, W0) = stmtsM p t (l.drop i) (R, W) := hf
  conv => whnf
  refine csplit (fun hlt => ?_) (fun hge => ?_)
  · have hlt : i < l.length := by rw [srows_len] at hlt; simpa using hlt
    conv => whnf
    refine ⟨rfl, by omega, by rw [srows_len]; omega, fun row hrow => ?_⟩
    obtain ⟨d, hd, rfl⟩ := srows_get hrow
    replace hd : l[i]? = some d := hd
    rw [stmtsM_at hd] at hf
    clear hrow
    have hsd := size_kid2 hd
    have hlen := stmtM_len p t d (R, W)
    obtain ⟨kind, name, other, e, body, els, at_⟩ := d
    simp only [Stmt.mk.sizeOf_spec] at hsd
    conv => whnf
    refine acall.pure _ (k65 p t (SizeOf.sizeOf e + 1) e R (by omega) hR) rfl rfl fun _ => ?_
    conv => whnf
    refine csplit (fun h1 => ?_) (fun h1 => ?_)
    · have hk : kind = 1 := eq_of_beq h1
      conv => whnf
      refine acall.pure _ (k66 p t name W hW) rfl rfl fun _ => ?_
      conv => whnf
      refine csplit (fun h2 => ?_) (fun h2 => ?_)
      · have hk2 : kind = 2 := eq_of_beq h2
        omega
      conv => whnf
      have hE : stmtM p t (.mk kind name other e body els at_) (R, W) = stmtsM p t els (stmtsM p t body (exprsM p t e R, markB p t name W)) := by
        unfold stmtM; rw [show (kind == 2) = false from h2, show (kind == 1) = true from h1]; rfl
      have hb := stmtsM_len p t body (exprsM p t e R, markB p t name W)
      have hr1 : (exprsM p t e R).length = p.shared.length := by simp only [exprsM_len, markB_len]; exact hR
      have hw1 : (markB p t name W).length = p.shared.length := by first | exact hW | (simp only [markB_len]; exact hW)
      refine acall.pure _ (ih body (exprsM p t e R) (markB p t name W) (by omega) hr1 hw1) rfl rfl fun _ => ?_
      conv => whnf
      refine acall.pure _ (ih els (stmtsM p t body (exprsM p t e R, markB p t name W)).1 (stmtsM p t body (exprsM p t e R, markB p t name W)).2 (by omega) (by rw [hb.1]; exact hr1) (by rw [hb.2]; exact hw1)) rfl rfl fun _ => ?_
      conv => whnf
      exact ⟨(i + 1, stmtM p t (.mk kind name other e body els at_) (R, W)), [0], [], Sub.mk' rfl ⟨(by repeat' (first | exact trivial | exact Or.inl (ti_succ (by assumption) (by assumption)) | exact Or.inl rfl | exact rfl | exact Nat.le_refl _ | apply And.intro)), .inl (by rw [hE]), .inl (by rw [hE]), (by repeat' (first | exact trivial | exact Or.inl (ti_succ (by assumption) (by assumption)) | exact Or.inl rfl | exact rfl | exact Nat.le_refl _ | apply And.intro)), (by repeat' (first | exact trivial | exact Or.inl (ti_succ (by assumption) (by assumption)) | exact Or.inl rfl | exact rfl | exact Nat.le_refl _ | apply And.intro)), (by repeat' (first | exact trivial | exact Or.inl (ti_succ (by assumption) (by assumption)) | exact Or.inl rfl | exact rfl | exact Nat.le_refl _ | apply And.intro)), (by repeat' (first | exact trivial | exact Or.inl (ti_succ (by assumption) (by assumption)) | exact Or.inl rfl | exact rfl | exact Nat.le_refl _ | apply And.intro)), trivial⟩ (by repeat' (first | exact trivial | exact Or.inl (ti_succ (by assumption) (by assumption)) | exact Or.inl rfl | exact rfl | exact Nat.le_refl _ | apply And.intro)) rfl rfl, ⟨hlt, by rw [hlen.1]; exact hR, by rw [hlen.2]; exact hW, hf⟩, by show l.length - (i + 1) < l.length - i; omega⟩
    conv => whnf
    refine csplit (fun h2 => ?_) (fun h2 => ?_)
    · conv => whnf
      refine acall.pure _ (k66 p t name W hW) rfl rfl fun _ => ?_
      conv => whnf
      have h3 : kind = 2 := eq_of_beq h2
      refine csplit (fun h4 => ?_) (fun h4 => ?_)
      · conv => whnf
        refine acall.pure _ (k66 p t other (exprsM p t e R) (by rw [exprsM_len]; exact hR)) rfl rfl fun _ => ?_
        conv => whnf
        refine acall.pure _ (k66 p t other (markB p t name W) (by rw [markB_len]; exact hW)) rfl rfl fun _ => ?_
        conv => whnf
        have hE : stmtM p t (.mk kind name other e body els at_) (R, W) = stmtsM p t els (stmtsM p t body (markB p t other (exprsM p t e R), markB p t other (markB p t name W))) := by
          unfold stmtM; rw [show (kind == 2) = true from h2, ← exprs_comm, mark_comm p t other name]; rfl
        have hb := stmtsM_len p t body (markB p t other (exprsM p t e R), markB p t other (markB p t name W))
        have hr1 : (markB p t other (exprsM p t e R)).length = p.shared.length := by simp only [exprsM_len, markB_len]; exact hR
        have hw1 : (markB p t other (markB p t name W)).length = p.shared.length := by first | exact hW | (simp only [markB_len]; exact hW)
        refine acall.pure _ (ih body (markB p t other (exprsM p t e R)) (markB p t other (markB p t name W)) (by omega) hr1 hw1) rfl rfl fun _ => ?_
        conv => whnf
        refine acall.pure _ (ih els (stmtsM p t body (markB p t other (exprsM p t e R), markB p t other (markB p t name W))).1 (stmtsM p t body (markB p t other (exprsM p t e R), markB p t other (markB p t name W))).2 (by omega) (by rw [hb.1]; exact hr1) (by rw [hb.2]; exact hw1)) rfl rfl fun _ => ?_
        conv => whnf
        exact ⟨(i + 1, stmtM p t (.mk kind name other e body els at_) (R, W)), [0], [], Sub.mk' rfl ⟨(by repeat' (first | exact trivial | exact Or.inl (ti_succ (by assumption) (by assumption)) | exact Or.inl rfl | exact rfl | exact Nat.le_refl _ | apply And.intro)), .inl (by rw [hE]), .inl (by rw [hE]), (by repeat' (first | exact trivial | exact Or.inl (ti_succ (by assumption) (by assumption)) | exact Or.inl rfl | exact rfl | exact Nat.le_refl _ | apply And.intro)), (by repeat' (first | exact trivial | exact Or.inl (ti_succ (by assumption) (by assumption)) | exact Or.inl rfl | exact rfl | exact Nat.le_refl _ | apply And.intro)), (by repeat' (first | exact trivial | exact Or.inl (ti_succ (by assumption) (by assumption)) | exact Or.inl rfl | exact rfl | exact Nat.le_refl _ | apply And.intro)), (by repeat' (first | exact trivial | exact Or.inl (ti_succ (by assumption) (by assumption)) | exact Or.inl rfl | exact rfl | exact Nat.le_refl _ | apply And.intro)), trivial⟩ (by repeat' (first | exact trivial | exact Or.inl (ti_succ (by assumption) (by assumption)) | exact Or.inl rfl | exact rfl | exact Nat.le_refl _ | apply And.intro)) rfl rfl, ⟨hlt, by rw [hlen.1]; exact hR, by rw [hlen.2]; exact hW, hf⟩, by show l.length - (i + 1) < l.length - i; omega⟩
      · exact absurd (show (kind == 2) = false from h4) (by rw [show (kind == 2) = true from h2]; exact Bool.noConfusion)
    · conv => whnf
      refine csplit (fun h4 => ?_) (fun h4 => ?_)
      · exact absurd (show (kind == 2) = true from h4) (by rw [show (kind == 2) = false from h2]; exact Bool.noConfusion)
      · conv => whnf
        have hE : stmtM p t (.mk kind name other e body els at_) (R, W) = stmtsM p t els (stmtsM p t body (exprsM p t e R, W)) := by
          unfold stmtM; rw [show (kind == 2) = false from h2, show (kind == 1) = false from h1]; rfl
        have hb := stmtsM_len p t body (exprsM p t e R, W)
        have hr1 : (exprsM p t e R).length = p.shared.length := by simp only [exprsM_len, markB_len]; exact hR
        have hw1 : (W).length = p.shared.length := by first | exact hW | (simp only [markB_len]; exact hW)
        refine acall.pure _ (ih body (exprsM p t e R) (W) (by omega) hr1 hw1) rfl rfl fun _ => ?_
        conv => whnf
        refine acall.pure _ (ih els (stmtsM p t body (exprsM p t e R, W)).1 (stmtsM p t body (exprsM p t e R, W)).2 (by omega) (by rw [hb.1]; exact hr1) (by rw [hb.2]; exact hw1)) rfl rfl fun _ => ?_
        conv => whnf
        exact ⟨(i + 1, stmtM p t (.mk kind name other e body els at_) (R, W)), [0], [], Sub.mk' rfl ⟨(by repeat' (first | exact trivial | exact Or.inl (ti_succ (by assumption) (by assumption)) | exact Or.inl rfl | exact rfl | exact Nat.le_refl _ | apply And.intro)), .inl (by rw [hE]), .inl (by rw [hE]), (by repeat' (first | exact trivial | exact Or.inl (ti_succ (by assumption) (by assumption)) | exact Or.inl rfl | exact rfl | exact Nat.le_refl _ | apply And.intro)), (by repeat' (first | exact trivial | exact Or.inl (ti_succ (by assumption) (by assumption)) | exact Or.inl rfl | exact rfl | exact Nat.le_refl _ | apply And.intro)), (by repeat' (first | exact trivial | exact Or.inl (ti_succ (by assumption) (by assumption)) | exact Or.inl rfl | exact rfl | exact Nat.le_refl _ | apply And.intro)), (by repeat' (first | exact trivial | exact Or.inl (ti_succ (by assumption) (by assumption)) | exact Or.inl rfl | exact rfl | exact Nat.le_refl _ | apply And.intro)), trivial⟩ (by repeat' (first | exact trivial | exact Or.inl (ti_succ (by assumption) (by assumption)) | exact Or.inl rfl | exact rfl | exact Nat.le_refl _ | apply And.intro)) rfl rfl, ⟨hlt, by rw [hlen.1]; exact hR, by rw [hlen.2]; exact hW, hf⟩, by show l.length - (i + 1) < l.length - i; omega⟩
  · have hge : l.length ≤ i := by rw [srows_len] at hge; simpa using hge
    rw [List.drop_eq_nil_of_le hge] at hf
    rw [hf]
    conv => whnf
    refine ⟨fun _ => ?_, fun h => absurd rfl h⟩
    conv => whnf
    exact ⟨⟨Or.inl rfl, Or.inl rfl, trivial⟩, trivial⟩
theorem k15 (p : Prg) (t : Int) : K 15 [p.av, .tr (ti t)] [] (.ret (.tup [.tr (intsT (touchW p t).1), .tr (intsT (touchW p t).2)])) [] := by
  refine Ctr.of hT hmix Try.func15 rfl (fun _ _ => by kernel_rfl) rfl fun hok => ?_
  obtain ⟨_, hl, _⟩ := ((hok.slot 0 rfl).agg _ (.tail _ (.tail _ (.head _)))).tr.lst
  rw [List.length_map] at hl
  clear hok
  have hC := check_eq p
  conv => whnf
  refine acall.pure _ (k11 p) rfl rfl fun _ => ?_
  conv => whnf
  refine csplit (fun h1 => ?_) (fun h1 => ?_)
  · have hE : touchW p t = ([], []) := by unfold touchW; rw [hC, show ((checkF p).1 != 0) = true from h1]; rfl
    rw [hE]
    conv => whnf
    exact ⟨⟨Or.inr ⟨rfl, _, _, rfl⟩, Or.inr ⟨rfl, _, _, rfl⟩, trivial⟩, trivial⟩
  conv => whnf
  refine csplit (fun h2 => ?_) (fun h2 => ?_)
  · have hE : touchW p t = ([], []) := by unfold touchW; rw [show decide (t < 0) = true from h2, Bool.or_true]; rfl
    rw [hE]
    conv => whnf
    exact ⟨⟨Or.inr ⟨rfl, _, _, rfl⟩, Or.inr ⟨rfl, _, _, rfl⟩, trivial⟩, trivial⟩
  conv => whnf
  rw [List.length_map]
  refine csplit (fun h3 => ?_) (fun h3 => ?_)
  · have hE : touchW p t = ([], []) := by unfold touchW; rw [show decide (t ≥ p.threads.length) = true from h3, Bool.or_true]; rfl
    rw [hE]
    conv => whnf
    exact ⟨⟨Or.inr ⟨rfl, _, _, rfl⟩, Or.inr ⟨rfl, _, _, rfl⟩, trivial⟩, trivial⟩
  have hE : touchW p t = (setI (touchP p t).1 0, setI (touchP p t).2 0) := by
    unfold touchW; rw [hC, show ((checkF p).1 != 0) = false from h1, show decide (t < 0) = false from h2, show decide (t ≥ p.threads.length) = false from h3]; rfl
  rw [hE]
  have h2 : ¬ t < 0 := of_decide_eq_false h2
  have h3 : ¬ t ≥ p.threads.length := of_decide_eq_false h3
  conv => whnf
  refine ⟨rfl, by omega, by rw [List.length_map]; omega, fun row hrow => ?_⟩
  obtain ⟨th, hd, rfl⟩ := map_get hrow
  clear hrow
  have hT0 : touchP p t = stmtsM p t th.body (no p.shared.length, no p.shared.length) := by unfold touchP; rw [hd]
  have hn0 : (no p.shared.length).length = p.shared.length := List.length_replicate
  have hno : ∀ n k, setI (no n) k = [] := by intro n; induction n with | zero => intro k; rfl | succ n ih => intro k; exact ih (k + 1)
  rw [hT0]
  clear hT0
  obtain ⟨name, ls, body, at_⟩ := th
  have hk := k37 p t (SizeOf.sizeOf body + 1) body (no p.shared.length) (no p.shared.length) (by omega) hn0 hn0
  rw [hno] at hk
  conv => whnf
  refine acall.gen [] [] _ _ _ _ hk rfl rfl rfl rfl ⟨(by repeat' (first | exact trivial | exact Or.inl (ti_succ (by assumption) (by assumption)) | exact Or.inl rfl | exact rfl | exact Nat.le_refl _ | apply And.intro)), (by repeat' (first | exact trivial | exact Or.inl (ti_succ (by assumption) (by assumption)) | exact Or.inl rfl | exact rfl | exact Nat.le_refl _ | apply And.intro)), (by repeat' (first | exact trivial | exact Or.inl (ti_succ (by assumption) (by assumption)) | exact Or.inl rfl | exact rfl | exact Nat.le_refl _ | apply And.intro)), .inr ⟨rfl, _, _, rfl⟩, .inr ⟨rfl, _, _, rfl⟩, trivial⟩ (by repeat' (first | exact trivial | exact Or.inl (ti_succ (by assumption) (by assumption)) | exact Or.inl rfl | exact rfl | exact Nat.le_refl _ | apply And.intro)) rfl rfl ?_
  conv => whnf
  refine ⟨by kernel_rfl, fun _ => ?_⟩
  conv => whnf
  exact ⟨⟨Or.inl rfl, Or.inl rfl, trivial⟩, trivial⟩
theorem k40 (l : List Int) : K 40 [.tr (intsT l), .tr (intsT l)] [] (.ret (.tr (tb true))) [] := by
  refine Ctr.of hT hmix Try.func40 rfl (fun _ _ => by kernel_rfl) rfl fun hok => ?_
  have hl := (hok.slot 0 rfl).tr.lst.2.1
  rw [List.length_map] at hl
  clear hok
  conv => whnf
  refine csplit (fun h1 => ?_) (fun h1 => ?_)
  · exact absurd h1 (by simp)
  conv => whnf
  refine LoopL.by (fun i : Nat => ⟨[(0, .tr (intsT l)), (1, .tr (intsT l)), (5, .tr (ti i))], [], 0⟩)
    (fun i => i ≤ l.length) (fun i => l.length - i) 0 [] [] (Sub.mk' rfl (by repeat' (first | exact trivial | exact Or.inl (ti_succ (by assumption) (by assumption)) | exact Or.inl rfl | exact rfl | exact Nat.le_refl _ | apply And.intro)) (by repeat' (first | exact trivial | exact Or.inl (ti_succ (by assumption) (by assumption)) | exact Or.inl rfl | exact rfl | exact Nat.le_refl _ | apply And.intro)) rfl rfl) (Nat.zero_le _) ?_
  rintro i hi -
  conv => whnf
  refine csplit (fun hlt => ?_) (fun hge => ?_)
  · have hlt : i < l.length := by rw [intR_len] at hlt; simpa using hlt
    conv => whnf
    refine ⟨rfl, by omega, by rw [intR_len]; omega, fun row hrow => ?_⟩
    obtain ⟨d, hd, rfl⟩ := map_get hrow
    replace hd : l[i]? = some d := hd
    clear hrow
    conv => whnf
    refine ⟨rfl, by omega, by rw [intR_len]; omega, fun row hrow => ?_⟩
    obtain ⟨d', hd', rfl⟩ := map_get hrow
    replace hd' : l[i]? = some d' := hd'
    clear hrow
    obtain rfl := Option.some.inj (hd.symm.trans hd')
    conv => whnf
    refine ⟨by kernel_rfl, fun _ => ?_⟩
    conv => whnf
    refine csplit (fun h2 => ?_) (fun h2 => ?_)
    · exact absurd h2 (by simp)
    conv => whnf
    exact ⟨i + 1, [], [], Sub.mk' rfl ⟨(by repeat' (first | exact trivial | exact Or.inl (ti_succ (by assumption) (by assumption)) | exact Or.inl rfl | exact rfl | exact Nat.le_refl _ | apply And.intro)), (by repeat' (first | exact trivial | exact Or.inl (ti_succ (by assumption) (by assumption)) | exact Or.inl rfl | exact rfl | exact Nat.le_refl _ | apply And.intro)), .inl (ti_succ hlt (by omega)), trivial⟩ (by repeat' (first | exact trivial | exact Or.inl (ti_succ (by assumption) (by assumption)) | exact Or.inl rfl | exact rfl | exact Nat.le_refl _ | apply And.intro)) rfl rfl, hlt, by omega⟩
  · conv => whnf
    refine ⟨fun _ => ?_, fun h => absurd rfl h⟩
    conv => whnf
    exact ⟨Or.inl rfl, trivial⟩
theorem k22 (l : List Int) : K 22 [.tr (intsT l), .tr (intsT l)] [] (.ret (.tr (tb true))) [] := by
  refine Ctr.of hT hmix Try.func22 rfl (fun _ _ => by kernel_rfl) rfl fun hok => ?_
  clear hok
  conv => whnf
  refine acall.pure _ (k40 l) rfl rfl fun _ => ?_
  conv => whnf
  exact ⟨Or.inl rfl, trivial⟩
end Go.Proofs.Ytbpcbhmdjphodaa.am

namespace Go.Proofs.Ytbpcbhmdjphodaa.am
open Go Go.Proofs
def thB (name : ByteArray) (t : Thread) : Bool := seq t.name name || decide (findI t.locals name 0 ≥ 0)
def thI : List Thread → ByteArray → Nat → Int
  | [], _, _ => -1
  | t :: l, name, k => bif thB name t then k else thI l name (k + 1)
theorem thI_at {l : List Thread} {name : ByteArray} {i k : Nat} {d : Thread} (h : l[i]? = some d) : thI (l.drop i) name k = bif thB name d then (k : Int) else thI (l.drop (i + 1)) name (k + 1) := by
  rw [drop_cons h]; rfl
theorem thI_any (name : ByteArray) : ∀ (l : List Thread) (k : Nat), decide (thI l name k ≥ 0) = l.any (thB name)
  | [], k => rfl
  | t :: l, k => by
    unfold thI
    rw [List.any_cons]
    cases thB name t with
    | true => simp only [cond_true, Bool.true_or, decide_eq_true_eq]; omega
    | false => rw [cond_false, Bool.false_or, thI_any name l (k + 1)]
theorem threadI_any (name : ByteArray) : ∀ (l : List Thread) (k : Nat), decide (threadI l name k ≥ 0) = l.any (fun t => seq t.name name)
  | [], k => rfl
  | t :: l, k => by
    unfold threadI
    rw [List.any_cons]
    cases seq t.name name with
    | true => simp
    | false => simp only [Bool.false_eq_true, if_false, Bool.false_or]; exact threadI_any name l (k + 1)
def standsB (p : Prg) (name : ByteArray) : Bool := decide (findI p.shared name 0 ≥ 0) || decide (findI p.locks name 0 ≥ 0) || p.threads.any (thB name)
theorem k73 (d : Thread) (name : ByteArray) : K 73 [d.av, .ptr 0 0] [strB name] (.ret (.tr (tb (thB name d)))) [some (strB name)] := by
  refine Ctr.of hT hmix Try.func73 rfl (fun _ _ => by kernel_rfl) rfl fun hok => ?_
  clear hok
  obtain ⟨n, ls, b, a⟩ := d
  conv => whnf
  refine csplit (fun h => ?_) (fun h => ?_)
  · conv => whnf
    have h : seq n name = true := h
    exact ⟨Or.inl (congrArg tb (by unfold thB; rw [h]; rfl)), (by repeat' (first | exact trivial | exact Or.inl (ti_succ (by assumption) (by assumption)) | exact Or.inl rfl | exact rfl | exact Nat.le_refl _ | apply And.intro))⟩
  · conv => whnf
    refine acall.pure _ (k38 ls name) rfl rfl fun _ => ?_
    conv => whnf
    have h : seq n name = false := h
    exact ⟨Or.inl (congrArg tb (by unfold thB; rw [h]; rfl)), (by repeat' (first | exact trivial | exact Or.inl (ti_succ (by assumption) (by assumption)) | exact Or.inl rfl | exact rfl | exact Nat.le_refl _ | apply And.intro))⟩
theorem k88 (l : List Thread) (name : ByteArray) : K 88 [.tr (threadsT l), .fn 73 [.ptr 0 0]] [strB name] (.ret (.tr (ti (thI l name 0)))) [some (strB name)] := by
  refine Ctr.of hT hmix Try.func88 rfl (fun _ _ => by kernel_rfl) rfl fun hok => ?_
  have hl := (hok.slot 0 rfl).tr.lst.2.1
  rw [List.length_map] at hl
  clear hok
  conv => whnf
  refine LoopL.by (fun i : Nat => ⟨[(0, .tr (threadsT l)), (1, .fn 73 [.ptr 0 0]), (7, .tr (ti (l.map Thread.cells).length)), (8, .tr (ti i))], [(0, strB name)], 1⟩)
    (fun i => i ≤ l.length ∧ thI l name 0 = thI (l.drop i) name i) (fun i => l.length - i) 0 [0] [] (Sub.mk' rfl (by repeat' (first | exact trivial | exact Or.inl (ti_succ (by assumption) (by assumption)) | exact Or.inl rfl | exact rfl | exact Nat.le_refl _ | apply And.intro)) (by repeat' (first | exact trivial | exact Or.inl (ti_succ (by assumption) (by assumption)) | exact Or.inl rfl | exact rfl | exact Nat.le_refl _ | apply And.intro)) rfl rfl) ⟨Nat.zero_le _, rfl⟩ ?_
  rintro i ⟨hi, hf⟩ -
  conv => whnf
  refine csplit (fun hlt => ?_) (fun hge => ?_)
  · have hlt : i < l.length := by rw [List.length_map] at hlt; simpa using hlt
    conv => whnf
    refine ⟨rfl, by omega, by rw [List.length_map]; omega, fun row hrow => ?_⟩
    obtain ⟨d, hd, rfl⟩ := map_get hrow
    replace hd : l[i]? = some d := hd
    rw [thI_at hd] at hf
    clear hrow
    obtain ⟨n, ls, b, a⟩ := d
    conv => whnf
    refine acall.gen [0] [] _ _ _ _ (k73 ⟨n, ls, b, a⟩ name) rfl rfl rfl rfl (by repeat' (first | exact trivial | exact Or.inl (ti_succ (by assumption) (by assumption)) | exact Or.inl rfl | exact rfl | exact Nat.le_refl _ | apply And.intro)) (by repeat' (first | exact trivial | exact Or.inl (ti_succ (by assumption) (by assumption)) | exact Or.inl rfl | exact rfl | exact Nat.le_refl _ | apply And.intro)) rfl rfl fun _ => ?_
    conv => whnf
    refine csplit (fun h1 => ?_) (fun h1 => ?_)
    · conv => whnf
      exact ⟨Or.inl (congrArg ti (by rw [hf, h1]; rfl)), (by repeat' (first | exact trivial | exact Or.inl (ti_succ (by assumption) (by assumption)) | exact Or.inl rfl | exact rfl | exact Nat.le_refl _ | apply And.intro))⟩
    · conv => whnf
      exact ⟨i + 1, [0], [], (Sub.mk' rfl (by repeat' (first | exact trivial | exact Or.inl (ti_succ (by assumption) (by assumption)) | exact Or.inl rfl | exact rfl | exact Nat.le_refl _ | apply And.intro)) (by repeat' (first | exact trivial | exact Or.inl (ti_succ (by assumption) (by assumption)) | exact Or.inl rfl | exact rfl | exact Nat.le_refl _ | apply And.intro)) rfl rfl), ⟨hlt, by rw [hf, h1]; rfl⟩, by omega⟩
  · have hge : l.length ≤ i := by rw [List.length_map] at hge; simpa using hge
    rw [List.drop_eq_nil_of_le hge] at hf
    conv => whnf
    refine ⟨fun _ => ?_, fun h => absurd rfl h⟩
    conv => whnf
    exact ⟨Or.inl (congrArg ti (by rw [hf]; rfl)), (by repeat' (first | exact trivial | exact Or.inl (ti_succ (by assumption) (by assumption)) | exact Or.inl rfl | exact rfl | exact Nat.le_refl _ | apply And.intro))⟩
theorem k72 (l : List Thread) (name : ByteArray) : K 72 [.tr (threadsT l), .fn 73 [.ptr 0 0]] [strB name] (.ret (.tr (tb (l.any (thB name))))) [some (strB name)] := by
  refine Ctr.of hT hmix Try.func72 rfl (fun _ _ => by kernel_rfl) rfl fun hok => ?_
  clear hok
  conv => whnf
  refine acall.gen [0] [] _ _ _ _ (k88 l name) rfl rfl rfl rfl (by repeat' (first | exact trivial | exact Or.inl (ti_succ (by assumption) (by assumption)) | exact Or.inl rfl | exact rfl | exact Nat.le_refl _ | apply And.intro)) (by repeat' (first | exact trivial | exact Or.inl (ti_succ (by assumption) (by assumption)) | exact Or.inl rfl | exact rfl | exact Nat.le_refl _ | apply And.intro)) rfl rfl fun _ => ?_
  conv => whnf
  exact ⟨Or.inl (congrArg tb (thI_any name l 0)), (by repeat' (first | exact trivial | exact Or.inl (ti_succ (by assumption) (by assumption)) | exact Or.inl rfl | exact rfl | exact Nat.le_refl _ | apply And.intro))⟩
theorem k42 (p : Prg) (name : ByteArray) : K 42 [p.av, .tr (ts name)] [] (.ret (.tr (tb (standsB p name)))) [] := by
  refine Ctr.of hT hmix Try.func42 rfl (fun _ _ => by kernel_rfl) rfl fun hok => ?_
  clear hok
  conv => whnf
  refine acall.pure _ (k16 p name) rfl rfl fun _ => ?_
  conv => whnf
  refine csplit (fun h1 => ?_) (fun h1 => ?_)
  · conv => whnf
    exact ⟨Or.inl (congrArg tb (by unfold standsB; rw [h1]; rfl)), trivial⟩
  · conv => whnf
    refine acall.pure _ (k18 p name) rfl rfl fun _ => ?_
    conv => whnf
    refine csplit (fun h2 => ?_) (fun h2 => ?_)
    · conv => whnf
      exact ⟨Or.inl (congrArg tb (by unfold standsB; rw [h1, h2]; rfl)), trivial⟩
    · conv => whnf
      refine acall.gen [1] [] _ _ _ _ (k72 p.threads name) rfl rfl rfl rfl (by repeat' (first | exact trivial | exact Or.inl (ti_succ (by assumption) (by assumption)) | exact Or.inl rfl | exact rfl | exact Nat.le_refl _ | apply And.intro)) (by repeat' (first | exact trivial | exact Or.inl (ti_succ (by assumption) (by assumption)) | exact Or.inl rfl | exact rfl | exact Nat.le_refl _ | apply And.intro)) rfl rfl fun _ => ?_
      conv => whnf
      exact ⟨Or.inl (congrArg tb (by unfold standsB; rw [h1, h2]; rfl)), trivial⟩
def locB (name : ByteArray) (t : Thread) : Bool := decide (findI t.locals name 0 ≥ 0)
def baseB (p : Prg) (name : ByteArray) : Bool := decide (findI p.shared name 0 ≥ 0) || decide (findI p.locks name 0 ≥ 0) || decide (threadI p.threads name 0 ≥ 0)
def standsG (p : Prg) (name : ByteArray) (i : Nat) : Bool := baseB p name || (p.threads.take i).any (locB name)
theorem any_or {α : Type} (f g : α → Bool) : ∀ l : List α, (l.any f || l.any g) = l.any fun x => f x || g x
  | [] => rfl
  | x :: l => by
    simp only [List.any_cons, ← any_or f g l]
    cases f x <;> cases g x <;> simp
theorem standsG_all (p : Prg) (name : ByteArray) {i : Nat} (h : p.threads.length ≤ i) : standsG p name i = standsB p name := by
  unfold standsG baseB standsB
  rw [List.take_of_length_le h, threadI_any, Bool.or_assoc, any_or]
  rfl
theorem standsG_at (p : Prg) (name : ByteArray) {i : Nat} {d : Thread} (h : p.threads[i]? = some d) : standsG p name (i + 1) = (standsG p name i || decide (localI p i name ≥ 0)) := by
  unfold standsG
  rw [take_snoc h, List.any_append, List.any_cons, List.any_nil, Bool.or_false, Bool.or_assoc]
  have : localI p i name = findI d.locals name 0 := by
    unfold localI; rw [if_neg (by omega), Int.toNat_natCast, h]
  rw [this]; rfl
theorem k48 (p : Prg) (name : ByteArray) : K 48 [p.av, .tr (ts name)] [] (.ret (.tr (tb (standsB p name)))) [] := by
  refine Ctr.cut [2] hT hmix Try.func48 rfl (fun _ _ => by kernel_rfl) rfl fun hok => ?_
  have hl := ((hok.slot 0 rfl).agg _ (.tail _ (.tail _ (.head _)))).tr.lst.2.1
  rw [List.length_map] at hl
  clear hok
  conv => whnf
  refine CutL.by (fun _ : Unit => ⟨[(1, .tr (ts name)), (2, .ptr 0 0), (5, .tr (tb (baseB p name)))], [(0, .cells 25 [.tr (declsT p.shared), .tr (declsT p.locks), .tr (threadsT p.threads)])], 1⟩) (fun _ => True) ?_ ?_
  · conv => whnf
    refine acall.pure _ (k17 p name) rfl rfl fun _ => ?_
    conv => whnf
    refine csplit (fun h1 => ?_) (fun h1 => ?_)
    · conv => whnf
      exact ⟨(), [0], [], Sub.mk' rfl ⟨.inl rfl, ⟨rfl, rfl⟩, .inl (congrArg tb (by unfold baseB; rw [h1]; rfl)), trivial⟩ (by repeat' (first | exact trivial | exact Or.inl (ti_succ (by assumption) (by assumption)) | exact Or.inl rfl | exact rfl | exact Nat.le_refl _ | apply And.intro)) rfl rfl, trivial⟩
    · conv => whnf
      refine acall.pure _ (k19 p name) rfl rfl fun _ => ?_
      conv => whnf
      refine csplit (fun h2 => ?_) (fun h2 => ?_)
      · conv => whnf
        exact ⟨(), [0], [], Sub.mk' rfl ⟨.inl rfl, ⟨rfl, rfl⟩, .inl (congrArg tb (by unfold baseB; rw [h1, h2]; rfl)), trivial⟩ (by repeat' (first | exact trivial | exact Or.inl (ti_succ (by assumption) (by assumption)) | exact Or.inl rfl | exact rfl | exact Nat.le_refl _ | apply And.intro)) rfl rfl, trivial⟩
      · conv => whnf
        refine acall.pure _ (k79 p name) rfl rfl fun _ => ?_
        conv => whnf
        exact ⟨(), [0], [], Sub.mk' rfl ⟨.inl rfl, ⟨rfl, rfl⟩, .inl (congrArg tb (by unfold baseB; rw [h1, h2]; rfl)), trivial⟩ (by repeat' (first | exact trivial | exact Or.inl (ti_succ (by assumption) (by assumption)) | exact Or.inl rfl | exact rfl | exact Nat.le_refl _ | apply And.intro)) rfl rfl, trivial⟩
  · rintro _ - -
    conv => whnf
    refine LoopL.by (fun i : Nat => ⟨[(1, .tr (ts name)), (2, .ptr 0 0), (5, .tr (tb (standsG p name i))), (25, .tr (ti (p.threads.map Thread.cells).length)), (26, .tr (ti i))], [(0, .cells 25 [.tr (declsT p.shared), .tr (declsT p.locks), .tr (threadsT p.threads)])], 1⟩)
      (fun i => i ≤ p.threads.length) (fun i => p.threads.length - i) 0 [0] [] (Sub.mk' rfl ⟨.inl rfl, ⟨rfl, rfl⟩, .inl (congrArg tb (by unfold standsG; simp)), .inl rfl, .inl rfl, trivial⟩ (by repeat' (first | exact trivial | exact Or.inl (ti_succ (by assumption) (by assumption)) | exact Or.inl rfl | exact rfl | exact Nat.le_refl _ | apply And.intro)) rfl rfl) (Nat.zero_le _) ?_
    intro i hi _
    conv => whnf
    refine csplit (fun hlt => ?_) (fun hge => ?_)
    · have hlt : i < p.threads.length := by rw [List.length_map] at hlt; simpa using hlt
      have hs := standsG_at p name (show p.threads[i]? = some p.threads[i] by simp [hlt])
      conv => whnf
      refine csplit (fun h1 => ?_) (fun h1 => ?_)
      · conv => whnf
        exact ⟨i + 1, [0], [], Sub.mk' rfl ⟨.inl rfl, ⟨rfl, rfl⟩, .inl (congrArg tb (by rw [hs, h1]; rfl)), .inl rfl, .inl (ti_succ hlt hl), trivial⟩ (by repeat' (first | exact trivial | exact Or.inl (ti_succ (by assumption) (by assumption)) | exact Or.inl rfl | exact rfl | exact Nat.le_refl _ | apply And.intro)) rfl rfl, hlt, by omega⟩
      · conv => whnf
        refine acall.pure _ (k21 p i name) rfl rfl fun _ => ?_
        conv => whnf
        exact ⟨i + 1, [0], [], Sub.mk' rfl ⟨.inl rfl, ⟨rfl, rfl⟩, .inl (congrArg tb (by rw [hs, h1]; rfl)), .inl rfl, .inl (ti_succ hlt hl), trivial⟩ (by repeat' (first | exact trivial | exact Or.inl (ti_succ (by assumption) (by assumption)) | exact Or.inl rfl | exact rfl | exact Nat.le_refl _ | apply And.intro)) rfl rfl, hlt, by omega⟩
    · have hge : p.threads.length ≤ i := by rw [List.length_map] at hge; simpa using hge
      conv => whnf
      refine ⟨fun _ => ?_, fun h => absurd rfl h⟩
      conv => whnf
      exact ⟨Or.inl (congrArg tb (by rw [standsG_all p name hge])), trivial⟩
end Go.Proofs.Ytbpcbhmdjphodaa.am

namespace Go.Proofs.Ytbpcbhmdjphodaa.am
open Go Go.Proofs
def renE (c : Int) (p : Prg) (o n : ByteArray) : Int := bif c != 0 then c else bif (!nameB n || standsB p n || !standsB p o) then 51 else 0
def renQ (c : Int) (p : Prg) (o n : ByteArray) : Prg := bif renE c p o n == 0 then p.ren o n else ⟨[], [], []⟩
theorem trow_get {f : Thread → Thread} {i : Nat} {l : List Thread} {d : Thread} (h : l[i]? = some d) : ((upto f i l).map Thread.cells)[i]? = some d.cells := by
  rw [List.getElem?_map, upto_get h]; rfl
theorem k23 (p : Prg) (o n : ByteArray) : K 23 [p.av, .tr (ts o), .tr (ts n)] [] (.ret (.tup [(renQ (checkW p).1 p o n).av, .tr (ti (renE (checkW p).1 p o n))])) [] := by
  refine Ctr.of hT hmix Try.func23 rfl (fun _ _ => by kernel_rfl) rfl fun hok => ?_
  have hl := ((hok.slot 0 rfl).agg _ (.tail _ (.tail _ (.head _)))).tr.lst.2.1
  rw [List.length_map] at hl
  clear hok
  unfold renQ
  conv => whnf
  refine acall.pure _ (k10 p) rfl rfl fun _ => ?_
  conv => whnf
  refine csplit (fun hc => ?_) (fun hc => ?_)
  · conv => whnf
    have hE : renE (checkW p).1 p o n = (checkW p).1 := by unfold renE; rw [hc]; rfl
    rw [hE, show ((checkW p).1 == 0) = false from by simpa using hc]
    exact ⟨⟨⟨.inr ⟨rfl, _, _, rfl⟩, .inr ⟨rfl, _, _, rfl⟩, .inr ⟨rfl, _, _, rfl⟩, trivial⟩, .inl rfl, trivial⟩, trivial⟩
  · have hc : ((checkW p).1 != 0) = false := hc
    have bad : (!nameB n || standsB p n || !standsB p o) = true → renE (checkW p).1 p o n = 51 := fun h => by unfold renE; rw [hc, h]; rfl
    have good : nameB n = true → standsB p n = false → standsB p o = true → renE (checkW p).1 p o n = 0 := fun h1 h2 h3 => by unfold renE; rw [hc, h1, h2, h3]; rfl
    conv => whnf
    refine acall.pure _ (k41 n) rfl rfl fun _ => ?_
    conv => whnf
    refine csplit (fun h1 => ?_) (fun h1 => ?_)
    · conv => whnf
      have h1 : (!nameB n) = true := h1
      rw [bad (by rw [h1]; rfl)]
      exact ⟨⟨⟨.inr ⟨rfl, _, _, rfl⟩, .inr ⟨rfl, _, _, rfl⟩, .inr ⟨rfl, _, _, rfl⟩, trivial⟩, .inl rfl, trivial⟩, trivial⟩
    · have h1 : nameB n = true := by revert h1; cases nameB n <;> simp
      conv => whnf
      refine acall.pure _ (k42 p n) rfl rfl fun _ => ?_
      conv => whnf
      refine csplit (fun h2 => ?_) (fun h2 => ?_)
      · conv => whnf
        have h2 : standsB p n = true := h2
        rw [bad (by rw [h2, h1]; rfl)]
        exact ⟨⟨⟨.inr ⟨rfl, _, _, rfl⟩, .inr ⟨rfl, _, _, rfl⟩, .inr ⟨rfl, _, _, rfl⟩, trivial⟩, .inl rfl, trivial⟩, trivial⟩
      · have h2 : standsB p n = false := h2
        conv => whnf
        refine acall.pure _ (k42 p o) rfl rfl fun _ => ?_
        conv => whnf
        refine csplit (fun h3 => ?_) (fun h3 => ?_)
        · conv => whnf
          have h3 : (!standsB p o) = true := h3
          rw [bad (by rw [h3]; simp)]
          exact ⟨⟨⟨.inr ⟨rfl, _, _, rfl⟩, .inr ⟨rfl, _, _, rfl⟩, .inr ⟨rfl, _, _, rfl⟩, trivial⟩, .inl rfl, trivial⟩, trivial⟩
        · have h3 : standsB p o = true := by revert h3; cases standsB p o <;> simp
          rw [good h1 h2 h3]
          conv => whnf
          refine acall.new [] [] _ _ _ _ (o43 p) rfl rfl rfl rfl (by repeat' (first | exact trivial | exact Or.inl (ti_succ (by assumption) (by assumption)) | exact Or.inl rfl | exact rfl | exact Nat.le_refl _ | apply And.intro)) (by repeat' (first | exact trivial | exact Or.inl (ti_succ (by assumption) (by assumption)) | exact Or.inl rfl | exact rfl | exact Nat.le_refl _ | apply And.intro)) rfl rfl fun _ => ?_
          conv => whnf
          refine acall.gen [28] [] _ _ _ _ (k44 o n p.shared) rfl rfl rfl rfl ⟨⟨.inl rfl, .inl rfl, trivial⟩, ⟨rfl, (List.length_map ..).symm⟩, trivial⟩ ⟨⟨rfl, rfl, rfl, rfl, .inl rfl⟩, trivial⟩ rfl rfl fun _ => ?_
          conv => whnf
          refine acall.gen [1048604] [] _ _ _ _ (k44 o n p.locks) rfl rfl rfl rfl ⟨⟨.inl rfl, .inl rfl, trivial⟩, ⟨rfl, (List.length_map ..).symm⟩, trivial⟩ ⟨⟨rfl, rfl, rfl, rfl, .inl rfl⟩, trivial⟩ rfl rfl fun _ => ?_
          conv => whnf
          refine LoopL.by (fun i : Nat => ⟨[(6, .ptr 0 0), (10, .ptr 1 0), (11, .ptr 2 0), (53, .tr (ti p.threads.length)), (54, .tr (ti i))], [(0, .cells 25 [.tr tnil, .tr tnil, .tr tnil]), (1, .cells 25 [.sl 3 p.shared.length, .sl 4 p.locks.length, .sl 5 p.threads.length]), (2, .cells 73 [.tr (ts o), .tr (ts n)]), (3, .own 3 32 ((p.shared.map (Decl.ren o n)).map Decl.cells) []), (4, .own 3 32 ((p.locks.map (Decl.ren o n)).map Decl.cells) []), (5, .own 4 72 ((upto (Thread.ren o n) i p.threads).map Thread.cells) [])], 6⟩)
            (fun i => i ≤ p.threads.length) (fun i => p.threads.length - i) 0 [1, 32, 33, 28, 1048604, 2097180] []
            (Sub.mk' rfl ⟨⟨rfl, rfl⟩, ⟨rfl, rfl⟩, ⟨rfl, rfl⟩, .inl rfl, .inl rfl, trivial⟩ ⟨⟨rfl, .inl rfl, .inl rfl, .inl rfl, trivial⟩, ⟨rfl, ⟨rfl, rfl⟩, ⟨rfl, rfl⟩, ⟨rfl, rfl⟩, trivial⟩, ⟨rfl, .inl rfl, .inl rfl, trivial⟩, ⟨rfl, rfl, rfl, rfl, .inl rfl⟩, ⟨rfl, rfl, rfl, rfl, .inl rfl⟩, ⟨rfl, rfl, rfl, rfl, .inl (by rw [upto_zero])⟩, trivial⟩ rfl rfl) (Nat.zero_le _) ?_
          intro i hi _
          conv => whnf
          refine csplit (fun hlt => ?_) (fun hge => ?_)
          · have hlt : i < p.threads.length := by simpa using hlt
            have hd : p.threads[i]? = some p.threads[i] := by simp [hlt]
            generalize p.threads[i] = d at hd
            obtain ⟨name, ls, body, at_⟩ := d
            have hlen : i < ((upto (Thread.ren o n) i p.threads).map Thread.cells).length := by rw [List.length_map, upto_len]; exact hlt
            conv => whnf
            refine ⟨rfl, by omega, by omega, ?_⟩
            conv => whnf
            refine acall.gen [5] [] _ _ _ _ (k45 (s := name) (o := o) (n := n) (trow_get hd) rfl) rfl rfl rfl rfl (by repeat' (first | exact trivial | exact Or.inl (ti_succ (by assumption) (by assumption)) | exact Or.inl rfl | exact rfl | exact Nat.le_refl _ | apply And.intro)) (by repeat' (first | exact trivial | exact Or.inl (ti_succ (by assumption) (by assumption)) | exact Or.inl rfl | exact rfl | exact Nat.le_refl _ | apply And.intro)) rfl rfl ?_
            conv => whnf
            refine ⟨by kernel_rfl, fun _ => ?_⟩
            conv => whnf
            refine ⟨rfl, (by rw [List.length_set]; exact hlen), fun row hrow => ?_⟩
            obtain rfl := set_get hlen hrow
            clear hrow
            refine ⟨Nat.le_of_ble_eq_true rfl, fun t ht => ?_⟩
            obtain rfl := one_some (x := declsT ls) ht
            clear ht
            refine ⟨by omega, ?_⟩
            conv => whnf
            refine acall.gen [23] [] _ _ _ _ (k44 o n ls) rfl rfl rfl rfl (by repeat' (first | exact trivial | exact Or.inl (ti_succ (by assumption) (by assumption)) | exact Or.inl rfl | exact rfl | exact Nat.le_refl _ | apply And.intro)) ⟨⟨rfl, rfl, rfl, rfl, .inl rfl⟩, trivial⟩ rfl rfl ?_
            conv => whnf
            refine ⟨by kernel_rfl, fun _ => ?_⟩
            conv => whnf
            refine ⟨rfl, (by rw [List.length_set]; exact hlen), fun row hrow => ?_⟩
            obtain rfl := set_get hlen hrow
            clear hrow
            refine ⟨Nat.le_of_ble_eq_true rfl, fun t ht => ?_⟩
            obtain rfl := one_some (x := stmtsT body) ht
            clear ht
            refine ⟨by omega, ?_⟩
            conv => whnf
            refine acall.gen [29] [] _ _ _ _ (k46 o n (SizeOf.sizeOf body + 1) body (by omega)) rfl rfl rfl rfl (by repeat' (first | exact trivial | exact Or.inl (ti_succ (by assumption) (by assumption)) | exact Or.inl rfl | exact rfl | exact Nat.le_refl _ | apply And.intro)) ⟨⟨rfl, rfl, rfl, rfl, .inl rfl⟩, trivial⟩ rfl rfl ?_
            conv => whnf
            refine ⟨by kernel_rfl, fun _ => ?_⟩
            conv => whnf
            refine ⟨i + 1, [0, 1, 2, 3, 4, 5], [], Sub.pk [5, 5] ?_, hlt, by omega⟩
            conv => whnf
            refine ⟨rfl, rfl, by rw [srows_len, srows_len, Stmt.renL_eq, List.length_map]; exact Nat.le_refl _, ?_⟩
            conv => whnf
            refine ⟨rfl, rfl, by rw [List.length_map, List.length_map, List.length_map]; exact Nat.le_refl _, ?_⟩
            refine Sub0.mk' rfl ⟨⟨rfl, rfl⟩, ⟨rfl, rfl⟩, ⟨rfl, rfl⟩, .inl rfl, .inl (ti_succ hlt hl), trivial⟩ ⟨⟨rfl, .inl rfl, .inl rfl, .inl rfl, trivial⟩, ⟨rfl, ⟨rfl, rfl⟩, ⟨rfl, rfl⟩, ⟨rfl, rfl⟩, trivial⟩, ⟨rfl, .inl rfl, .inl rfl, trivial⟩, ⟨rfl, rfl, rfl, rfl, .inl rfl⟩, ⟨rfl, rfl, rfl, rfl, .inl rfl⟩, ⟨rfl, rfl, rfl, rfl, .inl ?_⟩, trivial⟩ rfl rfl
            refine (congrArg (fun r => setC r _ _ _) (setC_set hlen)).trans ((setC_set hlen).trans ?_)
            refine mrow_set hd ?_
            rw [List.take_of_length_le (l := Stmt.rows (Stmt.renL o n body)) (by rw [srows_len, srows_len, Stmt.renL_eq, List.length_map]; exact Nat.le_refl _), List.take_of_length_le (l := (ls.map (Decl.ren o n)).map Decl.cells) (by rw [List.length_map, List.length_map, List.length_map]; exact Nat.le_refl _)]
            rfl
          · have hge : p.threads.length ≤ i := by simpa using hge
            conv => whnf
            refine ⟨fun _ => ?_, fun h => absurd rfl h⟩
            conv => whnf
            refine ⟨⟨⟨⟨rfl, ?_⟩, ⟨rfl, ?_⟩, ⟨rfl, ?_⟩, trivial⟩, .inl rfl, trivial⟩, trivial⟩
            · exact ⟨by rw [List.length_map, List.length_map]; exact Nat.le_refl _, congrArg (Tr.lst 3 32) (List.take_of_length_le (l := (p.shared.map (Decl.ren o n)).map Decl.cells) (by rw [List.length_map, List.length_map]; exact Nat.le_refl _)).symm⟩
            · exact ⟨by rw [List.length_map, List.length_map]; exact Nat.le_refl _, congrArg (Tr.lst 3 32) (List.take_of_length_le (l := (p.locks.map (Decl.ren o n)).map Decl.cells) (by rw [List.length_map, List.length_map]; exact Nat.le_refl _)).symm⟩
            · refine ⟨by rw [List.length_map, upto_len]; exact Nat.le_refl _, congrArg (Tr.lst 4 72) ?_⟩
              rw [List.take_of_length_le (by rw [List.length_map, upto_len]; exact Nat.le_refl _), upto_all hge]
              rfl
theorem o23 (p : Prg) (o n : ByteArray) (h0 : renE (checkW p).1 p o n = 0) : K 23 [p.av, .tr (ts o), .tr (ts n)] [] (.ret (.tup [.agg [.sl 0 p.shared.length, .sl 1 p.locks.length, .sl 2 p.threads.length], .tr (ti 0)])) [some (.own 3 32 ((p.ren o n).shared.map Decl.cells) []), some (.own 3 32 ((p.ren o n).locks.map Decl.cells) []), some (.own 4 72 ((p.ren o n).threads.map Thread.cells) [])] := by
  refine Ctr.new [] hT hmix Try.func23 rfl (fun _ _ => by kernel_rfl) rfl fun hok => ?_
  have hl := ((hok.slot 0 rfl).agg _ (.tail _ (.tail _ (.head _)))).tr.lst.2.1
  rw [List.length_map] at hl
  clear hok
  conv => whnf
  refine acall.pure _ (k10 p) rfl rfl fun _ => ?_
  conv => whnf
  refine csplit (fun hc => ?_) (fun hc => ?_)
  · conv => whnf
    have hE : renE (checkW p).1 p o n = (checkW p).1 := by unfold renE; rw [hc]; rfl
    rw [hE] at h0; rw [h0] at hc; exact absurd hc (by simp)
  · have hc : ((checkW p).1 != 0) = false := hc
    have bad : (!nameB n || standsB p n || !standsB p o) = true → renE (checkW p).1 p o n = 51 := fun h => by unfold renE; rw [hc, h]; rfl
    have good : nameB n = true → standsB p n = false → standsB p o = true → renE (checkW p).1 p o n = 0 := fun h1 h2 h3 => by unfold renE; rw [hc, h1, h2, h3]; rfl
    conv => whnf
    refine acall.pure _ (k41 n) rfl rfl fun _ => ?_
    conv => whnf
    refine csplit (fun h1 => ?_) (fun h1 => ?_)
    · conv => whnf
      have h1 : (!nameB n) = true := h1
      rw [bad (by rw [h1]; rfl)] at h0; exact absurd h0 (by decide)
    · have h1 : nameB n = true := by revert h1; cases nameB n <;> simp
      conv => whnf
      refine acall.pure _ (k42 p n) rfl rfl fun _ => ?_
      conv => whnf
      refine csplit (fun h2 => ?_) (fun h2 => ?_)
      · conv => whnf
        have h2 : standsB p n = true := h2
        rw [bad (by rw [h2, h1]; rfl)] at h0; exact absurd h0 (by decide)
      · have h2 : standsB p n = false := h2
        conv => whnf
        refine acall.pure _ (k42 p o) rfl rfl fun _ => ?_
        conv => whnf
        refine csplit (fun h3 => ?_) (fun h3 => ?_)
        · conv => whnf
          have h3 : (!standsB p o) = true := h3
          rw [bad (by rw [h3]; simp)] at h0; exact absurd h0 (by decide)
        · have h3 : standsB p o = true := by revert h3; cases standsB p o <;> simp
          conv => whnf
          refine acall.new [] [] _ _ _ _ (o43 p) rfl rfl rfl rfl (by repeat' (first | exact trivial | exact Or.inl (ti_succ (by assumption) (by assumption)) | exact Or.inl rfl | exact rfl | exact Nat.le_refl _ | apply And.intro)) (by repeat' (first | exact trivial | exact Or.inl (ti_succ (by assumption) (by assumption)) | exact Or.inl rfl | exact rfl | exact Nat.le_refl _ | apply And.intro)) rfl rfl fun _ => ?_
          conv => whnf
          refine acall.gen [28] [] _ _ _ _ (k44 o n p.shared) rfl rfl rfl rfl ⟨⟨.inl rfl, .inl rfl, trivial⟩, ⟨rfl, (List.length_map ..).symm⟩, trivial⟩ ⟨⟨rfl, rfl, rfl, rfl, .inl rfl⟩, trivial⟩ rfl rfl fun _ => ?_
          conv => whnf
          refine acall.gen [1048604] [] _ _ _ _ (k44 o n p.locks) rfl rfl rfl rfl ⟨⟨.inl rfl, .inl rfl, trivial⟩, ⟨rfl, (List.length_map ..).symm⟩, trivial⟩ ⟨⟨rfl, rfl, rfl, rfl, .inl rfl⟩, trivial⟩ rfl rfl fun _ => ?_
          conv => whnf
          refine LoopL.by (fun i : Nat => ⟨[(6, .ptr 0 0), (10, .ptr 1 0), (11, .ptr 2 0), (53, .tr (ti p.threads.length)), (54, .tr (ti i))], [(0, .cells 25 [.tr tnil, .tr tnil, .tr tnil]), (1, .cells 25 [.sl 3 p.shared.length, .sl 4 p.locks.length, .sl 5 p.threads.length]), (2, .cells 73 [.tr (ts o), .tr (ts n)]), (3, .own 3 32 ((p.shared.map (Decl.ren o n)).map Decl.cells) []), (4, .own 3 32 ((p.locks.map (Decl.ren o n)).map Decl.cells) []), (5, .own 4 72 ((upto (Thread.ren o n) i p.threads).map Thread.cells) [])], 6⟩)
            (fun i => i ≤ p.threads.length) (fun i => p.threads.length - i) 0 [1, 32, 33, 28, 1048604, 2097180] []
            (Sub.mk' rfl ⟨⟨rfl, rfl⟩, ⟨rfl, rfl⟩, ⟨rfl, rfl⟩, .inl rfl, .inl rfl, trivial⟩ ⟨⟨rfl, .inl rfl, .inl rfl, .inl rfl, trivial⟩, ⟨rfl, ⟨rfl, rfl⟩, ⟨rfl, rfl⟩, ⟨rfl, rfl⟩, trivial⟩, ⟨rfl, .inl rfl, .inl rfl, trivial⟩, ⟨rfl, rfl, rfl, rfl, .inl rfl⟩, ⟨rfl, rfl, rfl, rfl, .inl rfl⟩, ⟨rfl, rfl, rfl, rfl, .inl (by rw [upto_zero])⟩, trivial⟩ rfl rfl) (Nat.zero_le _) ?_
          intro i hi _
          conv => whnf
          refine csplit (fun hlt => ?_) (fun hge => ?_)
          · have hlt : i < p.threads.length := by simpa using hlt
            have hd : p.threads[i]? = some p.threads[i] := by simp [hlt]
            generalize p.threads[i] = d at hd
            obtain ⟨name, ls, body, at_⟩ := d
            have hlen : i < ((upto (Thread.ren o n) i p.threads).map Thread.cells).length := by rw [List.length_map, upto_len]; exact hlt
            conv => whnf
            refine ⟨rfl, by omega, by omega, ?_⟩
            conv => whnf
            refine acall.gen [5] [] _ _ _ _ (k45 (s := name) (o := o) (n := n) (trow_get hd) rfl) rfl rfl rfl rfl (by repeat' (first | exact trivial | exact Or.inl (ti_succ (by assumption) (by assumption)) | exact Or.inl rfl | exact rfl | exact Nat.le_refl _ | apply And.intro)) (by repeat' (first | exact trivial | exact Or.inl (ti_succ (by assumption) (by assumption)) | exact Or.inl rfl | exact rfl | exact Nat.le_refl _ | apply And.intro)) rfl rfl ?_
            conv => whnf
            refine ⟨by kernel_rfl, fun _ => ?_⟩
            conv => whnf
            refine ⟨rfl, (by rw [List.length_set]; exact hlen), fun row hrow => ?_⟩
            obtain rfl := set_get hlen hrow
            clear hrow
            refine ⟨Nat.le_of_ble_eq_true rfl, fun t ht => ?_⟩
            obtain rfl := one_some (x := declsT ls) ht
            clear ht
            refine ⟨by omega, ?_⟩
            conv => whnf
            refine acall.gen [23] [] _ _ _ _ (k44 o n ls) rfl rfl rfl rfl (by repeat' (first | exact trivial | exact Or.inl (ti_succ (by assumption) (by assumption)) | exact Or.inl rfl | exact rfl | exact Nat.le_refl _ | apply And.intro)) ⟨⟨rfl, rfl, rfl, rfl, .inl rfl⟩, trivial⟩ rfl rfl ?_
            conv => whnf
            refine ⟨by kernel_rfl, fun _ => ?_⟩
            conv => whnf
            refine ⟨rfl, (by rw [List.length_set]; exact hlen), fun row hrow => ?_⟩
            obtain rfl := set_get hlen hrow
            clear hrow
            refine ⟨Nat.le_of_ble_eq_true rfl, fun t ht => ?_⟩
            obtain rfl := one_some (x := stmtsT body) ht
            clear ht
            refine ⟨by omega, ?_⟩
            conv => whnf
            refine acall.gen [29] [] _ _ _ _ (k46 o n (SizeOf.sizeOf body + 1) body (by omega)) rfl rfl rfl rfl (by repeat' (first | exact trivial | exact Or.inl (ti_succ (by assumption) (by assumption)) | exact Or.inl rfl | exact rfl | exact Nat.le_refl _ | apply And.intro)) ⟨⟨rfl, rfl, rfl, rfl, .inl rfl⟩, trivial⟩ rfl rfl ?_
            conv => whnf
            refine ⟨by kernel_rfl, fun _ => ?_⟩
            conv => whnf
            refine ⟨i + 1, [0, 1, 2, 3, 4, 5], [], Sub.pk [5, 5] ?_, hlt, by omega⟩
            conv => whnf
            refine ⟨rfl, rfl, by rw [srows_len, srows_len, Stmt.renL_eq, List.length_map]; exact Nat.le_refl _, ?_⟩
            conv => whnf
            refine ⟨rfl, rfl, by rw [List.length_map, List.length_map, List.length_map]; exact Nat.le_refl _, ?_⟩
            refine Sub0.mk' rfl ⟨⟨rfl, rfl⟩, ⟨rfl, rfl⟩, ⟨rfl, rfl⟩, .inl rfl, .inl (ti_succ hlt hl), trivial⟩ ⟨⟨rfl, .inl rfl, .inl rfl, .inl rfl, trivial⟩, ⟨rfl, ⟨rfl, rfl⟩, ⟨rfl, rfl⟩, ⟨rfl, rfl⟩, trivial⟩, ⟨rfl, .inl rfl, .inl rfl, trivial⟩, ⟨rfl, rfl, rfl, rfl, .inl rfl⟩, ⟨rfl, rfl, rfl, rfl, .inl rfl⟩, ⟨rfl, rfl, rfl, rfl, .inl ?_⟩, trivial⟩ rfl rfl
            refine (congrArg (fun r => setC r _ _ _) (setC_set hlen)).trans ((setC_set hlen).trans ?_)
            refine mrow_set hd ?_
            rw [List.take_of_length_le (l := Stmt.rows (Stmt.renL o n body)) (by rw [srows_len, srows_len, Stmt.renL_eq, List.length_map]; exact Nat.le_refl _), List.take_of_length_le (l := (ls.map (Decl.ren o n)).map Decl.cells) (by rw [List.length_map, List.length_map, List.length_map]; exact Nat.le_refl _)]
            rfl
          · have hge : p.threads.length ≤ i := by simpa using hge
            conv => whnf
            refine ⟨fun _ => ?_, fun h => absurd rfl h⟩
            conv => whnf
            exact ⟨[3, 4, 5], rfl, rfl, ⟨⟨⟨rfl, rfl⟩, ⟨rfl, rfl⟩, ⟨rfl, rfl⟩, trivial⟩, .inl rfl, trivial⟩, ⟨rfl, rfl, rfl, rfl, .inl rfl⟩, ⟨rfl, rfl, rfl, rfl, .inl rfl⟩, ⟨rfl, rfl, rfl, rfl, .inl (by rw [upto_all hge]; rfl)⟩, trivial⟩
theorem n23 (p : Prg) (o n : ByteArray) (h0 : renE (checkW p).1 p o n ≠ 0) : K 23 [p.av, .tr (ts o), .tr (ts n)] [] (.ret (.tup [.agg [.tr tnil, .tr tnil, .tr tnil], .tr (ti (renE (checkW p).1 p o n))])) [] := by
  refine Ctr.of hT hmix Try.func23 rfl (fun _ _ => by kernel_rfl) rfl fun hok => ?_
  have hl := ((hok.slot 0 rfl).agg _ (.tail _ (.tail _ (.head _)))).tr.lst.2.1
  rw [List.length_map] at hl
  clear hok
  conv => whnf
  refine acall.pure _ (k10 p) rfl rfl fun _ => ?_
  conv => whnf
  refine csplit (fun hc => ?_) (fun hc => ?_)
  · conv => whnf
    have hE : renE (checkW p).1 p o n = (checkW p).1 := by unfold renE; rw [hc]; rfl
    rw [hE]
    exact ⟨⟨⟨.inl rfl, .inl rfl, .inl rfl, trivial⟩, .inl rfl, trivial⟩, trivial⟩
  · have hc : ((checkW p).1 != 0) = false := hc
    have bad : (!nameB n || standsB p n || !standsB p o) = true → renE (checkW p).1 p o n = 51 := fun h => by unfold renE; rw [hc, h]; rfl
    have good : nameB n = true → standsB p n = false → standsB p o = true → renE (checkW p).1 p o n = 0 := fun h1 h2 h3 => by unfold renE; rw [hc, h1, h2, h3]; rfl
    conv => whnf
    refine acall.pure _ (k41 n) rfl rfl fun _ => ?_
    conv => whnf
    refine csplit (fun h1 => ?_) (fun h1 => ?_)
    · conv => whnf
      have h1 : (!nameB n) = true := h1
      rw [bad (by rw [h1]; rfl)]
      exact ⟨⟨⟨.inl rfl, .inl rfl, .inl rfl, trivial⟩, .inl rfl, trivial⟩, trivial⟩
    · have h1 : nameB n = true := by revert h1; cases nameB n <;> simp
      conv => whnf
      refine acall.pure _ (k42 p n) rfl rfl fun _ => ?_
      conv => whnf
      refine csplit (fun h2 => ?_) (fun h2 => ?_)
      · conv => whnf
        have h2 : standsB p n = true := h2
        rw [bad (by rw [h2, h1]; rfl)]
        exact ⟨⟨⟨.inl rfl, .inl rfl, .inl rfl, trivial⟩, .inl rfl, trivial⟩, trivial⟩
      · have h2 : standsB p n = false := h2
        conv => whnf
        refine acall.pure _ (k42 p o) rfl rfl fun _ => ?_
        conv => whnf
        refine csplit (fun h3 => ?_) (fun h3 => ?_)
        · conv => whnf
          have h3 : (!standsB p o) = true := h3
          rw [bad (by rw [h3]; simp)]
          exact ⟨⟨⟨.inl rfl, .inl rfl, .inl rfl, trivial⟩, .inl rfl, trivial⟩, trivial⟩
        · have h3 : standsB p o = true := by revert h3; cases standsB p o <;> simp
          exact absurd (good h1 h2 h3) h0
theorem k24 (p : Prg) (o n : ByteArray) : K 24 [p.av, .tr (ts o), .tr (ts n)] [] (.ret (.tup [(renQ (checkF p).1 p o n).av, .tr (ti (renE (checkF p).1 p o n))])) [] := by
  refine Ctr.of hT hmix Try.func24 rfl (fun _ _ => by kernel_rfl) rfl fun hok => ?_
  have hl := ((hok.slot 0 rfl).agg _ (.tail _ (.tail _ (.head _)))).tr.lst.2.1
  rw [List.length_map] at hl
  clear hok
  unfold renQ
  conv => whnf
  refine acall.pure _ (k11 p) rfl rfl fun _ => ?_
  conv => whnf
  refine csplit (fun hc => ?_) (fun hc => ?_)
  · conv => whnf
    have hE : renE (checkF p).1 p o n = (checkF p).1 := by unfold renE; rw [hc]; rfl
    rw [hE, show ((checkF p).1 == 0) = false from by simpa using hc]
    exact ⟨⟨⟨.inr ⟨rfl, _, _, rfl⟩, .inr ⟨rfl, _, _, rfl⟩, .inr ⟨rfl, _, _, rfl⟩, trivial⟩, .inl rfl, trivial⟩, trivial⟩
  · have hc : ((checkF p).1 != 0) = false := hc
    have bad : (!nameB n || standsB p n || !standsB p o) = true → renE (checkF p).1 p o n = 51 := fun h => by unfold renE; rw [hc, h]; rfl
    have good : nameB n = true → standsB p n = false → standsB p o = true → renE (checkF p).1 p o n = 0 := fun h1 h2 h3 => by unfold renE; rw [hc, h1, h2, h3]; rfl
    conv => whnf
    refine acall.pure _ (k47 n) rfl rfl fun _ => ?_
    conv => whnf
    refine csplit (fun h1 => ?_) (fun h1 => ?_)
    · conv => whnf
      have h1 : (!nameB n) = true := h1
      rw [bad (by rw [h1]; rfl)]
      exact ⟨⟨⟨.inr ⟨rfl, _, _, rfl⟩, .inr ⟨rfl, _, _, rfl⟩, .inr ⟨rfl, _, _, rfl⟩, trivial⟩, .inl rfl, trivial⟩, trivial⟩
    · have h1 : nameB n = true := by revert h1; cases nameB n <;> simp
      conv => whnf
      refine acall.pure _ (k48 p n) rfl rfl fun _ => ?_
      conv => whnf
      refine csplit (fun h2 => ?_) (fun h2 => ?_)
      · conv => whnf
        have h2 : standsB p n = true := h2
        rw [bad (by rw [h2, h1]; rfl)]
        exact ⟨⟨⟨.inr ⟨rfl, _, _, rfl⟩, .inr ⟨rfl, _, _, rfl⟩, .inr ⟨rfl, _, _, rfl⟩, trivial⟩, .inl rfl, trivial⟩, trivial⟩
      · have h2 : standsB p n = false := h2
        conv => whnf
        refine acall.pure _ (k48 p o) rfl rfl fun _ => ?_
        conv => whnf
        refine csplit (fun h3 => ?_) (fun h3 => ?_)
        · conv => whnf
          have h3 : (!standsB p o) = true := h3
          rw [bad (by rw [h3]; simp)]
          exact ⟨⟨⟨.inr ⟨rfl, _, _, rfl⟩, .inr ⟨rfl, _, _, rfl⟩, .inr ⟨rfl, _, _, rfl⟩, trivial⟩, .inl rfl, trivial⟩, trivial⟩
        · have h3 : standsB p o = true := by revert h3; cases standsB p o <;> simp
          rw [good h1 h2 h3]
          conv => whnf
          refine acall.new [] [] _ _ _ _ (o9 p) rfl rfl rfl rfl (by repeat' (first | exact trivial | exact Or.inl (ti_succ (by assumption) (by assumption)) | exact Or.inl rfl | exact rfl | exact Nat.le_refl _ | apply And.intro)) (by repeat' (first | exact trivial | exact Or.inl (ti_succ (by assumption) (by assumption)) | exact Or.inl rfl | exact rfl | exact Nat.le_refl _ | apply And.intro)) rfl rfl fun _ => ?_
          conv => whnf
          refine acall.gen [28] [] _ _ _ _ (k49 o n p.shared) rfl rfl rfl rfl ⟨⟨rfl, (List.length_map ..).symm⟩, .inl rfl, .inl rfl, trivial⟩ ⟨⟨rfl, rfl, rfl, rfl, .inl rfl⟩, trivial⟩ rfl rfl fun _ => ?_
          conv => whnf
          refine acall.gen [1048604] [] _ _ _ _ (k49 o n p.locks) rfl rfl rfl rfl ⟨⟨rfl, (List.length_map ..).symm⟩, .inl rfl, .inl rfl, trivial⟩ ⟨⟨rfl, rfl, rfl, rfl, .inl rfl⟩, trivial⟩ rfl rfl fun _ => ?_
          conv => whnf
          refine LoopL.by (fun i : Nat => ⟨[(1, .tr (ts o)), (2, .tr (ts n)), (6, .ptr 0 0), (10, .ptr 1 0), (50, .tr (ti p.threads.length)), (51, .tr (ti i))], [(0, .cells 25 [.tr tnil, .tr tnil, .tr tnil]), (1, .cells 25 [.sl 2 p.shared.length, .sl 3 p.locks.length, .sl 4 p.threads.length]), (2, .own 3 32 ((p.shared.map (Decl.ren o n)).map Decl.cells) []), (3, .own 3 32 ((p.locks.map (Decl.ren o n)).map Decl.cells) []), (4, .own 4 72 ((upto (Thread.ren o n) i p.threads).map Thread.cells) [])], 5⟩)
            (fun i => i ≤ p.threads.length) (fun i => p.threads.length - i) 0 [1, 29, 28, 1048604, 2097180] []
            (Sub.mk' rfl ⟨.inl rfl, .inl rfl, ⟨rfl, rfl⟩, ⟨rfl, rfl⟩, .inl rfl, .inl rfl, trivial⟩ ⟨⟨rfl, .inl rfl, .inl rfl, .inl rfl, trivial⟩, ⟨rfl, ⟨rfl, rfl⟩, ⟨rfl, rfl⟩, ⟨rfl, rfl⟩, trivial⟩, ⟨rfl, rfl, rfl, rfl, .inl rfl⟩, ⟨rfl, rfl, rfl, rfl, .inl rfl⟩, ⟨rfl, rfl, rfl, rfl, .inl (by rw [upto_zero])⟩, trivial⟩ rfl rfl) (Nat.zero_le _) ?_
          intro i hi _
          conv => whnf
          refine csplit (fun hlt => ?_) (fun hge => ?_)
          · have hlt : i < p.threads.length := by simpa using hlt
            have hd : p.threads[i]? = some p.threads[i] := by simp [hlt]
            generalize p.threads[i] = d at hd
            obtain ⟨name, ls, body, at_⟩ := d
            have hlen : i < ((upto (Thread.ren o n) i p.threads).map Thread.cells).length := by rw [List.length_map, upto_len]; exact hlt
            conv => whnf
            refine ⟨rfl, by omega, by omega, ?_⟩
            conv => whnf
            refine ⟨rfl, hlen, fun row hrow => ?_⟩
            obtain rfl := mrow_get hd hrow
            clear hrow
            refine ⟨Nat.le_of_ble_eq_true rfl, fun t ht => ?_⟩
            obtain rfl := one_some (x := ts name) ht
            clear ht
            conv => whnf
            refine acall.pure _ (k50 name o n) rfl rfl ?_
            conv => whnf
            refine ⟨rfl, by omega, by omega, ?_⟩
            conv => whnf
            refine ⟨rfl, rfl, rfl, hlen, trivial, fun row hrow => ?_⟩
            obtain rfl := mrow_get hd hrow
            clear hrow
            refine ⟨Nat.le_of_ble_eq_true rfl, ?_⟩
            conv => whnf
            refine ⟨by kernel_rfl, fun _ => ?_⟩
            conv => whnf
            refine ⟨rfl, by omega, by omega, ?_⟩
            conv => whnf
            refine ⟨rfl, (by rw [List.length_set]; exact hlen), fun row hrow => ?_⟩
            obtain rfl := set_get hlen hrow
            clear hrow
            refine ⟨Nat.le_of_ble_eq_true rfl, fun t ht => ?_⟩
            obtain rfl := one_some (x := declsT ls) ht
            clear ht
            refine ⟨by omega, ?_⟩
            conv => whnf
            refine acall.gen [28] [] _ _ _ _ (k49 o n ls) rfl rfl rfl rfl (by repeat' (first | exact trivial | exact Or.inl (ti_succ (by assumption) (by assumption)) | exact Or.inl rfl | exact rfl | exact Nat.le_refl _ | apply And.intro)) ⟨⟨rfl, rfl, rfl, rfl, .inl rfl⟩, trivial⟩ rfl rfl fun _ => ?_
            conv => whnf
            refine ⟨rfl, by omega, by omega, ?_⟩
            conv => whnf
            refine ⟨rfl, (by rw [List.length_set]; exact hlen), fun row hrow => ?_⟩
            obtain rfl := set_get hlen hrow
            clear hrow
            refine ⟨Nat.le_of_ble_eq_true rfl, fun t ht => ?_⟩
            obtain rfl := one_some (x := stmtsT body) ht
            clear ht
            refine ⟨by omega, ?_⟩
            conv => whnf
            refine acall.gen [37] [] _ _ _ _ (k51 o n (SizeOf.sizeOf body + 1) body (by omega)) rfl rfl rfl rfl (by repeat' (first | exact trivial | exact Or.inl (ti_succ (by assumption) (by assumption)) | exact Or.inl rfl | exact rfl | exact Nat.le_refl _ | apply And.intro)) ⟨⟨rfl, rfl, rfl, rfl, .inl rfl⟩, trivial⟩ rfl rfl fun _ => ?_
            conv => whnf
            refine ⟨i + 1, [0, 1, 2, 3, 4], [], Sub.pk [4, 4] ?_, hlt, by omega⟩
            conv => whnf
            refine ⟨rfl, rfl, by rw [srows_len, srows_len, Stmt.renL_eq, List.length_map]; exact Nat.le_refl _, ?_⟩
            conv => whnf
            refine ⟨rfl, rfl, by rw [List.length_map, List.length_map, List.length_map]; exact Nat.le_refl _, ?_⟩
            refine Sub0.mk' rfl ⟨.inl rfl, .inl rfl, ⟨rfl, rfl⟩, ⟨rfl, rfl⟩, .inl rfl, .inl (ti_succ hlt hl), trivial⟩ ⟨⟨rfl, .inl rfl, .inl rfl, .inl rfl, trivial⟩, ⟨rfl, ⟨rfl, rfl⟩, ⟨rfl, rfl⟩, ⟨rfl, rfl⟩, trivial⟩, ⟨rfl, rfl, rfl, rfl, .inl rfl⟩, ⟨rfl, rfl, rfl, rfl, .inl rfl⟩, ⟨rfl, rfl, rfl, rfl, .inl ?_⟩, trivial⟩ rfl rfl
            refine (congrArg (fun r => setC r _ _ _) (setC_set hlen)).trans ((setC_set hlen).trans ?_)
            refine mrow_set hd ?_
            rw [List.take_of_length_le (l := Stmt.rows (Stmt.renL o n body)) (by rw [srows_len, srows_len, Stmt.renL_eq, List.length_map]; exact Nat.le_refl _), List.take_of_length_le (l := (ls.map (Decl.ren o n)).map Decl.cells) (by rw [List.length_map, List.length_map, List.length_map]; exact Nat.le_refl _)]
            rfl
          · have hge : p.threads.length ≤ i := by simpa using hge
            conv => whnf
            refine ⟨fun _ => ?_, fun h => absurd rfl h⟩
            conv => whnf
            refine ⟨⟨⟨⟨rfl, ?_⟩, ⟨rfl, ?_⟩, ⟨rfl, ?_⟩, trivial⟩, .inl rfl, trivial⟩, trivial⟩
            · exact ⟨by rw [List.length_map, List.length_map]; exact Nat.le_refl _, congrArg (Tr.lst 3 32) (List.take_of_length_le (l := (p.shared.map (Decl.ren o n)).map Decl.cells) (by rw [List.length_map, List.length_map]; exact Nat.le_refl _)).symm⟩
            · exact ⟨by rw [List.length_map, List.length_map]; exact Nat.le_refl _, congrArg (Tr.lst 3 32) (List.take_of_length_le (l := (p.locks.map (Decl.ren o n)).map Decl.cells) (by rw [List.length_map, List.length_map]; exact Nat.le_refl _)).symm⟩
            · refine ⟨by rw [List.length_map, upto_len]; exact Nat.le_refl _, congrArg (Tr.lst 4 72) ?_⟩
              rw [List.take_of_length_le (by rw [List.length_map, upto_len]; exact Nat.le_refl _), upto_all hge]
              rfl
end Go.Proofs.Ytbpcbhmdjphodaa.am

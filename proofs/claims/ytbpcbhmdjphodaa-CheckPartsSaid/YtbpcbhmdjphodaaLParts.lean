/- Plain: a renamed program is one, and back it is as it was. Plain: a renamed program is one, and back it is as it was: its trees. Plain: a program without one of its threads, or without a statement of one, is one. Contracts: Copy, whose list of threads is its asker's own. Contract: the law CheckParts: true. a program without one of its threads, or without a statement of one, is one: for every input the law returns true, and each argument reads as it did. No condition of its own. -/
import Derived.Test.YtbpcbhmdjphodaaH5
import Derived.Test.YtbpcbhmdjphodaaH3
import Derived.Test.YtbpcbhmdjphodaaH4
import Derived.Test.YtbpcbhmdjphodaaRows
import Derived.Deep.DeepHandedRow
import Derived.ProofKit
set_option linter.all false

namespace Go.Proofs.Ytbpcbhmdjphodaa.am
open Go
theorem loop_eq (a : ByteArray) : ∀ (k i : Nat) (r : List UInt8), a.size - i = k → ByteArray.toList.loop a i r = r.reverse ++ a.data.toList.drop i := by
  intro k
  induction k with
  | zero =>
    intro i r h
    unfold ByteArray.toList.loop
    rw [if_neg (by omega), List.drop_of_length_le (by rw [Array.length_toList]; exact Nat.le_of_sub_eq_zero h), List.append_nil]
  | succ k ih =>
    intro i r h
    have hi : i < a.data.toList.length := by rw [Array.length_toList]; show i < a.size; omega
    unfold ByteArray.toList.loop
    rw [if_pos (by omega), ih (i + 1) _ (by omega), List.reverse_cons, List.append_assoc, List.drop_eq_getElem_cons hi]
    congr 2
    show [a.get! i] ++ _ = _
    have : a.get! i = a.data.toList[i] := by
      show a.data[i]! = _
      rw [Array.getElem_toList]
      exact getElem!_pos a.data i (by rw [Array.length_toList] at hi; exact hi)
    rw [this]; rfl
theorem toList_data (a : ByteArray) : a.toList = a.data.toList := by
  unfold ByteArray.toList
  rw [loop_eq a a.size 0 [] rfl]
  rfl
theorem seq_iff {a b : ByteArray} : seq a b = true ↔ a = b := by
  unfold seq
  rw [beq_iff_eq, toList_data, toList_data]
  exact ⟨fun h => ByteArray.ext (Array.toList_inj.1 h), fun h => by rw [h]⟩
theorem seq_self (a : ByteArray) : seq a a = true := seq_iff.2 rfl
theorem seq_ne {a b : ByteArray} (h : a ≠ b) : seq a b = false := by
  cases hb : seq a b with
  | false => rfl
  | true => exact absurd (seq_iff.1 hb) h
theorem ren_o (o n : ByteArray) : ren o n o = n := by unfold ren; rw [seq_self]; rfl
theorem ren_ne {o n s : ByteArray} (h : s ≠ o) : ren o n s = s := by unfold ren; rw [seq_ne h]; rfl
theorem ren_back {o n s : ByteArray} (h : s ≠ n) : ren n o (ren o n s) = s := by
  by_cases e : s = o
  · rw [e, ren_o, ren_o]
  · rw [ren_ne e, ren_ne h]
theorem ren_seq {o n s d : ByteArray} (hs : s ≠ n) (hd : d ≠ n) : seq (ren o n d) (ren o n s) = seq d s := by
  by_cases e1 : s = o <;> by_cases e2 : d = o
  · rw [e1, e2, seq_self, seq_self]
  · rw [e1, ren_o, ren_ne e2, seq_ne hd, seq_ne e2]
  · rw [e2, ren_o, ren_ne e1, seq_ne (fun h => hs h.symm), seq_ne (fun h => e1 h.symm)]
  · rw [ren_ne e1, ren_ne e2]
theorem ren_out {o n d : ByteArray} (hno : n ≠ o) : ren o n d ≠ o := by
  by_cases e : d = o
  · rw [e, ren_o]; exact hno
  · rw [ren_ne e]; exact e

/-! where a name does not stand -/
def Lacks (n : ByteArray) (l : List Decl) : Prop := ∀ d ∈ l, d.name ≠ n
theorem findI_ge (n : ByteArray) : ∀ (l : List Decl) (k : Nat), findI l n k = -1 ∨ (k : Int) ≤ findI l n k
  | [], k => .inl rfl
  | d :: l, k => by
    unfold findI
    split
    · exact .inr (Int.le_refl _)
    · rcases findI_ge n l (k + 1) with h | h
      · exact .inl h
      · exact .inr (by omega)
theorem findI_lacks (n : ByteArray) : ∀ (l : List Decl) (k : Nat), Lacks n l → findI l n k = -1
  | [], _, _ => rfl
  | d :: l, k, h => by
    unfold findI
    rw [if_neg (by rw [seq_ne (h d (by simp))]; simp)]
    exact findI_lacks n l (k + 1) fun x hx => h x (by simp [hx])
theorem lacks_of (n : ByteArray) : ∀ (l : List Decl) (k : Nat), decide (findI l n k ≥ 0) = false → Lacks n l
  | [], _, _ => fun _ h => by simp at h
  | d :: l, k, h => by
    unfold findI at h
    intro x hx
    split at h
    · have := of_decide_eq_false h; omega
    · rename_i h1
      simp only [List.mem_cons] at hx
      rcases hx with rfl | hx
      · exact fun e => h1 (by rw [e]; exact seq_self n)
      · exact lacks_of n l (k + 1) h x hx
theorem findI_ren {o n s : ByteArray} (hs : s ≠ n) : ∀ (l : List Decl) (k : Nat), Lacks n l → findI (l.map (Decl.ren o n)) (ren o n s) k = findI l s k
  | [], _, _ => rfl
  | d :: l, k, h => by
    rw [List.map_cons]
    unfold findI
    rw [show (Decl.ren o n d).name = ren o n d.name from rfl, ren_seq hs (h d (by simp)), findI_ren hs l (k + 1) fun x hx => h x (by simp [hx])]
theorem threadI_ren {o n s : ByteArray} (hs : s ≠ n) : ∀ (l : List Thread) (k : Nat), (∀ t ∈ l, t.name ≠ n) → threadI (l.map (Thread.ren o n)) (ren o n s) k = threadI l s k
  | [], _, _ => rfl
  | d :: l, k, h => by
    rw [List.map_cons]
    unfold threadI
    rw [show (Thread.ren o n d).name = ren o n d.name from rfl, ren_seq hs (h d (by simp)), threadI_ren hs l (k + 1) fun x hx => h x (by simp [hx])]
theorem threadI_lacks (n : ByteArray) : ∀ (l : List Thread) (k : Nat), (∀ t ∈ l, t.name ≠ n) → threadI l n k = -1
  | [], _, _ => rfl
  | d :: l, k, h => by
    unfold threadI
    rw [if_neg (by rw [seq_ne (h d (by simp))]; simp)]
    exact threadI_lacks n l (k + 1) fun x hx => h x (by simp [hx])
structure Fresh (n : ByteArray) (p : Prg) : Prop where
  sh : Lacks n p.shared
  lo : Lacks n p.locks
  th : ∀ t ∈ p.threads, t.name ≠ n ∧ Lacks n t.locals
theorem fresh_of {p : Prg} {n : ByteArray} (h : standsB p n = false) : Fresh n p := by
  unfold standsB at h
  rw [Bool.or_eq_false_iff, Bool.or_eq_false_iff] at h
  refine ⟨lacks_of n _ 0 h.1.1, lacks_of n _ 0 h.1.2, fun t ht => ?_⟩
  have := List.any_eq_false.1 h.2 t ht
  unfold thB at this
  rw [Bool.not_eq_true, Bool.or_eq_false_iff] at this
  exact ⟨fun e => by rw [e, seq_self] at this; exact absurd this.1 (by simp), lacks_of n _ 0 this.2⟩
theorem fresh_stands {p : Prg} {n : ByteArray} (h : Fresh n p) : standsB p n = false := by
  unfold standsB
  rw [findI_lacks n _ 0 h.sh, findI_lacks n _ 0 h.lo]
  refine Bool.or_eq_false_iff.2 ⟨rfl, ?_⟩
  rw [List.any_eq_false]
  intro t ht
  unfold thB
  rw [seq_ne (h.th t ht).1, findI_lacks n _ 0 (h.th t ht).2]
  simp
theorem localI_lacks {p : Prg} {n : ByteArray} (h : Fresh n p) (t : Int) : localI p t n = -1 := by
  unfold localI
  split
  · rfl
  · split
    · rename_i th hth; exact findI_lacks n _ 0 (h.th th (List.mem_of_getElem? hth)).2
    · rfl
section
variable {p : Prg} {o n : ByteArray} (hF : Fresh n p)
include hF
theorem localI_ren {s : ByteArray} (hs : s ≠ n) (t : Int) : localI (p.ren o n) t (ren o n s) = localI p t s := by
  unfold localI
  split
  · rfl
  · show (match (p.threads.map (Thread.ren o n))[t.toNat]? with | some th => findI th.locals (ren o n s) 0 | none => -1) = _
    rw [List.getElem?_map]
    cases hth : p.threads[t.toNat]? with
    | none => rfl
    | some th => exact findI_ren hs _ 0 (hF.th th (List.mem_of_getElem? hth)).2
theorem variableI_ren {s : ByteArray} (hs : s ≠ n) (t : Int) (b : Bool) : variableI (p.ren o n) t (ren o n s) b = variableI p t s b := by
  unfold variableI
  rw [localI_ren hF hs, show (p.ren o n).shared = p.shared.map (Decl.ren o n) from rfl, show (p.ren o n).locks = p.locks.map (Decl.ren o n) from rfl, show (p.ren o n).threads = p.threads.map (Thread.ren o n) from rfl,
    findI_ren hs _ 0 hF.sh, findI_ren hs _ 0 hF.lo, threadI_ren hs _ 0 fun t ht => (hF.th t ht).1]
theorem lockI_ren {s : ByteArray} (hs : s ≠ n) (t : Int) : lockI (p.ren o n) t (ren o n s) = lockI p t s := by
  unfold lockI
  rw [localI_ren hF hs, show (p.ren o n).shared = p.shared.map (Decl.ren o n) from rfl, show (p.ren o n).locks = p.locks.map (Decl.ren o n) from rfl, show (p.ren o n).threads = p.threads.map (Thread.ren o n) from rfl,
    findI_ren hs _ 0 hF.sh, findI_ren hs _ 0 hF.lo, threadI_ren hs _ 0 fun t ht => (hF.th t ht).1]
theorem variableI_n (t : Int) (b : Bool) : variableI p t n b = 5 := by
  unfold variableI
  rw [localI_lacks hF, findI_lacks n _ 0 hF.sh, findI_lacks n _ 0 hF.lo, threadI_lacks n _ 0 fun t ht => (hF.th t ht).1]
  rfl
theorem lockI_n (t : Int) : lockI p t n = 5 := by
  unfold lockI
  rw [localI_lacks hF, findI_lacks n _ 0 hF.sh, findI_lacks n _ 0 hF.lo, threadI_lacks n _ 0 fun t ht => (hF.th t ht).1]
  rfl
theorem var_ne {s : ByteArray} {t : Int} {b : Bool} (h : variableI p t s b = 0) : s ≠ n := fun e => by rw [e, variableI_n hF] at h; exact absurd h (by decide)
theorem lock_ne {s : ByteArray} {t : Int} (h : lockI p t s = 0) : s ≠ n := fun e => by rw [e, lockI_n hF] at h; exact absurd h (by decide)
theorem markB_ren {s : ByteArray} (hs : s ≠ n) (t : Int) (l : List Bool) : markB (p.ren o n) t (ren o n s) l = markB p t s l := by
  unfold markB
  rw [localI_ren hF hs, show (p.ren o n).shared = p.shared.map (Decl.ren o n) from rfl, findI_ren hs _ 0 hF.sh]
end
theorem noS_ren {o n s : ByteArray} (ho : noS o = false) (hn : noS n = false) : noS (ren o n s) = noS s := by
  by_cases e : s = o
  · rw [e, ren_o, ho, hn]
  · rw [ren_ne e]
theorem noS_ne {n s : ByteArray} (hn : noS n = false) (hs : noS s = true) : s ≠ n := fun e => by rw [e, hn] at hs; cases hs
theorem nameB_noS {n : ByteArray} (h : nameB n = true) : noS n = false := by
  cases hs : noS n with
  | false => rfl
  | true =>
    have : n = ⟨#[]⟩ := seq_iff.1 hs
    subst this
    exact absurd h (by decide)
theorem deepI_0 {r deep : Int} (h : (deepI r deep != 0) = false) : r = 0 := by
  unfold deepI at h
  cases hr : (r == 0) with
  | true => simpa using hr
  | false => rw [hr, Bool.false_and, cond_false] at h; simpa using h
theorem leastI_0 {a b : Int} (h : leastI a b = 0) : a = 0 ∧ b = 0 := by
  unfold leastI at h
  cases ha : (a == 0) with
  | true => rw [ha] at h; exact ⟨by simpa using ha, h⟩
  | false =>
    rw [ha, Bool.false_or] at h
    cases hb : (decide (b > 0) && decide (b < a)) with
    | true => rw [hb, cond_true] at h; rw [h] at hb; simp at hb
    | false => rw [hb, cond_false] at h; rw [h] at ha; simp at ha
theorem erows_ren (o n : ByteArray) (l : List Expr) : (Expr.rows (Expr.renL o n l)).length = (Expr.rows l).length := by rw [erows_len, erows_len, Expr.renL_eq, List.length_map]
theorem srows_ren (o n : ByteArray) (l : List Stmt) : (Stmt.rows (Stmt.renL o n l)).length = (Stmt.rows l).length := by rw [srows_len, srows_len, Stmt.renL_eq, List.length_map]
theorem partsB_ren {o n : ByteArray} (ho : noS o = false) (hn : noS n = false) (e : Expr) : partsB (e.ren o n) = partsB e := by
  obtain ⟨k, op, w, nm, ks, a⟩ := e
  simp only [Expr.ren, partsB, noS_ren ho hn, erows_ren]
theorem fieldsB_ren {o n : ByteArray} (ho : noS o = false) (hn : noS n = false) (s : Stmt) : fieldsB (s.ren o n) = fieldsB s := by
  obtain ⟨k, nm, ot, e, b, el, a⟩ := s
  simp only [Stmt.ren, fieldsB, noS_ren ho hn, erows_ren, srows_ren]
end Go.Proofs.Ytbpcbhmdjphodaa.am

namespace Go.Proofs.Ytbpcbhmdjphodaa.am
open Go
section
variable {p : Prg} {o n : ByteArray} (hF : Fresh n p) (ho : noS o = false) (hn : noS n = false)
include hF ho hn
mutual
theorem expr_ren (t : Int) : ∀ (e : Expr) (deep : Int), (exprF p t e deep).rule = 0 → (exprF (p.ren o n) t (e.ren o n) deep).rule = 0 ∧ (e.ren o n).ren n o = e ∧ ∀ R, exprM (p.ren o n) t (e.ren o n) R = exprM p t e R
  | .mk kind op word name kids at_, deep, h => by
    have hp := partsB_ren ho hn (.mk kind op word name kids at_)
    unfold exprF at h
    cases h1 : partsB (.mk kind op word name kids at_) with
    | false => rw [h1] at h; exact absurd (show (4 : Int) = 0 from h) (by decide)
    | true =>
    rw [h1, Bool.not_true, cond_false] at h
    cases h2 : (deepI (bif kind == 2 then variableI p t name false else 0) deep != 0) with
    | true =>
      rw [h2, cond_true] at h
      have h : deepI (bif kind == 2 then variableI p t name false else 0) deep = 0 := h
      rw [h] at h2; exact absurd h2 (by decide)
    | false =>
    rw [h2, cond_false] at h
    have h0 := deepI_0 h2
    have hname : name ≠ n := by
      cases hk : (kind == 2) with
      | true => rw [hk] at h0; exact var_ne hF h0
      | false =>
        refine noS_ne hn ?_
        simp only [partsB] at h1
        rw [hk] at h1
        cases k1 : (kind == 1) <;> rw [k1] at h1
        · cases k3 : (kind == 3) <;> rw [k3] at h1
          · cases k4 : (kind == 4) <;> rw [k4] at h1
            · exact absurd h1 (by simp)
            · simp only [cond_true, cond_false, Bool.and_eq_true] at h1; exact h1.1.1.2
          · simp only [cond_true, cond_false, Bool.and_eq_true] at h1; exact h1.1.1.2
        · simp only [cond_true, Bool.and_eq_true] at h1; exact h1.1.1.2
    obtain ⟨r1, r2, r3⟩ := exprs_ren t kids (deep + 1) h
    refine ⟨?_, ?_, fun R => ?_⟩
    · show (exprF (p.ren o n) t (.mk kind op word (ren o n name) (Expr.renL o n kids) at_) deep).rule = 0
      have hp : partsB (.mk kind op word (ren o n name) (Expr.renL o n kids) at_) = partsB (.mk kind op word name kids at_) := hp
      unfold exprF
      rw [hp, h1, Bool.not_true, cond_false, variableI_ren hF hname, h2, cond_false]
      exact r1
    · show Expr.mk kind op word (ren n o (ren o n name)) (Expr.renL n o (Expr.renL o n kids)) at_ = _
      rw [ren_back hname, r2]
    · show exprM (p.ren o n) t (.mk kind op word (ren o n name) (Expr.renL o n kids) at_) R = _
      unfold exprM
      rw [r3, markB_ren hF hname]
theorem exprs_ren (t : Int) : ∀ (l : List Expr) (deep : Int), (exprsF p t l deep).rule = 0 → (exprsF (p.ren o n) t (Expr.renL o n l) deep).rule = 0 ∧ Expr.renL n o (Expr.renL o n l) = l ∧ ∀ R, exprsM (p.ren o n) t (Expr.renL o n l) R = exprsM p t l R
  | [], deep, h => ⟨rfl, rfl, fun R => rfl⟩
  | e :: l, deep, h => by
    unfold exprsF at h
    cases h1 : ((exprF p t e deep).rule != 0) with
    | true =>
      rw [h1, cond_true] at h
      rw [h] at h1; exact absurd h1 (by decide)
    | false =>
    rw [h1, cond_false] at h
    obtain ⟨a1, a2, a3⟩ := expr_ren t e deep (by simpa using h1)
    obtain ⟨b1, b2, b3⟩ := exprs_ren t l deep h
    refine ⟨?_, ?_, fun R => ?_⟩
    · show (exprsF (p.ren o n) t (Expr.ren o n e :: Expr.renL o n l) deep).rule = 0
      unfold exprsF
      rw [a1]
      exact b1
    · show Expr.ren n o (Expr.ren o n e) :: Expr.renL n o (Expr.renL o n l) = _
      rw [a2, b2]
    · show exprsM (p.ren o n) t (Expr.ren o n e :: Expr.renL o n l) R = _
      unfold exprsM
      rw [a3, b3]
end
mutual
theorem stmt_ren (t : Int) : ∀ (s : Stmt) (deep : Int), (stmtF p t s deep).rule = 0 → (stmtF (p.ren o n) t (s.ren o n) deep).rule = 0 ∧ (s.ren o n).ren n o = s ∧ ∀ x, stmtM (p.ren o n) t (s.ren o n) x = stmtM p t s x
  | .mk kind name other e body els at_, deep, h => by
    have hp := fieldsB_ren ho hn (.mk kind name other e body els at_)
    unfold stmtF at h
    cases h1 : fieldsB (.mk kind name other e body els at_) with
    | false => rw [h1] at h; exact absurd (show (4 : Int) = 0 from h) (by decide)
    | true =>
    rw [h1, Bool.not_true, cond_false] at h
    cases h2 : (deepI (namesI p t kind name other) deep != 0) with
    | true =>
      rw [h2, cond_true] at h
      have h : deepI (namesI p t kind name other) deep = 0 := h
      rw [h] at h2; exact absurd h2 (by decide)
    | false =>
    rw [h2, cond_false] at h
    have h0 := deepI_0 h2
    have hnames : name ≠ n ∧ other ≠ n := by
      unfold namesI at h0
      simp only [fieldsB] at h1
      cases k1 : (kind == 1) <;> rw [k1] at h0 h1
      · cases k2 : (kind == 2) <;> rw [k2] at h0 h1
        · cases k3 : (kind == 3) <;> rw [k3] at h1
          · cases k4 : (kind == 4) <;> rw [k4] at h1
            · cases k5 : (kind == 5) <;> rw [k5] at h0 h1
              · cases k6 : (kind == 6) <;> rw [k6] at h1
                · cases k7 : (kind == 7) <;> rw [k7] at h1
                  · exact absurd h1 (by simp)
                  · simp only [cond_true, cond_false, Bool.and_eq_true] at h1; exact ⟨noS_ne hn h1.1.1.1.1, noS_ne hn h1.1.1.1.2⟩
                · simp only [cond_true, cond_false, Bool.and_eq_true] at h1; exact ⟨noS_ne hn h1.1.1.1.1, noS_ne hn h1.1.1.1.2⟩
              · simp only [cond_true, cond_false, Bool.and_eq_true] at h0 h1; exact ⟨lock_ne hF h0, noS_ne hn h1.1.1⟩
            · simp only [cond_true, cond_false, Bool.and_eq_true] at h1; exact ⟨noS_ne hn h1.1.1.1, noS_ne hn h1.1.1.2⟩
          · simp only [cond_true, cond_false, Bool.and_eq_true] at h1; exact ⟨noS_ne hn h1.1.1, noS_ne hn h1.1.2⟩
        · simp only [cond_true, cond_false] at h0
          obtain ⟨q1, q2⟩ := leastI_0 h0
          exact ⟨var_ne hF q1, var_ne hF q2⟩
      · simp only [cond_true, Bool.and_eq_true] at h0 h1; exact ⟨var_ne hF h0, noS_ne hn h1.1.1.1⟩
    obtain ⟨hname, hother⟩ := hnames
    have hN : namesI (p.ren o n) t kind (ren o n name) (ren o n other) = namesI p t kind name other := by
      unfold namesI
      rw [variableI_ren hF hname, variableI_ren hF hother, lockI_ren hF hname]
    cases h3 : ((exprsF p t e 1).rule != 0) with
    | true => rw [h3, cond_true] at h; rw [h] at h3; exact absurd h3 (by decide)
    | false =>
    rw [h3, cond_false] at h
    cases h4 : ((stmtsF p t body (deep + 1)).rule != 0) with
    | true => rw [h4, cond_true] at h; rw [h] at h4; exact absurd h4 (by decide)
    | false =>
    rw [h4, cond_false] at h
    obtain ⟨a1, a2, a3⟩ := exprs_ren hF ho hn t e 1 (by simpa using h3)
    obtain ⟨b1, b2, b3⟩ := stmts_ren t body (deep + 1) (by simpa using h4)
    obtain ⟨c1, c2, c3⟩ := stmts_ren t els (deep + 1) h
    refine ⟨?_, ?_, fun x => ?_⟩
    · show (stmtF (p.ren o n) t (.mk kind (ren o n name) (ren o n other) (Expr.renL o n e) (Stmt.renL o n body) (Stmt.renL o n els) at_) deep).rule = 0
      have hp : fieldsB (.mk kind (ren o n name) (ren o n other) (Expr.renL o n e) (Stmt.renL o n body) (Stmt.renL o n els) at_) = fieldsB (.mk kind name other e body els at_) := hp
      unfold stmtF
      rw [hp, h1, hN, h2, a1, b1]
      exact c1
    · show Stmt.mk kind (ren n o (ren o n name)) (ren n o (ren o n other)) (Expr.renL n o (Expr.renL o n e)) (Stmt.renL n o (Stmt.renL o n body)) (Stmt.renL n o (Stmt.renL o n els)) at_ = _
      rw [ren_back hname, ren_back hother, a2, b2, c2]
    · obtain ⟨R, W⟩ := x
      show stmtM (p.ren o n) t (.mk kind (ren o n name) (ren o n other) (Expr.renL o n e) (Stmt.renL o n body) (Stmt.renL o n els) at_) (R, W) = _
      unfold stmtM
      rw [a3, b3, c3, markB_ren hF hname, markB_ren hF hother, markB_ren hF hother, markB_ren hF hname]
theorem stmts_ren (t : Int) : ∀ (l : List Stmt) (deep : Int), (stmtsF p t l deep).rule = 0 → (stmtsF (p.ren o n) t (Stmt.renL o n l) deep).rule = 0 ∧ Stmt.renL n o (Stmt.renL o n l) = l ∧ ∀ x, stmtsM (p.ren o n) t (Stmt.renL o n l) x = stmtsM p t l x
  | [], deep, h => ⟨rfl, rfl, fun R => rfl⟩
  | e :: l, deep, h => by
    unfold stmtsF at h
    cases h1 : ((stmtF p t e deep).rule != 0) with
    | true =>
      rw [h1, cond_true] at h
      rw [h] at h1; exact absurd h1 (by decide)
    | false =>
    rw [h1, cond_false] at h
    obtain ⟨a1, a2, a3⟩ := stmt_ren t e deep (by simpa using h1)
    obtain ⟨b1, b2, b3⟩ := stmts_ren t l deep h
    refine ⟨?_, ?_, fun R => ?_⟩
    · show (stmtsF (p.ren o n) t (Stmt.ren o n e :: Stmt.renL o n l) deep).rule = 0
      unfold stmtsF
      rw [a1]
      exact b1
    · show Stmt.ren n o (Stmt.ren o n e) :: Stmt.renL n o (Stmt.renL o n l) = _
      rw [a2, b2]
    · show stmtsM (p.ren o n) t (Stmt.ren o n e :: Stmt.renL o n l) R = _
      unfold stmtsM
      rw [a3, b3]
end
end
/-! declarations -/
def DOk (p : Prg) (kind most : Int) (pre : List Decl) (l : List Decl) : Prop := ∀ (j : Nat) (d : Decl), l[j]? = some d → declI p kind (pre ++ l.take j) d ((pre.length + j : Nat) : Int) most = 0
theorem decls_ok {p : Prg} {kind most : Int} : ∀ (l pre : List Decl), (declsF p kind most pre l).rule = 0 ↔ DOk p kind most pre l
  | [], pre => ⟨fun _ j d h => by simp at h, fun _ => rfl⟩
  | d :: l, pre => by
    have ih := decls_ok (p := p) (kind := kind) (most := most) l (pre ++ [d])
    unfold declsF
    constructor
    · intro h
      cases h1 : (declI p kind pre d pre.length most != 0) with
      | true => rw [h1, cond_true] at h; have h : declI p kind pre d pre.length most = 0 := h; rw [h] at h1; exact absurd h1 (by decide)
      | false =>
        rw [h1, cond_false] at h
        intro j d' hj
        cases j with
        | zero =>
          rw [List.getElem?_cons_zero] at hj; cases hj
          rw [List.take_zero, List.append_nil, Nat.add_zero]; simpa using h1
        | succ j =>
          rw [List.getElem?_cons_succ] at hj
          have := ih.1 h j d' hj
          rw [List.take_succ_cons, List.append_cons]
          rw [List.length_append, List.length_singleton] at this
          rw [show pre.length + (j + 1) = pre.length + 1 + j by omega]
          exact this
    · intro h
      have h0 := h 0 d rfl
      rw [List.take_zero, List.append_nil, Nat.add_zero] at h0
      rw [h0]
      refine ih.2 fun j d' hj => ?_
      have := h (j + 1) d' hj
      rw [List.take_succ_cons, List.append_cons] at this
      rw [List.length_append, List.length_singleton, show pre.length + 1 + j = pre.length + (j + 1) by omega]
      exact this
structure TOk2 (p : Prg) (k : Nat) (t : Thread) : Prop where
  nm : nameB t.name = true
  one : (decide (findI p.shared t.name 0 ≥ 0) || decide (findI p.locks t.name 0 ≥ 0) || decide (threadI p.threads t.name 0 < k)) = false
  few : decide ((k : Int) ≥ 8) = false
  locals : (declsF p 2 64 [] t.locals).rule = 0
  body : (stmtsF p k t.body 1).rule = 0
theorem threads_ok {p : Prg} : ∀ (l : List Thread) (i : Nat) (f : Flt), (threadsF p i l f).rule = 0 ↔ f.rule = 0 ∧ ∀ (j : Nat) (t : Thread), l[j]? = some t → TOk2 p (i + j) t
  | [], i, f => ⟨fun h => ⟨h, fun j t hj => by simp at hj⟩, fun h => h.1⟩
  | t :: l, i, f => by
    have ih := threads_ok (p := p) l (i + 1)
    unfold threadsF
    cases h1 : (f.rule != 0) with
    | true =>
      have : f.rule ≠ 0 := by simpa using h1
      exact ⟨fun h => absurd h this, fun h => absurd h.1 this⟩
    | false =>
    have hf : f.rule = 0 := by simpa using h1
    rw [cond_false]
    cases h2 : nameB t.name with
    | false => exact ⟨fun h => absurd h (by decide : (1 : Int) ≠ 0), fun h => absurd (h.2 0 t rfl).nm (by rw [h2]; simp)⟩
    | true =>
    rw [Bool.not_true, cond_false]
    cases h3 : (decide (findI p.shared t.name 0 ≥ 0) || decide (findI p.locks t.name 0 ≥ 0) || decide (threadI p.threads t.name 0 < i)) with
    | true => exact ⟨fun h => absurd h (by decide : (2 : Int) ≠ 0), fun h => absurd (h.2 0 t rfl).one (by rw [Nat.add_zero, h3]; simp)⟩
    | false =>
    rw [cond_false]
    cases h4 : decide ((i : Int) ≥ 8) with
    | true => exact ⟨fun h => absurd h (by decide : (3 : Int) ≠ 0), fun h => absurd (h.2 0 t rfl).few (by rw [Nat.add_zero, h4]; simp)⟩
    | false =>
    rw [cond_false, ih]
    constructor
    · rintro ⟨h5, h6⟩
      refine ⟨hf, fun j t' hj => ?_⟩
      cases j with
      | zero =>
        rw [List.getElem?_cons_zero] at hj; cases hj
        cases h7 : ((declsF p 2 64 [] t.locals).rule == 0) with
        | false =>
          rw [h7, cond_false] at h5
          rw [h5] at h7; exact absurd h7 (by decide)
        | true =>
          rw [h7, cond_true] at h5
          exact ⟨h2, h3, h4, by simpa using h7, h5⟩
      | succ j =>
        rw [List.getElem?_cons_succ] at hj
        have := h6 j t' hj
        rw [show i + 1 + j = i + (j + 1) by omega] at this
        exact this
    · rintro ⟨_, h⟩
      have h0 := h 0 t rfl
      refine ⟨?_, fun j t' hj => ?_⟩
      · rw [h0.locals]; exact h0.body
      · have := h (j + 1) t' hj
        rw [show i + (j + 1) = i + 1 + j by omega] at this
        exact this
structure POk (p : Prg) : Prop where
  sh : DOk p 0 64 [] p.shared
  lo : DOk p 1 16 [] p.locks
  th : ∀ (j : Nat) (t : Thread), p.threads[j]? = some t → TOk2 p j t
theorem first_ok (p : Prg) : (firstF p).rule = 0 ↔ POk p := by
  unfold firstF
  rw [threads_ok]
  constructor
  · rintro ⟨h1, h2⟩
    cases h : ((declsF p 0 64 [] p.shared).rule == 0) with
    | true =>
      rw [h, cond_true] at h1
      exact ⟨(decls_ok _ _).1 (by simpa using h), (decls_ok _ _).1 h1, fun j t hj => by have := h2 j t hj; rwa [Nat.zero_add] at this⟩
    | false => rw [h, cond_false] at h1; rw [h1] at h; exact absurd h (by decide)
  · rintro ⟨h1, h2, h3⟩
    refine ⟨?_, fun j t hj => by rw [Nat.zero_add]; exact h3 j t hj⟩
    rw [(decls_ok _ _).2 h1]
    exact (decls_ok _ _).2 h2
theorem check_ok (p : Prg) : (checkF p).1 = 0 ↔ POk p := by
  rw [← first_ok]
  unfold checkF
  cases h : ((firstF p).rule != 0) with
  | true =>
    have : (firstF p).rule ≠ 0 := by simpa using h
    exact ⟨fun h => absurd h (by decide : (50 : Int) ≠ 0), fun h => absurd h this⟩
  | false => exact ⟨fun _ => by simpa using h, fun _ => rfl⟩
end Go.Proofs.Ytbpcbhmdjphodaa.am

namespace Go.Proofs.Ytbpcbhmdjphodaa.am
open Go
section
variable {p p' : Prg} {t t' : Int} (hs : p'.shared = p.shared) (hl : p'.locks = p.locks) (hc : ∀ s, localI p' t' s = localI p t s)
include hs hl hc
theorem var_keep {s : ByteArray} {b : Bool} (h : variableI p t s b = 0) : variableI p' t' s b = 0 := by
  unfold variableI at h ⊢
  rw [hc, hs, hl]
  cases h1 : decide (localI p t s ≥ 0) with
  | true => rw [h1] at h; exact h
  | false =>
    rw [h1, cond_false] at h
    rw [cond_false]
    cases h2 : decide (findI p.shared s 0 ≥ 0) with
    | true => rfl
    | false =>
      rw [h2, cond_false] at h
      cases hh : (decide (findI p.locks s 0 ≥ 0) || decide (threadI p.threads s 0 ≥ 0)) with
      | true => rw [hh] at h; exact absurd h (by decide)
      | false => rw [hh] at h; exact absurd h (by decide)
theorem lock_keep {s : ByteArray} (h : lockI p t s = 0) : lockI p' t' s = 0 := by
  unfold lockI at h ⊢
  rw [hc, hs, hl]
  cases h1 : decide (localI p t s ≥ 0) with
  | true => rw [h1] at h; exact h
  | false =>
    rw [h1, cond_false] at h
    rw [cond_false]
    cases h2 : decide (findI p.locks s 0 ≥ 0) with
    | true => rfl
    | false =>
      rw [h2, cond_false] at h
      cases hh : (decide (findI p.shared s 0 ≥ 0) || decide (threadI p.threads s 0 ≥ 0)) with
      | true => rw [hh] at h; exact absurd h (by decide)
      | false => rw [hh] at h; exact absurd h (by decide)
theorem names_keep {kind : Int} {a b : ByteArray} (h : namesI p t kind a b = 0) : namesI p' t' kind a b = 0 := by
  unfold namesI at h ⊢
  cases h1 : (kind == 1) with
  | true => rw [h1] at h; exact var_keep hs hl hc h
  | false =>
  rw [h1, cond_false] at h
  rw [cond_false]
  cases h2 : (kind == 2) with
  | true =>
    rw [h2, cond_true] at h
    obtain ⟨q1, q2⟩ := leastI_0 h
    rw [cond_true, var_keep hs hl hc q1, var_keep hs hl hc q2]; rfl
  | false =>
  rw [h2, cond_false] at h
  rw [cond_false]
  cases h3 : (kind == 5) with
  | true => rw [h3] at h; exact lock_keep hs hl hc h
  | false => rfl
mutual
theorem expr_keep : ∀ (e : Expr) (deep : Int), (exprF p t e deep).rule = 0 → (exprF p' t' e deep).rule = 0
  | .mk kind op word name kids at_, deep, h => by
    unfold exprF at h ⊢
    cases h1 : partsB (.mk kind op word name kids at_) with
    | false => rw [h1] at h; exact absurd (show (4 : Int) = 0 from h) (by decide)
    | true =>
    rw [h1, Bool.not_true, cond_false] at h
    rw [Bool.not_true, cond_false]
    cases h2 : (deepI (bif kind == 2 then variableI p t name false else 0) deep != 0) with
    | true =>
      rw [h2, cond_true] at h
      have h : deepI (bif kind == 2 then variableI p t name false else 0) deep = 0 := h
      rw [h] at h2; exact absurd h2 (by decide)
    | false =>
    rw [h2, cond_false] at h
    have h0 := deepI_0 h2
    have h0' : (bif kind == 2 then variableI p' t' name false else 0) = 0 := by
      cases hk : (kind == 2) with
      | true => rw [hk] at h0; exact var_keep hs hl hc h0
      | false => rfl
    rw [h0] at h2
    rw [h0', h2, cond_false]
    exact exprs_keep kids (deep + 1) h
theorem exprs_keep : ∀ (l : List Expr) (deep : Int), (exprsF p t l deep).rule = 0 → (exprsF p' t' l deep).rule = 0
  | [], deep, h => rfl
  | e :: l, deep, h => by
    unfold exprsF at h ⊢
    cases h1 : ((exprF p t e deep).rule != 0) with
    | true =>
      rw [h1, cond_true] at h
      rw [h] at h1; exact absurd h1 (by decide)
    | false =>
    rw [h1, cond_false] at h
    rw [expr_keep e deep (by simpa using h1)]
    exact exprs_keep l deep h
end
mutual
theorem stmt_keep : ∀ (s : Stmt) (deep : Int), (stmtF p t s deep).rule = 0 → (stmtF p' t' s deep).rule = 0
  | .mk kind name other e body els at_, deep, h => by
    unfold stmtF at h ⊢
    cases h1 : fieldsB (.mk kind name other e body els at_) with
    | false => rw [h1] at h; exact absurd (show (4 : Int) = 0 from h) (by decide)
    | true =>
    rw [h1, Bool.not_true, cond_false] at h
    rw [Bool.not_true, cond_false]
    cases h2 : (deepI (namesI p t kind name other) deep != 0) with
    | true =>
      rw [h2, cond_true] at h
      have h : deepI (namesI p t kind name other) deep = 0 := h
      rw [h] at h2; exact absurd h2 (by decide)
    | false =>
    rw [h2, cond_false] at h
    have h0 := deepI_0 h2
    have h0' := names_keep hs hl hc h0
    rw [h0] at h2
    rw [h0', h2, cond_false]
    cases h3 : ((exprsF p t e 1).rule != 0) with
    | true => rw [h3, cond_true] at h; rw [h] at h3; exact absurd h3 (by decide)
    | false =>
    rw [h3, cond_false] at h
    cases h4 : ((stmtsF p t body (deep + 1)).rule != 0) with
    | true => rw [h4, cond_true] at h; rw [h] at h4; exact absurd h4 (by decide)
    | false =>
    rw [h4, cond_false] at h
    rw [exprs_keep hs hl hc e 1 (by simpa using h3), stmts_keep body (deep + 1) (by simpa using h4)]
    exact stmts_keep els (deep + 1) h
theorem stmts_keep : ∀ (l : List Stmt) (deep : Int), (stmtsF p t l deep).rule = 0 → (stmtsF p' t' l deep).rule = 0
  | [], deep, h => rfl
  | e :: l, deep, h => by
    unfold stmtsF at h ⊢
    cases h1 : ((stmtF p t e deep).rule != 0) with
    | true =>
      rw [h1, cond_true] at h
      rw [h] at h1; exact absurd h1 (by decide)
    | false =>
    rw [h1, cond_false] at h
    rw [stmt_keep e deep (by simpa using h1)]
    exact stmts_keep l deep h
end
end
theorem stmts_all {p : Prg} {t deep : Int} : ∀ {l : List Stmt}, (stmtsF p t l deep).rule = 0 ↔ ∀ s ∈ l, (stmtF p t s deep).rule = 0
  | [] => ⟨fun _ s h => by simp at h, fun _ => rfl⟩
  | e :: l => by
    unfold stmtsF
    cases h1 : ((stmtF p t e deep).rule != 0) with
    | true =>
      have : (stmtF p t e deep).rule ≠ 0 := by simpa using h1
      exact ⟨fun h => absurd h this, fun h => absurd (h e (by simp)) this⟩
    | false =>
      have : (stmtF p t e deep).rule = 0 := by simpa using h1
      rw [cond_false, stmts_all (l := l)]
      simp [this]
theorem dok_keep {p p' : Prg} (hs : p'.shared = p.shared) (hl : p'.locks = p.locks) {kind most : Int} {pre l : List Decl} (h : DOk p kind most pre l) : DOk p' kind most pre l := by
  intro j d hj
  have := h j d hj
  unfold declI twiceB at this ⊢
  rw [hs, hl]
  exact this
/-- the thread's name is the first of its kind -/
theorem threadI_first {s : ByteArray} : ∀ {l : List Thread} {k i : Nat} {t : Thread}, l[k]? = some t → seq t.name s = true → (decide (threadI l s i < ((i + k : Nat) : Int)) = false ↔ ∀ (j : Nat) (t' : Thread), j < k → l[j]? = some t' → seq t'.name s = false)
  | [], k, i, t, h, _ => by simp at h
  | d :: l, k, i, t, h, hn => by
    unfold threadI
    cases k with
    | zero =>
      rw [List.getElem?_cons_zero] at h; cases h
      rw [if_pos hn]
      exact ⟨fun _ j t' hj => by omega, fun _ => decide_eq_false (by omega)⟩
    | succ k =>
      rw [List.getElem?_cons_succ] at h
      by_cases hd : seq d.name s = true
      · rw [if_pos hd]
        exact ⟨fun h' => absurd (of_decide_eq_false h') (by omega), fun h' => by have := h' 0 d (by omega) rfl; rw [hd] at this; cases this⟩
      · rw [if_neg hd, show i + (k + 1) = i + 1 + k by omega, threadI_first (i := i + 1) h hn]
        constructor
        · intro h' j t' hj ht'
          cases j with
          | zero => rw [List.getElem?_cons_zero] at ht'; cases ht'; simpa using hd
          | succ j => rw [List.getElem?_cons_succ] at ht'; exact h' j t' (by omega) ht'
        · intro h' j t' hj ht'
          exact h' (j + 1) t' (by omega) (by rw [List.getElem?_cons_succ]; exact ht')
theorem tok_keep {p p' : Prg} (hs : p'.shared = p.shared) (hl : p'.locks = p.locks) {k k' : Nat} {t : Thread} (hk : p.threads[k]? = some t) (hkk : k' ≤ k) {t' : Thread} (hk' : p'.threads[k']? = some t') (hn : t'.name = t.name) (hlo : t'.locals = t.locals)
    (hb : ∀ s ∈ t'.body, s ∈ t.body) (hf : ∀ (j : Nat) (x : Thread), j < k' → p'.threads[j]? = some x → ∃ i x', i < k ∧ p.threads[i]? = some x' ∧ x'.name = x.name) (h : TOk2 p k t) : TOk2 p' k' t' := by
  have ho := h.one
  rw [Bool.or_eq_false_iff, Bool.or_eq_false_iff] at ho
  obtain ⟨⟨o1, o2⟩, o3⟩ := ho
  have hloc : ∀ s, localI p' (k' : Nat) s = localI p (k : Nat) s := fun s => by
    unfold localI
    rw [if_neg (by omega), if_neg (by omega), Int.toNat_natCast, Int.toNat_natCast, hk, hk']
    show findI t'.locals s 0 = findI t.locals s 0
    rw [hlo]
  refine ⟨by rw [hn]; exact h.nm, ?_, ?_, ?_, ?_⟩
  · rw [hs, hl, hn, o1, o2, Bool.false_or, Bool.false_or]
    have h3 := (threadI_first (s := t.name) (i := 0) hk (seq_self _)).1 (by rw [Nat.zero_add]; exact o3)
    have := (threadI_first (s := t.name) (i := 0) hk' (by rw [hn]; exact seq_self _)).2 fun j x hj hx => by
      obtain ⟨i, x', h1, h2, h4⟩ := hf j x hj hx
      rw [← h4]; exact h3 i x' h1 h2
    rw [Nat.zero_add] at this
    exact this
  · have := of_decide_eq_false h.few
    exact decide_eq_false (by omega)
  · rw [hlo]; exact (decls_ok _ _).2 (dok_keep hs hl ((decls_ok _ _).1 h.locals))
  · exact stmts_all.2 fun s hsb => stmt_keep hs hl hloc s 1 (stmts_all.1 h.body s (hb s hsb))
/-- without a thread, or a statement -/
def partsQ (p : Prg) (t : Nat) (th : Thread) (s : Int) : Prg :=
  bif decide (s ≥ 0) && decide (s < th.body.length) then ⟨p.shared, p.locks, p.threads.set t ⟨th.name, th.locals, th.body.take s.toNat ++ th.body.drop (s.toNat + 1), th.at_⟩⟩
  else ⟨p.shared, p.locks, p.threads.take t ++ p.threads.drop (t + 1)⟩
theorem parts_ok {p : Prg} (h : POk p) {t : Nat} {th : Thread} (ht : p.threads[t]? = some th) (s : Int) : POk (partsQ p t th s) := by
  have htl := (List.getElem?_eq_some_iff.1 ht).1
  unfold partsQ
  cases (decide (s ≥ 0) && decide (s < th.body.length)) with
  | true =>
    rw [cond_true]
    refine ⟨dok_keep rfl rfl h.sh, dok_keep rfl rfl h.lo, fun j t' hj => ?_⟩
    have hback : ∀ (j : Nat) (x : Thread), (p.threads.set t ⟨th.name, th.locals, th.body.take s.toNat ++ th.body.drop (s.toNat + 1), th.at_⟩)[j]? = some x → ∃ x', p.threads[j]? = some x' ∧ x'.name = x.name ∧ x'.locals = x.locals ∧ ∀ y ∈ x.body, y ∈ x'.body := fun j x hx => by
      by_cases e : t = j
      · subst e
        rw [List.getElem?_set_self htl] at hx
        cases hx
        refine ⟨th, ht, rfl, rfl, fun y hy => ?_⟩
        rw [List.mem_append] at hy
        exact hy.elim List.mem_of_mem_take List.mem_of_mem_drop
      · rw [List.getElem?_set_ne e] at hx
        exact ⟨x, hx, rfl, rfl, fun _ h => h⟩
    have hj' : (p.threads.set t ⟨th.name, th.locals, th.body.take s.toNat ++ th.body.drop (s.toNat + 1), th.at_⟩)[j]? = some t' := hj
    obtain ⟨x', h1, h2, h3, h4⟩ := hback j t' hj'
    exact tok_keep (p := p) (p' := ⟨p.shared, p.locks, p.threads.set t ⟨th.name, th.locals, th.body.take s.toNat ++ th.body.drop (s.toNat + 1), th.at_⟩⟩) rfl rfl h1 (Nat.le_refl j) hj h2.symm h3.symm h4 (fun i x hi hx => by
      obtain ⟨y, g1, g2, _⟩ := hback i x hx
      exact ⟨i, y, hi, g1, g2⟩) (h.th j x' h1)
  | false =>
    rw [cond_false]
    refine ⟨dok_keep rfl rfl h.sh, dok_keep rfl rfl h.lo, fun j t' hj => ?_⟩
    have hlen : (p.threads.take t).length = t := by rw [List.length_take]; omega
    have hback : ∀ (j : Nat) (x : Thread), (p.threads.take t ++ p.threads.drop (t + 1))[j]? = some x → (j < t ∧ p.threads[j]? = some x) ∨ (t ≤ j ∧ p.threads[j + 1]? = some x) := fun j x hx => by
      by_cases e : j < t
      · rw [List.getElem?_append_left (by omega), List.getElem?_take, if_pos e] at hx
        exact .inl ⟨e, hx⟩
      · rw [List.getElem?_append_right (by omega), hlen, List.getElem?_drop] at hx
        exact .inr ⟨by omega, by rw [← hx]; congr 1; omega⟩
    have hj' : (p.threads.take t ++ p.threads.drop (t + 1))[j]? = some t' := hj
    rcases hback j t' hj' with ⟨g0, g1⟩ | ⟨g0, g1⟩
    · exact tok_keep (p := p) (p' := ⟨p.shared, p.locks, p.threads.take t ++ p.threads.drop (t + 1)⟩) rfl rfl g1 (Nat.le_refl j) hj rfl rfl (fun _ h => h) (fun i x hi hx => by
        rcases hback i x hx with ⟨q0, q1⟩ | ⟨q0, q1⟩
        · exact ⟨i, x, hi, q1, rfl⟩
        · omega) (h.th j t' g1)
    · exact tok_keep (p := p) (p' := ⟨p.shared, p.locks, p.threads.take t ++ p.threads.drop (t + 1)⟩) rfl rfl g1 (Nat.le_succ j) hj rfl rfl (fun _ h => h) (fun i x hi hx => by
        rcases hback i x hx with ⟨q0, q1⟩ | ⟨q0, q1⟩
        · exact ⟨i, x, by omega, q1, rfl⟩
        · exact ⟨i + 1, x, by omega, q1, rfl⟩) (h.th (j + 1) t' g1)
theorem pok_check {p : Prg} (h : POk p) : checkF p = (0, ⟨0, 0⟩) := by
  have := (first_ok p).2 h
  unfold checkF
  rw [this]; rfl
end Go.Proofs.Ytbpcbhmdjphodaa.am

namespace Go.Proofs.Ytbpcbhmdjphodaa.am
open Go Go.Proofs
theorem v9 (p : Prg) : K 9 [p.av] [] (.ret (.agg [.tr (declsT p.shared), .tr (declsT p.locks), .sl 0 p.threads.length])) [some (.vec 37 4 72 (p.threads.map Thread.cells))] := by
  refine Ctr.new [] hT hmix Try.func9 rfl (fun _ _ => by kernel_rfl) rfl fun hok => ?_
  obtain ⟨hB, hl, _⟩ := ((hok.slot 0 rfl).agg _ (.tail _ (.tail _ (.head _)))).tr.lst
  rw [List.length_map] at hl hB
  clear hok
  conv => whnf
  refine acall.pure _ (k27 p.shared) rfl rfl ?_
  conv => whnf
  refine acall.pure _ (k27 p.locks) rfl rfl ?_
  conv => whnf
  refine ⟨by kernel_rfl, fun _ => ?_⟩
  conv => whnf
  refine LoopL.by (fun i : Nat => ⟨[(1, .ptr 0 0), (2, .ptr 1 0), (3, .ptr 2 0), (14, .tr (threadsT p.threads)), (15, .tr (ti (p.threads.map Thread.cells).length)), (16, .tr (ti i))],
      [(0, .cells 25 [.tr (declsT p.shared), .tr (declsT p.locks), .tr (threadsT p.threads)]), (1, .cells 25 [.tr tnil, .tr tnil, .tr tnil]), (2, .cells 25 [.tr (declsT p.shared), .tr (declsT p.locks), .sl 3 i]), (3, .vec 37 4 72 ((p.threads.map Thread.cells).take i))], 4⟩)
    (fun i => i ≤ p.threads.length) (fun i => p.threads.length - i) 0 [0, 1, 9] [3]
    (Sub.mk' rfl ⟨⟨rfl, rfl⟩, ⟨rfl, rfl⟩, ⟨rfl, rfl⟩, .inl rfl, .inl rfl, .inl rfl, trivial⟩ ⟨⟨rfl, .inl rfl, .inl rfl, .inl rfl, trivial⟩, ⟨rfl, .inl rfl, .inl rfl, .inl rfl, trivial⟩, ⟨rfl, .inl rfl, .inl rfl, ⟨rfl, rfl, rfl, rfl⟩, trivial⟩, ⟨rfl, 37, 4, 72, rfl, by omega⟩, trivial⟩ rfl rfl) (Nat.zero_le _) ?_
  intro i hi _
  conv => whnf
  refine csplit (fun hlt => ?_) (fun hge => ?_)
  · have hlt : i < p.threads.length := by rw [List.length_map] at hlt; simpa using hlt
    conv => whnf
    refine ⟨rfl, by omega, by rw [List.length_map]; omega, fun row hrow => ?_⟩
    obtain ⟨d, hd, rfl⟩ := map_get hrow
    replace hd : p.threads[i]? = some d := hd
    clear hrow
    have hsn := throws_snoc hd
    obtain ⟨name, ls, body, at_⟩ := d
    conv => whnf
    refine acall.pure _ (k27 ls) rfl rfl fun _ => ?_
    conv => whnf
    refine acall.pure _ (k28 (SizeOf.sizeOf body + 1) body (by omega)) rfl rfl fun _ => ?_
    conv => whnf
    refine ⟨rfl, rfl, rfl, by rw [List.length_take, List.length_map]; omega, by show (i + 1) * 72 ≤ 140737488351232; omega, fun q hq => ?_, ?_⟩
    · cases hq with
      | head => exact Nat.ne_of_beq_eq_false rfl
      | tail _ h => cases h
    conv => whnf
    exact ⟨i + 1, [0, 1, 2, 23], [], Sub.mk' rfl ⟨⟨rfl, rfl⟩, ⟨rfl, rfl⟩, ⟨rfl, rfl⟩, .inl rfl, .inl rfl, .inl (ti_succ hlt hl), trivial⟩ ⟨⟨rfl, .inl rfl, .inl rfl, .inl rfl, trivial⟩, ⟨rfl, .inl rfl, .inl rfl, .inl rfl, trivial⟩, ⟨rfl, .inl rfl, .inl rfl, ⟨rfl, rfl⟩, trivial⟩, ⟨rfl, rfl, rfl, hsn⟩, trivial⟩ rfl rfl, hlt, by omega⟩
  · have hge : p.threads.length ≤ i := by rw [List.length_map] at hge; simpa using hge
    conv => whnf
    refine ⟨fun _ => ?_, fun h => absurd rfl h⟩
    conv => whnf
    exact ⟨[3], rfl, rfl, ⟨Or.inl rfl, Or.inl rfl, ⟨rfl, by omega⟩, trivial⟩, ⟨rfl, rfl, rfl, List.take_of_length_le (by rw [List.length_map]; exact hge)⟩, trivial⟩
end Go.Proofs.Ytbpcbhmdjphodaa.am

namespace Go.Proofs.Ytbpcbhmdjphodaa.am
open Go Go.Proofs
theorem rows_cut (l : List Stmt) (s : Nat) : (Stmt.rows l).take s ++ (Stmt.rows l).drop (s + 1) = Stmt.rows (l.take s ++ l.drop (s + 1)) := by
  rw [Stmt.rows_eq, Stmt.rows_eq, List.map_append, List.map_take, List.map_drop]
abbrev prgC2 (p : Prg) : Blk := .cells 25 [.tr (declsT p.shared), .tr (declsT p.locks), .tr (threadsT p.threads)]
theorem kParts (p : Prg) (t s : Int) : K 4 [p.av, .tr (ti t), .tr (ti s)] [] (.ret (.tr (tb true))) [] := by
  refine Ctr.cut [1000008, 11] hT hmix Try.func4 rfl (fun _ _ => by kernel_rfl) rfl fun hok => ?_
  have hlp := ((hok.slot 0 rfl).agg _ (.tail _ (.tail _ (.head _)))).tr.lst
  have hbody : ∀ th ∈ p.threads, (Stmt.rows th.body).length * 120 ≤ 140737488351232 ∧ (Stmt.rows th.body).length ≤ 9223372036854775807 := fun th hth => by
    have := (hlp.2.2 _ (List.mem_map_of_mem hth)).2 (stmtsT th.body) (by simp [Thread.cells])
    exact ⟨this.lst.1, this.lst.2.1⟩
  obtain ⟨hB, hl, _⟩ := hlp
  rw [List.length_map] at hl hB
  have hs64 := (hok.slot 2 rfl).tr.i64
  clear hok
  have h10 := k10 p
  rw [check_eq] at h10
  generalize hc : checkF p = c at h10
  obtain ⟨c1, c2, c3⟩ := c
  conv => whnf
  refine acall.pure _ (k_lives) rfl rfl fun _ => ?_
  conv => whnf
  refine acall.pure _ (h10) rfl rfl fun _ => ?_
  conv => whnf
  refine csplit (fun h1 => ?_) (fun h1 => ?_)
  · conv => whnf
    exact ⟨Or.inl rfl, trivial⟩
  have h1 : (c1 != 0) = false := h1
  have hc1 : c1 = 0 := by simpa using h1
  have hP : POk p := (check_ok p).1 (by rw [hc]; exact hc1)
  conv => whnf
  refine csplit (fun h2 => ?_) (fun h2 => ?_)
  · conv => whnf
    exact ⟨Or.inl rfl, trivial⟩
  conv => whnf
  rw [List.length_map]
  refine csplit (fun h3 => ?_) (fun h3 => ?_)
  · conv => whnf
    exact ⟨Or.inl rfl, trivial⟩
  have h2 : ¬ t < 0 := of_decide_eq_false h2
  have h3 : ¬ t ≥ p.threads.length := of_decide_eq_false h3
  obtain ⟨t, rfl⟩ : ∃ t' : Nat, t = t' := ⟨t.toNat, by omega⟩
  have hd : p.threads[t]? = some p.threads[t] := by simp [show t < p.threads.length by omega]
  generalize p.threads[t] = th at hd
  obtain ⟨hb1, hb2⟩ := hbody th (List.mem_of_getElem? hd)
  rw [srows_len] at hb1 hb2
  have hQ := pok_check (parts_ok hP hd s)
  have hrow : (p.threads.map Thread.cells)[t]? = some th.cells := by rw [List.getElem?_map, hd]; rfl
  conv => whnf
  refine acall.new [] [] _ _ _ _ (v9 p) rfl rfl rfl rfl (by repeat' (first | exact trivial | exact Or.inl (ti_succ (by assumption) (by assumption)) | exact Or.inl rfl | exact rfl | exact Nat.le_refl _ | apply And.intro)) (by repeat' (first | exact trivial | exact Or.inl (ti_succ (by assumption) (by assumption)) | exact Or.inl rfl | exact rfl | exact Nat.le_refl _ | apply And.intro)) rfl rfl fun _ => ?_
  conv => whnf
  refine CutL.by (fun _ : Unit => ⟨[(9, .ptr 0 0)], [(0, prgC2 (partsQ p t th s))], 1⟩) (fun _ => True) ?_ ?_
  · conv => whnf
    refine CutL.by (fun x : Bool => cond x ⟨[(1, .tr (ti t)), (2, .tr (ti s)), (9, .ptr 0 0), (47, .tr (tb true))], [(0, .cells 25 [.tr (declsT p.shared), .tr (declsT p.locks), .sl 1 p.threads.length]), (1, .vec 37 4 72 (p.threads.map Thread.cells))], 2⟩
        ⟨[(1, .tr (ti t)), (2, .tr (ti s)), (9, .ptr 0 0), (47, .tr (tb false))], [(0, prgC2 p)], 1⟩) (fun x => x = (decide (s ≥ 0) && decide (s < th.body.length))) ?_ ?_
    · conv => whnf
      refine csplit (fun h4 => ?_) (fun h4 => ?_)
      · conv => whnf
        refine ⟨rfl, by omega, by omega, ?_⟩
        conv => whnf
        refine ⟨rfl, by rw [List.length_map]; omega, fun row hr => ?_⟩
        obtain rfl : row = th.cells := (Option.some.inj (hrow.symm.trans hr)).symm
        refine ⟨Nat.le_of_ble_eq_true rfl, fun x hx => ?_⟩
        obtain rfl := one_some (x := stmtsT th.body) hx
        conv => whnf
        have hJ : (decide (s ≥ 0) && decide (s < th.body.length)) = decide (s < (Stmt.rows th.body).length) := by
          rw [show decide (s ≥ 0) = true from h4, srows_len, Bool.true_and]
        cases h5 : decide (s < (Stmt.rows th.body).length) with
        | true =>
          exact ⟨true, [27, 26], [], Sub.mk' rfl ⟨.inl rfl, .inl rfl, ⟨rfl, rfl⟩, .inl rfl, trivial⟩ (by repeat' (first | exact trivial | exact Or.inl (ti_succ (by assumption) (by assumption)) | exact Or.inl rfl | exact rfl | exact Nat.le_refl _ | apply And.intro)) rfl rfl, by rw [hJ, h5]⟩
        | false =>
          exact ⟨false, [27], [], Sub.mk' rfl ⟨.inl rfl, .inl rfl, ⟨rfl, rfl⟩, .inl rfl, trivial⟩ ⟨⟨rfl, .inl rfl, .inl rfl, ⟨rfl, by rw [List.length_map]; exact Nat.le_refl _, congrArg (Tr.lst 4 72) (List.take_of_length_le (by rw [List.length_map]; exact Nat.le_refl _)).symm⟩, trivial⟩, trivial⟩ rfl rfl, by rw [hJ, h5]⟩
      · conv => whnf
        exact ⟨false, [27], [], Sub.mk' rfl (by repeat' (first | exact trivial | exact Or.inl (ti_succ (by assumption) (by assumption)) | exact Or.inl rfl | exact rfl | exact Nat.le_refl _ | apply And.intro)) ⟨⟨rfl, .inl rfl, .inl rfl, ⟨rfl, by rw [List.length_map]; exact Nat.le_refl _, congrArg (Tr.lst 4 72) (List.take_of_length_le (by rw [List.length_map]; exact Nat.le_refl _)).symm⟩, trivial⟩, trivial⟩ rfl rfl, by rw [show decide (s ≥ 0) = false from h4]; rfl⟩
    · intro x hx _
      have hq : partsQ p t th s = bif x then ⟨p.shared, p.locks, p.threads.set t ⟨th.name, th.locals, th.body.take s.toNat ++ th.body.drop (s.toNat + 1), th.at_⟩⟩ else ⟨p.shared, p.locks, p.threads.take t ++ p.threads.drop (t + 1)⟩ := by
        unfold partsQ; rw [← hx]
      cases x with
      | true =>
        rw [hq]
        obtain ⟨q1, q2⟩ := (Bool.and_eq_true _ _).mp hx.symm
        have q1 : 0 ≤ s := of_decide_eq_true q1
        have q2 : s < th.body.length := of_decide_eq_true q2
        obtain ⟨s, rfl⟩ : ∃ s' : Nat, s = s' := ⟨s.toNat, by omega⟩
        have hw : IntKind.i64.wrap ((s : Int) + 1) = (s : Int) + 1 := w64 (by omega) (by omega)
        have hwn : (IntKind.i64.wrap ((s : Int) + 1)).toNat = s + 1 := by rw [hw]; omega
        have hsl := srows_len th.body
        conv => whnf
        refine ⟨rfl, by omega, by omega, ?_⟩
        conv => whnf
        refine ⟨rfl, by rw [List.length_map]; omega, fun row hr => ?_⟩
        obtain rfl : row = th.cells := (Option.some.inj (hrow.symm.trans hr)).symm
        refine ⟨Nat.le_of_ble_eq_true rfl, fun x hx => ?_⟩
        obtain rfl := one_some (x := stmtsT th.body) hx
        clear hx
        conv => whnf
        refine ⟨rfl, rfl, by omega, by omega, ?_⟩
        conv => whnf
        refine ⟨rfl, by show 0 ≤ IntKind.i64.wrap ((s : Int) + 1); omega, by show IntKind.i64.wrap ((s : Int) + 1) ≤ ((Stmt.rows th.body).length : Int); omega, by show ((Stmt.rows th.body).length : Int) ≤ _; omega, ?_⟩
        conv => whnf
        refine ⟨rfl, rfl, ?_, ?_⟩
        · show (((Stmt.rows th.body).take ((s : Int)).toNat).length + (((Stmt.rows th.body).take (((Stmt.rows th.body).length : Int)).toNat).drop (IntKind.i64.wrap ((s : Int) + 1)).toNat).length) * 120 ≤ 140737488351232
          simp only [List.length_take, List.length_drop, hwn, hsl]
          omega
        conv => whnf
        refine ⟨rfl, by omega, by omega, ?_⟩
        conv => whnf
        refine ⟨rfl, rfl, by rw [List.length_map]; omega, fun row hr => ?_⟩
        obtain rfl : row = th.cells := (Option.some.inj (hrow.symm.trans hr)).symm
        refine ⟨Nat.le_of_ble_eq_true rfl, ?_⟩
        conv => whnf
        refine ⟨by kernel_rfl, fun _ => ?_⟩
        conv => whnf
        refine ⟨(), [0], [], Sub.mk' rfl (by repeat' (first | exact trivial | exact Or.inl (ti_succ (by assumption) (by assumption)) | exact Or.inl rfl | exact rfl | exact Nat.le_refl _ | apply And.intro)) ⟨⟨rfl, .inl rfl, .inl rfl, ⟨rfl, ?_, ?_⟩, trivial⟩, trivial⟩ rfl rfl, trivial⟩
        · rw [List.length_set, List.length_map]; exact Nat.le_refl _
        · refine congrArg (Tr.lst 4 72) ?_
          rw [cond_true, List.map_set]
          symm
          refine (List.take_of_length_le (by rw [List.length_set, List.length_map]; exact Nat.le_refl _)).trans ?_
          refine congrArg (List.set (p.threads.map Thread.cells) t) ?_
          show [ts th.name, declsT th.locals, .lst 7 120 (((Stmt.rows th.body).take ((s : Int)).toNat) ++ (((Stmt.rows th.body).take (((Stmt.rows th.body).length : Int)).toNat).drop (IntKind.i64.wrap ((s : Int) + 1)).toNat)), ti th.at_] = [ts th.name, declsT th.locals, stmtsT (th.body.take (s : Int).toNat ++ th.body.drop ((s : Int).toNat + 1)), ti th.at_]
          rw [hwn, Int.toNat_natCast, Int.toNat_natCast, List.take_of_length_le (l := Stmt.rows th.body) (Nat.le_refl _), stmtsT, ← rows_cut]
      | false =>
        rw [hq]
        have hw : IntKind.i64.wrap ((t : Int) + 1) = (t : Int) + 1 := w64 (by omega) (by omega)
        have hwn : (IntKind.i64.wrap ((t : Int) + 1)).toNat = t + 1 := by rw [hw]; omega
        have hml : (p.threads.map Thread.cells).length = p.threads.length := List.length_map ..
        conv => whnf
        refine ⟨rfl, rfl, by omega, by omega, ?_⟩
        conv => whnf
        refine ⟨rfl, by show 0 ≤ IntKind.i64.wrap ((t : Int) + 1); omega, by show IntKind.i64.wrap ((t : Int) + 1) ≤ ((p.threads.map Thread.cells).length : Int); omega, by show ((p.threads.map Thread.cells).length : Int) ≤ _; omega, ?_⟩
        conv => whnf
        refine ⟨rfl, rfl, ?_, ?_⟩
        · show (((p.threads.map Thread.cells).take ((t : Int)).toNat).length + (((p.threads.map Thread.cells).take (((p.threads.map Thread.cells).length : Int)).toNat).drop (IntKind.i64.wrap ((t : Int) + 1)).toNat).length) * 72 ≤ 140737488351232
          simp only [List.length_take, List.length_drop, hwn, hml]
          omega
        conv => whnf
        refine ⟨by kernel_rfl, fun _ => ?_⟩
        conv => whnf
        refine ⟨(), [0], [], Sub.mk' rfl (by repeat' (first | exact trivial | exact Or.inl (ti_succ (by assumption) (by assumption)) | exact Or.inl rfl | exact rfl | exact Nat.le_refl _ | apply And.intro)) ⟨⟨rfl, .inl rfl, .inl rfl, .inl ?_, trivial⟩, trivial⟩ rfl rfl, trivial⟩
        refine congrArg (Tr.lst 4 72) ?_
        show (((p.threads.map Thread.cells).take ((t : Int)).toNat)) ++ (((p.threads.map Thread.cells).take (((p.threads.map Thread.cells).length : Int)).toNat).drop (IntKind.i64.wrap ((t : Int) + 1)).toNat) = (p.threads.take t ++ p.threads.drop (t + 1)).map Thread.cells
        rw [hwn, Int.toNat_natCast, Int.toNat_natCast, List.take_of_length_le (l := p.threads.map Thread.cells) (Nat.le_refl _), List.map_append, List.map_take, List.map_drop]
  · rintro _ - -
    have h10q := k10 (partsQ p t th s)
    rw [check_eq, hQ] at h10q
    generalize partsQ p t th s = q at h10q
    conv => whnf
    refine acall.pure _ (h10q) rfl rfl fun _ => ?_
    conv => whnf
    exact ⟨Or.inl rfl, trivial⟩
end Go.Proofs.Ytbpcbhmdjphodaa.am

namespace Go.Proofs.Ytbpcbhmdjphodaa.rCheckParts
open Go Go.RowKit Go.ChangeShapes Go.WideShapes Go.ChangeAt Go.WideMaps Go.WideElems
open Go.ChangeMaps (open_string shut_string)
open Go.Proofs.Ytbpcbhmdjphodaa.am

theorem own : ownKnob Try.prog.godebug = none := by kernel_rfl
theorem laidOut : laidOutB Try.prog = true := by kernel_rfl
set_option maxRecDepth 100000 in
theorem contract (H : Type) (enc : TypeId × Value → H) (W : World) (args : Array Value) (ds gs : List (DataW H)) (before : List MemPlace)
    (hval : ∀ (j : Nat) t v, Try.f4.params[j]? = some t → args[j]? = some v → ∃ base, Value.okWide Try.prog W .any base t v)
    (hW : DataW.Whole enc Try.prog Try.f4.params.toList Rows.checkPartsSpec.vars false W args.toList ds gs before)
    (hwt : (DataW.weightsEach Try.prog (Try.f4.params.toList ++ (OpenSpec.ofChange Rows.checkPartsSpec).bare.plain.varTypes Try.prog) (ds ++ gs)).all (· ≤ reachBytes) = true) :
    Calls Try.prog 4 args W fun e W' => ∃ v, e = .returned v ∧ Rows.checkPartsSpec.post enc Try.prog Try.f4 false true false false W args v W' := by
  have hW' := hW
  obtain ⟨p, q, hA0, hV, rfl, hfz, hnd⟩ := hW
  have hA : DataW.TrodAll enc Try.prog W 0 (fun _ => true) true Try.f4.params.toList args.toList ds p := hA0
  rw [Try.params4] at hA hval
  obtain ⟨v0, vs0, d0, ds0, p0, q0, hargs, rfl, rfl, h0, r0⟩ := trodAll_cons hA
  obtain ⟨v1, vs1, d1, ds1, p1, q1, rfl, rfl, rfl, h1, r1⟩ := trodAll_cons r0
  obtain ⟨v2, vs2, d2, ds2, p2, q2, rfl, rfl, rfl, h2, r2⟩ := trodAll_cons r1
  obtain ⟨rfl, rfl, rfl⟩ := trodAll_nil r2
  obtain rfl : args = #[v0, v1, v2] := by cases args; simp_all
  obtain ⟨rfl, rfl⟩ := trodVars_none hV
  clear hA0 hA
  simp only [List.append_nil] at hW'
  have hlt : ∀ x ∈ (p0 ++ (p1 ++ (p2))), x.block < W.heap.size := fun x hx => hW'.lt x (by simpa using hx)
  have hwt : (DataW.weightsEach Try.prog [25, 3, 3] [d0, d1, d2]).all (· ≤ reachBytes) = true := hwt
  simp only [DataW.weightsEach, List.all_append, List.all_nil, Bool.and_true, Bool.and_eq_true] at hwt
  obtain ⟨cs0, rfl⟩ : ∃ cs, v0 = .agg cs := by
    obtain ⟨base, hv⟩ := hval 0 25 v0 rfl rfl
    unfold Value.okWide at hv
    rw [Try.underlying25] at hv
    obtain ⟨cs, rfl, _⟩ := hv
    exact ⟨cs, rfl⟩
  obtain ⟨x0, hx0⟩ := open_prg (.inr ⟨cs0, rfl⟩) h0 hwt.1 (fun x hx => hlt x (by simp [hx]))
  obtain ⟨x1, rfl, rfl, rfl, wx1⟩ := open_int Try.underlying3 ((hval 1 3 v1 rfl rfl).choose_spec) h1
  obtain ⟨x2, rfl, rfl, rfl, wx2⟩ := open_int Try.underlying3 ((hval 2 3 v2 rfl rfl).choose_spec) h2
  refine (K.calls (kParts x0 x1 x2) W #[.agg cs0, .int .i64 x1, .int .i64 x2] rfl ?_).mono fun e W' he => ?_
  · intro i v a e1 e2
    have e1 := arr_get e1
    match i, e2 with
    | 0, e2 => cases e2; cases e1; exact hx0
    | 1, e2 => cases e2; cases e1; exact .tr (.v (lit_good wx1))
    | 2, e2 => cases e2; cases e1; exact .tr (.v (lit_good wx2))
  obtain ⟨hb, v, rfl, g', hR⟩ := he
  obtain ⟨rfl, _⟩ := val_inv hR
  exact ⟨_, rfl, _, _, _, [], _, [], hW', trodAll_cons_mk (shut_bool Try.underlying4 _) trodAll_mk0, (trodAll_cons_mk (Below.trod laidOut (by kernel_rfl) (of_decide_eq_true (by kernel_rfl)) h0 hb (fun x hx => hlt x (by simp [hx]))) (trodAll_cons_mk (shut_int Try.underlying3 wx1) (trodAll_cons_mk (shut_int Try.underlying3 wx2) trodAll_mk0))), rfl, hb.frame _, fun h => by cases h⟩

theorem reads (os : Os) {H : Type} (enc : TypeId × Value → H) : ∃ places, DataW.whole enc Try.prog ((World.holding Try.prog os ⟨#[], #[], []⟩).forCall (fun _ _ => 0) ⟨#[], #[.agg #[.slice none 0 0, .slice none 0 0, .slice none 0 0], .int .i64 0, .int .i64 0], []⟩).memory Try.f4.params.toList Rows.checkPartsSpec.vars false (#[.agg #[.slice none 0 0, .slice none 0 0, .slice none 0 0], .int .i64 0, .int .i64 0] : Array Value).toList 8 = some ([.agg [.nil, .nil, .nil], .lit (.int .i64 0), .lit (.int .i64 0)], [], places) :=
  ⟨[], by kernel_rfl⟩

set_option maxRecDepth 100000 in
theorem lifted (os : Os) (started : os.Started) (H : Type) (enc : TypeId × Value → H) (F : Stop.Interp) :
    ReturnsInHanded {} Try.checked os 4 .any ((OpenSpec.ofChange Rows.checkPartsSpec).preRow enc Try.prog Try.f4 Rows.checkPartsRow.domain false Rows.checkPartsRow.laid) (((OpenSpec.ofChange Rows.checkPartsSpec).at F).post enc Try.prog Try.f4 false true false false) := by
  obtain ⟨places, hx⟩ := reads os enc
  refine returnsInHanded_of_row (C := Try.checked) (s := OpenSpec.ofChange Rows.checkPartsSpec) own started (by kernel_rfl) Try.func4
    (witness_row_at (enc := enc) (C := Try.checked) false (World.holding Try.prog os ⟨#[], #[], []⟩) #[.agg #[.slice none 0 0, .slice none 0 0, .slice none 0 0], .int .i64 0, .int .i64 0] rfl (by kernel_rfl) (by kernel_rfl) (by kernel_rfl)
      (OpenSpec.preRow_of_cond 8 hx (by kernel_rfl) (fun k hk => by cases hk) (by kernel_rfl) (laidMet_nil _ _))) ?_
  intro W base args ds gs before hval hW _ _ hwt _ _ _
  exact contract H enc W args ds gs before (fun j t v h1 h2 => ⟨base, hval j t v h1 h2⟩) hW hwt

theorem said : Rows.CheckPartsSaid :=
  OpenClaim.holds_of_cond 4 Try.f4 rfl rfl rfl rfl rfl rfl rfl ⟨rfl, rfl, rfl, rfl, rfl⟩ rfl rfl rfl rfl rfl (by kernel_rfl) Try.func4 (by kernel_rfl)
    (of_decide_eq_true (by kernel_rfl)) (by unfold Func.isWrapper; first | (rw [if_pos (by decide +kernel)]; kernel_rfl) | (rw [if_neg (by decide +kernel)]; exact ⟨rfl, rfl⟩))
    (fun os started H enc _ F => by rw [OpenClaim.pre_eq_preRow]; exact lifted os started H enc F)
end Go.Proofs.Ytbpcbhmdjphodaa.rCheckParts

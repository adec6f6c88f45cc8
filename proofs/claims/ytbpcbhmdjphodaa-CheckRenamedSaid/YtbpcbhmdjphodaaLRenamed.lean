/- Plain: a renamed program is one, and back it is as it was. Plain: a renamed program is one, and back it is as it was: its trees. Plain: a renamed program is one, and back it is as it was: the whole. Contract: the law CheckRenamed: true. a renamed program is one, renamed back it is as it was, and what threads touch stays: for every input the law returns true, and each argument reads as it did. No condition of its own. -/
import Derived.Test.YtbpcbhmdjphodaaD5
import Derived.Test.YtbpcbhmdjphodaaD4
import Derived.Test.YtbpcbhmdjphodaaD3
import Derived.Test.YtbpcbhmdjphodaaRows
import Derived.Deep.DeepHandedRow
import Derived.ProofKit
set_option linter.all false

namespace Go.Proofs.Ytbpcbhmdjphodaa.am
open Go
theorem loop_eq (a : ByteArray) : ∀ (k i : Nat) (r : List UInt8), a.size - i = k → ByteArray.toList.loop a i r = r.reverse ++ a.data.toList.drop i := by
  intro k
  induction k with
  | zero =>
    intro i r h
    unfold ByteArray.toList.loop
    rw [if_neg (by omega), List.drop_of_length_le (by rw [Array.length_toList]; exact Nat.le_of_sub_eq_zero h), List.append_nil]
  | succ k ih =>
    intro i r h
    have hi : i < a.data.toList.length := by rw [Array.length_toList]; show i < a.size; omega
    unfold ByteArray.toList.loop
    rw [if_pos (by omega), ih (i + 1) _ (by omega), List.reverse_cons, List.append_assoc, List.drop_eq_getElem_cons hi]
    congr 2
    show [a.get! i] ++ _ = _
    have : a.get! i = a.data.toList[i] := by
      show a.data[i]! = _
      rw [Array.getElem_toList]
      exact getElem!_pos a.data i (by rw [Array.length_toList] at hi; exact hi)
    rw [this]; rfl
theorem toList_data (a : ByteArray) : a.toList = a.data.toList := by
  unfold ByteArray.toList
  rw [loop_eq a a.size 0 [] rfl]
  rfl
theorem seq_iff {a b : ByteArray} : seq a b = true ↔ a = b := by
  unfold seq
  rw [beq_iff_eq, toList_data, toList_data]
  exact ⟨fun h => ByteArray.ext (Array.toList_inj.1 h), fun h => by rw [h]⟩
theorem seq_self (a : ByteArray) : seq a a = true := seq_iff.2 rfl
theorem seq_ne {a b : ByteArray} (h : a ≠ b) : seq a b = false := by
  cases hb : seq a b with
  | false => rfl
  | true => exact absurd (seq_iff.1 hb) h
theorem ren_o (o n : ByteArray) : ren o n o = n := by unfold ren; rw [seq_self]; rfl
theorem ren_ne {o n s : ByteArray} (h : s ≠ o) : ren o n s = s := by unfold ren; rw [seq_ne h]; rfl
theorem ren_back {o n s : ByteArray} (h : s ≠ n) : ren n o (ren o n s) = s := by
  by_cases e : s = o
  · rw [e, ren_o, ren_o]
  · rw [ren_ne e, ren_ne h]
theorem ren_seq {o n s d : ByteArray} (hs : s ≠ n) (hd : d ≠ n) : seq (ren o n d) (ren o n s) = seq d s := by
  by_cases e1 : s = o <;> by_cases e2 : d = o
  · rw [e1, e2, seq_self, seq_self]
  · rw [e1, ren_o, ren_ne e2, seq_ne hd, seq_ne e2]
  · rw [e2, ren_o, ren_ne e1, seq_ne (fun h => hs h.symm), seq_ne (fun h => e1 h.symm)]
  · rw [ren_ne e1, ren_ne e2]
theorem ren_out {o n d : ByteArray} (hno : n ≠ o) : ren o n d ≠ o := by
  by_cases e : d = o
  · rw [e, ren_o]; exact hno
  · rw [ren_ne e]; exact e

/-! where a name does not stand -/
def Lacks (n : ByteArray) (l : List Decl) : Prop := ∀ d ∈ l, d.name ≠ n
theorem findI_ge (n : ByteArray) : ∀ (l : List Decl) (k : Nat), findI l n k = -1 ∨ (k : Int) ≤ findI l n k
  | [], k => .inl rfl
  | d :: l, k => by
    unfold findI
    split
    · exact .inr (Int.le_refl _)
    · rcases findI_ge n l (k + 1) with h | h
      · exact .inl h
      · exact .inr (by omega)
theorem findI_lacks (n : ByteArray) : ∀ (l : List Decl) (k : Nat), Lacks n l → findI l n k = -1
  | [], _, _ => rfl
  | d :: l, k, h => by
    unfold findI
    rw [if_neg (by rw [seq_ne (h d (by simp))]; simp)]
    exact findI_lacks n l (k + 1) fun x hx => h x (by simp [hx])
theorem lacks_of (n : ByteArray) : ∀ (l : List Decl) (k : Nat), decide (findI l n k ≥ 0) = false → Lacks n l
  | [], _, _ => fun _ h => by simp at h
  | d :: l, k, h => by
    unfold findI at h
    intro x hx
    split at h
    · have := of_decide_eq_false h; omega
    · rename_i h1
      simp only [List.mem_cons] at hx
      rcases hx with rfl | hx
      · exact fun e => h1 (by rw [e]; exact seq_self n)
      · exact lacks_of n l (k + 1) h x hx
theorem findI_ren {o n s : ByteArray} (hs : s ≠ n) : ∀ (l : List Decl) (k : Nat), Lacks n l → findI (l.map (Decl.ren o n)) (ren o n s) k = findI l s k
  | [], _, _ => rfl
  | d :: l, k, h => by
    rw [List.map_cons]
    unfold findI
    rw [show (Decl.ren o n d).name = ren o n d.name from rfl, ren_seq hs (h d (by simp)), findI_ren hs l (k + 1) fun x hx => h x (by simp [hx])]
theorem threadI_ren {o n s : ByteArray} (hs : s ≠ n) : ∀ (l : List Thread) (k : Nat), (∀ t ∈ l, t.name ≠ n) → threadI (l.map (Thread.ren o n)) (ren o n s) k = threadI l s k
  | [], _, _ => rfl
  | d :: l, k, h => by
    rw [List.map_cons]
    unfold threadI
    rw [show (Thread.ren o n d).name = ren o n d.name from rfl, ren_seq hs (h d (by simp)), threadI_ren hs l (k + 1) fun x hx => h x (by simp [hx])]
theorem threadI_lacks (n : ByteArray) : ∀ (l : List Thread) (k : Nat), (∀ t ∈ l, t.name ≠ n) → threadI l n k = -1
  | [], _, _ => rfl
  | d :: l, k, h => by
    unfold threadI
    rw [if_neg (by rw [seq_ne (h d (by simp))]; simp)]
    exact threadI_lacks n l (k + 1) fun x hx => h x (by simp [hx])
structure Fresh (n : ByteArray) (p : Prg) : Prop where
  sh : Lacks n p.shared
  lo : Lacks n p.locks
  th : ∀ t ∈ p.threads, t.name ≠ n ∧ Lacks n t.locals
theorem fresh_of {p : Prg} {n : ByteArray} (h : standsB p n = false) : Fresh n p := by
  unfold standsB at h
  rw [Bool.or_eq_false_iff, Bool.or_eq_false_iff] at h
  refine ⟨lacks_of n _ 0 h.1.1, lacks_of n _ 0 h.1.2, fun t ht => ?_⟩
  have := List.any_eq_false.1 h.2 t ht
  unfold thB at this
  rw [Bool.not_eq_true, Bool.or_eq_false_iff] at this
  exact ⟨fun e => by rw [e, seq_self] at this; exact absurd this.1 (by simp), lacks_of n _ 0 this.2⟩
theorem fresh_stands {p : Prg} {n : ByteArray} (h : Fresh n p) : standsB p n = false := by
  unfold standsB
  rw [findI_lacks n _ 0 h.sh, findI_lacks n _ 0 h.lo]
  refine Bool.or_eq_false_iff.2 ⟨rfl, ?_⟩
  rw [List.any_eq_false]
  intro t ht
  unfold thB
  rw [seq_ne (h.th t ht).1, findI_lacks n _ 0 (h.th t ht).2]
  simp
theorem localI_lacks {p : Prg} {n : ByteArray} (h : Fresh n p) (t : Int) : localI p t n = -1 := by
  unfold localI
  split
  · rfl
  · split
    · rename_i th hth; exact findI_lacks n _ 0 (h.th th (List.mem_of_getElem? hth)).2
    · rfl
section
variable {p : Prg} {o n : ByteArray} (hF : Fresh n p)
include hF
theorem localI_ren {s : ByteArray} (hs : s ≠ n) (t : Int) : localI (p.ren o n) t (ren o n s) = localI p t s := by
  unfold localI
  split
  · rfl
  · show (match (p.threads.map (Thread.ren o n))[t.toNat]? with | some th => findI th.locals (ren o n s) 0 | none => -1) = _
    rw [List.getElem?_map]
    cases hth : p.threads[t.toNat]? with
    | none => rfl
    | some th => exact findI_ren hs _ 0 (hF.th th (List.mem_of_getElem? hth)).2
theorem variableI_ren {s : ByteArray} (hs : s ≠ n) (t : Int) (b : Bool) : variableI (p.ren o n) t (ren o n s) b = variableI p t s b := by
  unfold variableI
  rw [localI_ren hF hs, show (p.ren o n).shared = p.shared.map (Decl.ren o n) from rfl, show (p.ren o n).locks = p.locks.map (Decl.ren o n) from rfl, show (p.ren o n).threads = p.threads.map (Thread.ren o n) from rfl,
    findI_ren hs _ 0 hF.sh, findI_ren hs _ 0 hF.lo, threadI_ren hs _ 0 fun t ht => (hF.th t ht).1]
theorem lockI_ren {s : ByteArray} (hs : s ≠ n) (t : Int) : lockI (p.ren o n) t (ren o n s) = lockI p t s := by
  unfold lockI
  rw [localI_ren hF hs, show (p.ren o n).shared = p.shared.map (Decl.ren o n) from rfl, show (p.ren o n).locks = p.locks.map (Decl.ren o n) from rfl, show (p.ren o n).threads = p.threads.map (Thread.ren o n) from rfl,
    findI_ren hs _ 0 hF.sh, findI_ren hs _ 0 hF.lo, threadI_ren hs _ 0 fun t ht => (hF.th t ht).1]
theorem variableI_n (t : Int) (b : Bool) : variableI p t n b = 5 := by
  unfold variableI
  rw [localI_lacks hF, findI_lacks n _ 0 hF.sh, findI_lacks n _ 0 hF.lo, threadI_lacks n _ 0 fun t ht => (hF.th t ht).1]
  rfl
theorem lockI_n (t : Int) : lockI p t n = 5 := by
  unfold lockI
  rw [localI_lacks hF, findI_lacks n _ 0 hF.sh, findI_lacks n _ 0 hF.lo, threadI_lacks n _ 0 fun t ht => (hF.th t ht).1]
  rfl
theorem var_ne {s : ByteArray} {t : Int} {b : Bool} (h : variableI p t s b = 0) : s ≠ n := fun e => by rw [e, variableI_n hF] at h; exact absurd h (by decide)
theorem lock_ne {s : ByteArray} {t : Int} (h : lockI p t s = 0) : s ≠ n := fun e => by rw [e, lockI_n hF] at h; exact absurd h (by decide)
theorem markB_ren {s : ByteArray} (hs : s ≠ n) (t : Int) (l : List Bool) : markB (p.ren o n) t (ren o n s) l = markB p t s l := by
  unfold markB
  rw [localI_ren hF hs, show (p.ren o n).shared = p.shared.map (Decl.ren o n) from rfl, findI_ren hs _ 0 hF.sh]
end
theorem noS_ren {o n s : ByteArray} (ho : noS o = false) (hn : noS n = false) : noS (ren o n s) = noS s := by
  by_cases e : s = o
  · rw [e, ren_o, ho, hn]
  · rw [ren_ne e]
theorem noS_ne {n s : ByteArray} (hn : noS n = false) (hs : noS s = true) : s ≠ n := fun e => by rw [e, hn] at hs; cases hs
theorem nameB_noS {n : ByteArray} (h : nameB n = true) : noS n = false := by
  cases hs : noS n with
  | false => rfl
  | true =>
    have : n = ⟨#[]⟩ := seq_iff.1 hs
    subst this
    exact absurd h (by decide)
theorem deepI_0 {r deep : Int} (h : (deepI r deep != 0) = false) : r = 0 := by
  unfold deepI at h
  cases hr : (r == 0) with
  | true => simpa using hr
  | false => rw [hr, Bool.false_and, cond_false] at h; simpa using h
theorem leastI_0 {a b : Int} (h : leastI a b = 0) : a = 0 ∧ b = 0 := by
  unfold leastI at h
  cases ha : (a == 0) with
  | true => rw [ha] at h; exact ⟨by simpa using ha, h⟩
  | false =>
    rw [ha, Bool.false_or] at h
    cases hb : (decide (b > 0) && decide (b < a)) with
    | true => rw [hb, cond_true] at h; rw [h] at hb; simp at hb
    | false => rw [hb, cond_false] at h; rw [h] at ha; simp at ha
theorem erows_ren (o n : ByteArray) (l : List Expr) : (Expr.rows (Expr.renL o n l)).length = (Expr.rows l).length := by rw [erows_len, erows_len, Expr.renL_eq, List.length_map]
theorem srows_ren (o n : ByteArray) (l : List Stmt) : (Stmt.rows (Stmt.renL o n l)).length = (Stmt.rows l).length := by rw [srows_len, srows_len, Stmt.renL_eq, List.length_map]
theorem partsB_ren {o n : ByteArray} (ho : noS o = false) (hn : noS n = false) (e : Expr) : partsB (e.ren o n) = partsB e := by
  obtain ⟨k, op, w, nm, ks, a⟩ := e
  simp only [Expr.ren, partsB, noS_ren ho hn, erows_ren]
theorem fieldsB_ren {o n : ByteArray} (ho : noS o = false) (hn : noS n = false) (s : Stmt) : fieldsB (s.ren o n) = fieldsB s := by
  obtain ⟨k, nm, ot, e, b, el, a⟩ := s
  simp only [Stmt.ren, fieldsB, noS_ren ho hn, erows_ren, srows_ren]
end Go.Proofs.Ytbpcbhmdjphodaa.am

namespace Go.Proofs.Ytbpcbhmdjphodaa.am
open Go
section
variable {p : Prg} {o n : ByteArray} (hF : Fresh n p) (ho : noS o = false) (hn : noS n = false)
include hF ho hn
mutual
theorem expr_ren (t : Int) : ∀ (e : Expr) (deep : Int), (exprF p t e deep).rule = 0 → (exprF (p.ren o n) t (e.ren o n) deep).rule = 0 ∧ (e.ren o n).ren n o = e ∧ ∀ R, exprM (p.ren o n) t (e.ren o n) R = exprM p t e R
  | .mk kind op word name kids at_, deep, h => by
    have hp := partsB_ren ho hn (.mk kind op word name kids at_)
    unfold exprF at h
    cases h1 : partsB (.mk kind op word name kids at_) with
    | false => rw [h1] at h; exact absurd (show (4 : Int) = 0 from h) (by decide)
    | true =>
    rw [h1, Bool.not_true, cond_false] at h
    cases h2 : (deepI (bif kind == 2 then variableI p t name false else 0) deep != 0) with
    | true =>
      rw [h2, cond_true] at h
      have h : deepI (bif kind == 2 then variableI p t name false else 0) deep = 0 := h
      rw [h] at h2; exact absurd h2 (by decide)
    | false =>
    rw [h2, cond_false] at h
    have h0 := deepI_0 h2
    have hname : name ≠ n := by
      cases hk : (kind == 2) with
      | true => rw [hk] at h0; exact var_ne hF h0
      | false =>
        refine noS_ne hn ?_
        simp only [partsB] at h1
        rw [hk] at h1
        cases k1 : (kind == 1) <;> rw [k1] at h1
        · cases k3 : (kind == 3) <;> rw [k3] at h1
          · cases k4 : (kind == 4) <;> rw [k4] at h1
            · exact absurd h1 (by simp)
            · simp only [cond_true, cond_false, Bool.and_eq_true] at h1; exact h1.1.1.2
          · simp only [cond_true, cond_false, Bool.and_eq_true] at h1; exact h1.1.1.2
        · simp only [cond_true, Bool.and_eq_true] at h1; exact h1.1.1.2
    obtain ⟨r1, r2, r3⟩ := exprs_ren t kids (deep + 1) h
    refine ⟨?_, ?_, fun R => ?_⟩
    · show (exprF (p.ren o n) t (.mk kind op word (ren o n name) (Expr.renL o n kids) at_) deep).rule = 0
      have hp : partsB (.mk kind op word (ren o n name) (Expr.renL o n kids) at_) = partsB (.mk kind op word name kids at_) := hp
      unfold exprF
      rw [hp, h1, Bool.not_true, cond_false, variableI_ren hF hname, h2, cond_false]
      exact r1
    · show Expr.mk kind op word (ren n o (ren o n name)) (Expr.renL n o (Expr.renL o n kids)) at_ = _
      rw [ren_back hname, r2]
    · show exprM (p.ren o n) t (.mk kind op word (ren o n name) (Expr.renL o n kids) at_) R = _
      unfold exprM
      rw [r3, markB_ren hF hname]
theorem exprs_ren (t : Int) : ∀ (l : List Expr) (deep : Int), (exprsF p t l deep).rule = 0 → (exprsF (p.ren o n) t (Expr.renL o n l) deep).rule = 0 ∧ Expr.renL n o (Expr.renL o n l) = l ∧ ∀ R, exprsM (p.ren o n) t (Expr.renL o n l) R = exprsM p t l R
  | [], deep, h => ⟨rfl, rfl, fun R => rfl⟩
  | e :: l, deep, h => by
    unfold exprsF at h
    cases h1 : ((exprF p t e deep).rule != 0) with
    | true =>
      rw [h1, cond_true] at h
      rw [h] at h1; exact absurd h1 (by decide)
    | false =>
    rw [h1, cond_false] at h
    obtain ⟨a1, a2, a3⟩ := expr_ren t e deep (by simpa using h1)
    obtain ⟨b1, b2, b3⟩ := exprs_ren t l deep h
    refine ⟨?_, ?_, fun R => ?_⟩
    · show (exprsF (p.ren o n) t (Expr.ren o n e :: Expr.renL o n l) deep).rule = 0
      unfold exprsF
      rw [a1]
      exact b1
    · show Expr.ren n o (Expr.ren o n e) :: Expr.renL n o (Expr.renL o n l) = _
      rw [a2, b2]
    · show exprsM (p.ren o n) t (Expr.ren o n e :: Expr.renL o n l) R = _
      unfold exprsM
      rw [a3, b3]
end
mutual
theorem stmt_ren (t : Int) : ∀ (s : Stmt) (deep : Int), (stmtF p t s deep).rule = 0 → (stmtF (p.ren o n) t (s.ren o n) deep).rule = 0 ∧ (s.ren o n).ren n o = s ∧ ∀ x, stmtM (p.ren o n) t (s.ren o n) x = stmtM p t s x
  | .mk kind name other e body els at_, deep, h => by
    have hp := fieldsB_ren ho hn (.mk kind name other e body els at_)
    unfold stmtF at h
    cases h1 : fieldsB (.mk kind name other e body els at_) with
    | false => rw [h1] at h; exact absurd (show (4 : Int) = 0 from h) (by decide)
    | true =>
    rw [h1, Bool.not_true, cond_false] at h
    cases h2 : (deepI (namesI p t kind name other) deep != 0) with
    | true =>
      rw [h2, cond_true] at h
      have h : deepI (namesI p t kind name other) deep = 0 := h
      rw [h] at h2; exact absurd h2 (by decide)
    | false =>
    rw [h2, cond_false] at h
    have h0 := deepI_0 h2
    have hnames : name ≠ n ∧ other ≠ n := by
      unfold namesI at h0
      simp only [fieldsB] at h1
      cases k1 : (kind == 1) <;> rw [k1] at h0 h1
      · cases k2 : (kind == 2) <;> rw [k2] at h0 h1
        · cases k3 : (kind == 3) <;> rw [k3] at h1
          · cases k4 : (kind == 4) <;> rw [k4] at h1
            · cases k5 : (kind == 5) <;> rw [k5] at h0 h1
              · cases k6 : (kind == 6) <;> rw [k6] at h1
                · cases k7 : (kind == 7) <;> rw [k7] at h1
                  · exact absurd h1 (by simp)
                  · simp only [cond_true, cond_false, Bool.and_eq_true] at h1; exact ⟨noS_ne hn h1.1.1.1.1, noS_ne hn h1.1.1.1.2⟩
                · simp only [cond_true, cond_false, Bool.and_eq_true] at h1; exact ⟨noS_ne hn h1.1.1.1.1, noS_ne hn h1.1.1.1.2⟩
              · simp only [cond_true, cond_false, Bool.and_eq_true] at h0 h1; exact ⟨lock_ne hF h0, noS_ne hn h1.1.1⟩
            · simp only [cond_true, cond_false, Bool.and_eq_true] at h1; exact ⟨noS_ne hn h1.1.1.1, noS_ne hn h1.1.1.2⟩
          · simp only [cond_true, cond_false, Bool.and_eq_true] at h1; exact ⟨noS_ne hn h1.1.1, noS_ne hn h1.1.2⟩
        · simp only [cond_true, cond_false] at h0
          obtain ⟨q1, q2⟩ := leastI_0 h0
          exact ⟨var_ne hF q1, var_ne hF q2⟩
      · simp only [cond_true, Bool.and_eq_true] at h0 h1; exact ⟨var_ne hF h0, noS_ne hn h1.1.1.1⟩
    obtain ⟨hname, hother⟩ := hnames
    have hN : namesI (p.ren o n) t kind (ren o n name) (ren o n other) = namesI p t kind name other := by
      unfold namesI
      rw [variableI_ren hF hname, variableI_ren hF hother, lockI_ren hF hname]
    cases h3 : ((exprsF p t e 1).rule != 0) with
    | true => rw [h3, cond_true] at h; rw [h] at h3; exact absurd h3 (by decide)
    | false =>
    rw [h3, cond_false] at h
    cases h4 : ((stmtsF p t body (deep + 1)).rule != 0) with
    | true => rw [h4, cond_true] at h; rw [h] at h4; exact absurd h4 (by decide)
    | false =>
    rw [h4, cond_false] at h
    obtain ⟨a1, a2, a3⟩ := exprs_ren hF ho hn t e 1 (by simpa using h3)
    obtain ⟨b1, b2, b3⟩ := stmts_ren t body (deep + 1) (by simpa using h4)
    obtain ⟨c1, c2, c3⟩ := stmts_ren t els (deep + 1) h
    refine ⟨?_, ?_, fun x => ?_⟩
    · show (stmtF (p.ren o n) t (.mk kind (ren o n name) (ren o n other) (Expr.renL o n e) (Stmt.renL o n body) (Stmt.renL o n els) at_) deep).rule = 0
      have hp : fieldsB (.mk kind (ren o n name) (ren o n other) (Expr.renL o n e) (Stmt.renL o n body) (Stmt.renL o n els) at_) = fieldsB (.mk kind name other e body els at_) := hp
      unfold stmtF
      rw [hp, h1, hN, h2, a1, b1]
      exact c1
    · show Stmt.mk kind (ren n o (ren o n name)) (ren n o (ren o n other)) (Expr.renL n o (Expr.renL o n e)) (Stmt.renL n o (Stmt.renL o n body)) (Stmt.renL n o (Stmt.renL o n els)) at_ = _
      rw [ren_back hname, ren_back hother, a2, b2, c2]
    · obtain ⟨R, W⟩ := x
      show stmtM (p.ren o n) t (.mk kind (ren o n name) (ren o n other) (Expr.renL o n e) (Stmt.renL o n body) (Stmt.renL o n els) at_) (R, W) = _
      unfold stmtM
      rw [a3, b3, c3, markB_ren hF hname, markB_ren hF hother, markB_ren hF hother, markB_ren hF hname]
theorem stmts_ren (t : Int) : ∀ (l : List Stmt) (deep : Int), (stmtsF p t l deep).rule = 0 → (stmtsF (p.ren o n) t (Stmt.renL o n l) deep).rule = 0 ∧ Stmt.renL n o (Stmt.renL o n l) = l ∧ ∀ x, stmtsM (p.ren o n) t (Stmt.renL o n l) x = stmtsM p t l x
  | [], deep, h => ⟨rfl, rfl, fun R => rfl⟩
  | e :: l, deep, h => by
    unfold stmtsF at h
    cases h1 : ((stmtF p t e deep).rule != 0) with
    | true =>
      rw [h1, cond_true] at h
      rw [h] at h1; exact absurd h1 (by decide)
    | false =>
    rw [h1, cond_false] at h
    obtain ⟨a1, a2, a3⟩ := stmt_ren t e deep (by simpa using h1)
    obtain ⟨b1, b2, b3⟩ := stmts_ren t l deep h
    refine ⟨?_, ?_, fun R => ?_⟩
    · show (stmtsF (p.ren o n) t (Stmt.ren o n e :: Stmt.renL o n l) deep).rule = 0
      unfold stmtsF
      rw [a1]
      exact b1
    · show Stmt.ren n o (Stmt.ren o n e) :: Stmt.renL n o (Stmt.renL o n l) = _
      rw [a2, b2]
    · show stmtsM (p.ren o n) t (Stmt.ren o n e :: Stmt.renL o n l) R = _
      unfold stmtsM
      rw [a3, b3]
end
end
/-! declarations -/
def DOk (p : Prg) (kind most : Int) (pre : List Decl) (l : List Decl) : Prop := ∀ (j : Nat) (d : Decl), l[j]? = some d → declI p kind (pre ++ l.take j) d ((pre.length + j : Nat) : Int) most = 0
theorem decls_ok {p : Prg} {kind most : Int} : ∀ (l pre : List Decl), (declsF p kind most pre l).rule = 0 ↔ DOk p kind most pre l
  | [], pre => ⟨fun _ j d h => by simp at h, fun _ => rfl⟩
  | d :: l, pre => by
    have ih := decls_ok (p := p) (kind := kind) (most := most) l (pre ++ [d])
    unfold declsF
    constructor
    · intro h
      cases h1 : (declI p kind pre d pre.length most != 0) with
      | true => rw [h1, cond_true] at h; have h : declI p kind pre d pre.length most = 0 := h; rw [h] at h1; exact absurd h1 (by decide)
      | false =>
        rw [h1, cond_false] at h
        intro j d' hj
        cases j with
        | zero =>
          rw [List.getElem?_cons_zero] at hj; cases hj
          rw [List.take_zero, List.append_nil, Nat.add_zero]; simpa using h1
        | succ j =>
          rw [List.getElem?_cons_succ] at hj
          have := ih.1 h j d' hj
          rw [List.take_succ_cons, List.append_cons]
          rw [List.length_append, List.length_singleton] at this
          rw [show pre.length + (j + 1) = pre.length + 1 + j by omega]
          exact this
    · intro h
      have h0 := h 0 d rfl
      rw [List.take_zero, List.append_nil, Nat.add_zero] at h0
      rw [h0]
      refine ih.2 fun j d' hj => ?_
      have := h (j + 1) d' hj
      rw [List.take_succ_cons, List.append_cons] at this
      rw [List.length_append, List.length_singleton, show pre.length + 1 + j = pre.length + (j + 1) by omega]
      exact this
structure TOk2 (p : Prg) (k : Nat) (t : Thread) : Prop where
  nm : nameB t.name = true
  one : (decide (findI p.shared t.name 0 ≥ 0) || decide (findI p.locks t.name 0 ≥ 0) || decide (threadI p.threads t.name 0 < k)) = false
  few : decide ((k : Int) ≥ 8) = false
  locals : (declsF p 2 64 [] t.locals).rule = 0
  body : (stmtsF p k t.body 1).rule = 0
theorem threads_ok {p : Prg} : ∀ (l : List Thread) (i : Nat) (f : Flt), (threadsF p i l f).rule = 0 ↔ f.rule = 0 ∧ ∀ (j : Nat) (t : Thread), l[j]? = some t → TOk2 p (i + j) t
  | [], i, f => ⟨fun h => ⟨h, fun j t hj => by simp at hj⟩, fun h => h.1⟩
  | t :: l, i, f => by
    have ih := threads_ok (p := p) l (i + 1)
    unfold threadsF
    cases h1 : (f.rule != 0) with
    | true =>
      have : f.rule ≠ 0 := by simpa using h1
      exact ⟨fun h => absurd h this, fun h => absurd h.1 this⟩
    | false =>
    have hf : f.rule = 0 := by simpa using h1
    rw [cond_false]
    cases h2 : nameB t.name with
    | false => exact ⟨fun h => absurd h (by decide : (1 : Int) ≠ 0), fun h => absurd (h.2 0 t rfl).nm (by rw [h2]; simp)⟩
    | true =>
    rw [Bool.not_true, cond_false]
    cases h3 : (decide (findI p.shared t.name 0 ≥ 0) || decide (findI p.locks t.name 0 ≥ 0) || decide (threadI p.threads t.name 0 < i)) with
    | true => exact ⟨fun h => absurd h (by decide : (2 : Int) ≠ 0), fun h => absurd (h.2 0 t rfl).one (by rw [Nat.add_zero, h3]; simp)⟩
    | false =>
    rw [cond_false]
    cases h4 : decide ((i : Int) ≥ 8) with
    | true => exact ⟨fun h => absurd h (by decide : (3 : Int) ≠ 0), fun h => absurd (h.2 0 t rfl).few (by rw [Nat.add_zero, h4]; simp)⟩
    | false =>
    rw [cond_false, ih]
    constructor
    · rintro ⟨h5, h6⟩
      refine ⟨hf, fun j t' hj => ?_⟩
      cases j with
      | zero =>
        rw [List.getElem?_cons_zero] at hj; cases hj
        cases h7 : ((declsF p 2 64 [] t.locals).rule == 0) with
        | false =>
          rw [h7, cond_false] at h5
          rw [h5] at h7; exact absurd h7 (by decide)
        | true =>
          rw [h7, cond_true] at h5
          exact ⟨h2, h3, h4, by simpa using h7, h5⟩
      | succ j =>
        rw [List.getElem?_cons_succ] at hj
        have := h6 j t' hj
        rw [show i + 1 + j = i + (j + 1) by omega] at this
        exact this
    · rintro ⟨_, h⟩
      have h0 := h 0 t rfl
      refine ⟨?_, fun j t' hj => ?_⟩
      · rw [h0.locals]; exact h0.body
      · have := h (j + 1) t' hj
        rw [show i + (j + 1) = i + 1 + j by omega] at this
        exact this
structure POk (p : Prg) : Prop where
  sh : DOk p 0 64 [] p.shared
  lo : DOk p 1 16 [] p.locks
  th : ∀ (j : Nat) (t : Thread), p.threads[j]? = some t → TOk2 p j t
theorem first_ok (p : Prg) : (firstF p).rule = 0 ↔ POk p := by
  unfold firstF
  rw [threads_ok]
  constructor
  · rintro ⟨h1, h2⟩
    cases h : ((declsF p 0 64 [] p.shared).rule == 0) with
    | true =>
      rw [h, cond_true] at h1
      exact ⟨(decls_ok _ _).1 (by simpa using h), (decls_ok _ _).1 h1, fun j t hj => by have := h2 j t hj; rwa [Nat.zero_add] at this⟩
    | false => rw [h, cond_false] at h1; rw [h1] at h; exact absurd h (by decide)
  · rintro ⟨h1, h2, h3⟩
    refine ⟨?_, fun j t hj => by rw [Nat.zero_add]; exact h3 j t hj⟩
    rw [(decls_ok _ _).2 h1]
    exact (decls_ok _ _).2 h2
theorem check_ok (p : Prg) : (checkF p).1 = 0 ↔ POk p := by
  rw [← first_ok]
  unfold checkF
  cases h : ((firstF p).rule != 0) with
  | true =>
    have : (firstF p).rule ≠ 0 := by simpa using h
    exact ⟨fun h => absurd h (by decide : (50 : Int) ≠ 0), fun h => absurd h this⟩
  | false => exact ⟨fun _ => by simpa using h, fun _ => rfl⟩
end Go.Proofs.Ytbpcbhmdjphodaa.am

namespace Go.Proofs.Ytbpcbhmdjphodaa.am
open Go
theorem declI_0 {p : Prg} {kind : Int} {pre : List Decl} {d : Decl} {i most : Int} : declI p kind pre d i most = 0 ↔ nameB d.name = true ∧ twiceB p kind pre d.name = false ∧ decide (i ≥ most) = false ∧ wordI kind d.word = false := by
  unfold declI
  cases nameB d.name <;> cases twiceB p kind pre d.name <;> cases decide (i ≥ most) <;> cases wordI kind d.word <;> simp
theorem nameB_ren {o n s : ByteArray} (hn : nameB n = true) (hs : nameB s = true) : nameB (ren o n s) = true := by
  by_cases e : s = o
  · rw [e, ren_o]; exact hn
  · rw [ren_ne e]; exact hs
theorem Lacks.take {n : ByteArray} {l : List Decl} (h : Lacks n l) (j : Nat) : Lacks n (l.take j) := fun d hd => h d (List.mem_of_mem_take hd)
theorem findI_mem {s : ByteArray} : ∀ {l : List Decl} {k : Nat}, findI l s k ≠ -1 → ∃ d ∈ l, d.name = s
  | [], k, h => absurd rfl h
  | d :: l, k, h => by
    unfold findI at h
    split at h
    · rename_i e; exact ⟨d, by simp, seq_iff.1 e⟩
    · obtain ⟨x, h1, h2⟩ := findI_mem h
      exact ⟨x, by simp [h1], h2⟩
theorem DOk.name {p : Prg} {kind most : Int} {l : List Decl} (h : DOk p kind most [] l) {d : Decl} (hd : d ∈ l) : nameB d.name = true := by
  obtain ⟨j, hj⟩ := List.mem_iff_getElem?.1 hd
  exact (declI_0.1 (h j d hj)).1
section
variable {p : Prg} {o n : ByteArray} (hF : Fresh n p) (hn : nameB n = true)
include hF hn
theorem dok_ren {kind most : Int} {l : List Decl} (hl : Lacks n l) (h : DOk p kind most [] l) : DOk (p.ren o n) kind most [] (l.map (Decl.ren o n)) := by
  intro j d' hj
  obtain ⟨d, hd, rfl⟩ := map_get hj
  obtain ⟨h1, h2, h3, h4⟩ := declI_0.1 (h j d hd)
  have hdn : d.name ≠ n := hl d (List.mem_of_getElem? hd)
  refine declI_0.2 ⟨nameB_ren hn h1, ?_, h3, h4⟩
  rw [List.nil_append] at h2
  rw [List.nil_append, ← List.map_take, ← h2]
  unfold twiceB
  rw [show (Decl.ren o n d).name = ren o n d.name from rfl, findI_ren hdn _ 0 (hl.take j), show (p.ren o n).shared = p.shared.map (Decl.ren o n) from rfl, show (p.ren o n).locks = p.locks.map (Decl.ren o n) from rfl, findI_ren hdn _ 0 hF.sh, findI_ren hdn _ 0 hF.lo]
theorem tok_ren (ho : noS o = false) {k : Nat} {t : Thread} (ht : t ∈ p.threads) (h : TOk2 p k t) : TOk2 (p.ren o n) k (t.ren o n) := by
  have htn := (hF.th t ht).1
  refine ⟨nameB_ren hn h.nm, ?_, h.few, (decls_ok _ _).2 (dok_ren hF hn (hF.th t ht).2 ((decls_ok _ _).1 h.locals)), (stmts_ren hF ho (nameB_noS hn) k t.body 1 h.body).1⟩
  rw [← h.one]
  rw [show (Thread.ren o n t).name = ren o n t.name from rfl, show (p.ren o n).shared = p.shared.map (Decl.ren o n) from rfl, show (p.ren o n).locks = p.locks.map (Decl.ren o n) from rfl, show (p.ren o n).threads = p.threads.map (Thread.ren o n) from rfl,
    findI_ren htn _ 0 hF.sh, findI_ren htn _ 0 hF.lo, threadI_ren htn _ 0 fun t ht => (hF.th t ht).1]
theorem pok_ren (ho : noS o = false) (h : POk p) : POk (p.ren o n) := by
  refine ⟨dok_ren hF hn hF.sh h.sh, dok_ren hF hn hF.lo h.lo, fun j t' hj => ?_⟩
  obtain ⟨t, ht, rfl⟩ := map_get (show (p.threads.map (Thread.ren o n))[j]? = some t' from hj)
  exact tok_ren hF hn ho (List.mem_of_getElem? ht) (h.th j t ht)
end
theorem stands_name {p : Prg} {o : ByteArray} (h : POk p) (hs : standsB p o = true) : nameB o = true := by
  have key : ∀ {l : List Decl} {kind most : Int}, DOk p kind most [] l → decide (findI l o 0 ≥ 0) = true → nameB o = true := fun {l kind most} hd hf => by
    obtain ⟨d, h1, h2⟩ := findI_mem (l := l) (s := o) (k := 0) (by have := of_decide_eq_true hf; omega)
    rw [← h2]; exact hd.name h1
  unfold standsB at hs
  rw [Bool.or_eq_true, Bool.or_eq_true] at hs
  rcases hs with (hs | hs) | hs
  · exact key h.sh hs
  · exact key h.lo hs
  · obtain ⟨t, h1, h2⟩ := List.any_eq_true.1 hs
    obtain ⟨j, hj⟩ := List.mem_iff_getElem?.1 h1
    have ht := h.th j t hj
    unfold thB at h2
    rw [Bool.or_eq_true] at h2
    rcases h2 with h2 | h2
    · rw [← seq_iff.1 h2]; exact ht.nm
    · exact key ((decls_ok _ _).1 ht.locals) h2
theorem stands_ren {p : Prg} {o n s : ByteArray} (hF : Fresh n p) (hs : s ≠ n) : standsB (p.ren o n) (ren o n s) = standsB p s := by
  unfold standsB
  rw [show (p.ren o n).shared = p.shared.map (Decl.ren o n) from rfl, show (p.ren o n).locks = p.locks.map (Decl.ren o n) from rfl, show (p.ren o n).threads = p.threads.map (Thread.ren o n) from rfl,
    findI_ren hs _ 0 hF.sh, findI_ren hs _ 0 hF.lo, List.any_map]
  congr 1
  have : ∀ l : List Thread, (∀ t ∈ l, t.name ≠ n ∧ Lacks n t.locals) → l.any (thB (ren o n s) ∘ Thread.ren o n) = l.any (thB s) := by
    intro l
    induction l with
    | nil => intro _; rfl
    | cons t l ih =>
      intro h
      rw [List.any_cons, List.any_cons, ih fun x hx => h x (by simp [hx])]
      congr 1
      show thB (ren o n s) (Thread.ren o n t) = _
      unfold thB
      rw [show (Thread.ren o n t).name = ren o n t.name from rfl, show (Thread.ren o n t).locals = t.locals.map (Decl.ren o n) from rfl, ren_seq hs (h t (by simp)).1, findI_ren hs _ 0 (h t (by simp)).2]
  exact this _ hF.th
theorem decls_back {o n : ByteArray} {l : List Decl} (h : Lacks n l) : (l.map (Decl.ren o n)).map (Decl.ren n o) = l := by
  rw [List.map_map]
  refine (List.map_congr_left fun d hd => ?_).trans (List.map_id l)
  obtain ⟨nm, w, a⟩ := d
  show Decl.mk (ren n o (ren o n nm)) w a = _
  rw [ren_back (h ⟨nm, w, a⟩ hd)]; rfl
theorem renE_0 {p : Prg} {o n : ByteArray} {c : Int} : renE c p o n = 0 ↔ c = 0 ∧ nameB n = true ∧ standsB p n = false ∧ standsB p o = true := by
  unfold renE
  cases hc : (c != 0) with
  | true =>
    have : c ≠ 0 := by simpa using hc
    exact ⟨fun h => absurd h this, fun h => absurd h.1 this⟩
  | false =>
    have : c = 0 := by simpa using hc
    subst this
    cases nameB n <;> cases standsB p n <;> cases standsB p o <;> simp
theorem renamed_plain {p : Prg} {o n : ByteArray} (h : renE (checkF p).1 p o n = 0) :
    (checkF (p.ren o n)).1 = 0 ∧ renE (checkF (p.ren o n)).1 (p.ren o n) n o = 0 ∧ (p.ren o n).ren n o = p ∧ (∀ t, touchW (p.ren o n) t = touchW p t) ∧
      findI (p.ren o n).shared o 0 = -1 ∧ findI (p.ren o n).locks o 0 = -1 ∧ findI (p.ren o n).shared n 0 = findI p.shared o 0 := by
  obtain ⟨hc, hn, h1, h2⟩ := renE_0.1 h
  have hP := (check_ok p).1 hc
  have hF := fresh_of h1
  have ho := stands_name hP h2
  have hno : n ≠ o := fun e => by rw [e, h2] at h1; cases h1
  have hon : o ≠ n := fun e => hno e.symm
  have hQ := pok_ren (o := o) hF hn (nameB_noS ho) hP
  have hcq := (check_ok _).2 hQ
  have hFq : Fresh o (p.ren o n) := by
    have key : ∀ l : List Decl, Lacks o (l.map (Decl.ren o n)) := fun l d hd => by
      obtain ⟨x, _, rfl⟩ := List.mem_map.1 hd
      exact ren_out hno
    refine ⟨key _, key _, fun t ht => ?_⟩
    obtain ⟨x, _, rfl⟩ := List.mem_map.1 (show t ∈ p.threads.map (Thread.ren o n) from ht)
    exact ⟨ren_out hno, key _⟩
  have hbody : ∀ (j : Nat) (t : Thread), p.threads[j]? = some t → Stmt.renL n o (Stmt.renL o n t.body) = t.body ∧ ∀ x, stmtsM (p.ren o n) j (Stmt.renL o n t.body) x = stmtsM p j t.body x := fun j t hj =>
    (stmts_ren hF (nameB_noS ho) (nameB_noS hn) j t.body 1 (hP.th j t hj).body).2
  refine ⟨hcq, renE_0.2 ⟨hcq, ho, fresh_stands hFq, ?_⟩, ?_, fun t => ?_, findI_lacks o _ 0 hFq.sh, findI_lacks o _ 0 hFq.lo, ?_⟩
  · have := stands_ren (o := o) hF hon
    rw [ren_o] at this
    rw [this]; exact h2
  · obtain ⟨sh, lo, th⟩ := p
    show Prg.mk ((sh.map (Decl.ren o n)).map (Decl.ren n o)) ((lo.map (Decl.ren o n)).map (Decl.ren n o)) ((th.map (Thread.ren o n)).map (Thread.ren n o)) = _
    rw [decls_back hF.sh, decls_back hF.lo, List.map_map]
    congr 1
    refine (List.map_congr_left fun t ht => ?_).trans (List.map_id th)
    obtain ⟨j, hj⟩ := List.mem_iff_getElem?.1 ht
    have hb := (hbody j t hj).1
    have hl := (hF.th t ht).2
    have hnm := (hF.th t ht).1
    obtain ⟨nm, ls, body, a⟩ := t
    show Thread.mk (ren n o (ren o n nm)) ((ls.map (Decl.ren o n)).map (Decl.ren n o)) (Stmt.renL n o (Stmt.renL o n body)) a = _
    rw [ren_back hnm, decls_back hl, hb]; rfl
  · unfold touchW
    rw [check_eq, check_eq, hcq, hc, show (p.ren o n).threads.length = p.threads.length from List.length_map ..]
    cases ht : decide (t < 0) with
    | true => rfl
    | false =>
    cases hg : decide (t ≥ p.threads.length) with
    | true => rfl
    | false =>
    have hT : touchP (p.ren o n) t = touchP p t := by
      unfold touchP
      rw [show (p.ren o n).threads = p.threads.map (Thread.ren o n) from rfl, show (p.ren o n).shared.length = p.shared.length from List.length_map .., List.getElem?_map]
      cases hth : p.threads[t.toNat]? with
      | none => rfl
      | some th =>
        have h0 : ((t.toNat : Nat) : Int) = t := Int.toNat_of_nonneg (by have := of_decide_eq_false ht; omega)
        have := (hbody t.toNat th hth).2 (no p.shared.length, no p.shared.length)
        rw [h0] at this
        exact this
    rw [hT]
  · have := findI_ren (o := o) hon p.shared 0 hF.sh
    rw [ren_o] at this
    exact this
end Go.Proofs.Ytbpcbhmdjphodaa.am

namespace Go.Proofs.Ytbpcbhmdjphodaa.am
open Go Go.Proofs
theorem kRenamed (p : Prg) (o n : ByteArray) (t : Int) : K 7 [p.av, .tr (ts o), .tr (ts n), .tr (ti t)] [] (.ret (.tr (tb true))) [] := by
  refine Ctr.of hT hmix Try.func7 rfl (fun _ _ => by kernel_rfl) rfl fun hok => ?_
  clear hok
  have h23 := k23 p o n
  rw [check_eq] at h23
  conv => whnf
  refine acall.pure _ (k_lives) rfl rfl fun _ => ?_
  conv => whnf
  cases he : (renE (checkF p).1 p o n == 0) with
  | false =>
    have hne : (renE (checkF p).1 p o n != 0) = true := by unfold bne; rw [he]; rfl
    have hq : renQ (checkF p).1 p o n = ⟨[], [], []⟩ := by unfold renQ; rw [he]; rfl
    rw [hq] at h23
    generalize renE (checkF p).1 p o n = e at h23 hne
    refine acall.pure _ (h23) rfl rfl fun _ => ?_
    conv => whnf
    refine csplit (fun h1 => ?_) (fun h1 => ?_)
    · conv => whnf
      exact ⟨Or.inl rfl, trivial⟩
    · exact absurd (hne.symm.trans h1) (by simp)
  | true =>
    have he : renE (checkF p).1 p o n = 0 := by simpa using he
    have hq : renQ (checkF p).1 p o n = p.ren o n := by unfold renQ; rw [he]; rfl
    obtain ⟨r1, r2, r3, r4, r5, r6, r7⟩ := renamed_plain he
    rw [hq, he] at h23
    have h10 := k10 (p.ren o n)
    rw [check_eq] at h10
    have h23b := k23 (p.ren o n) n o
    rw [check_eq, r2, show renQ (checkF (p.ren o n)).1 (p.ren o n) n o = p from by unfold renQ; rw [r2, r3]; rfl] at h23b
    have h14 := k14 p t
    have h14b := k14 (p.ren o n) t
    rw [r4] at h14b
    have h16 := k16 (p.ren o n) o
    rw [r5] at h16
    have h18 := k18 (p.ren o n) o
    rw [r6] at h18
    have h16b := k16 (p.ren o n) n
    rw [r7] at h16b
    have h16c := k16 p o
    generalize findI p.shared o 0 = f at h16b h16c
    generalize touchW p t = c at h14 h14b
    obtain ⟨a, b⟩ := c
    generalize hcq : checkF (p.ren o n) = cq at h10 r1
    obtain ⟨c1, c2, c3⟩ := cq
    have r1 : c1 = 0 := r1
    subst r1
    have e1 : (f == f) = true := beq_self_eq_true _
    generalize p.ren o n = q at *
    refine acall.pure _ (h23) rfl rfl fun _ => ?_
    conv => whnf
    refine acall.pure _ (h10) rfl rfl fun _ => ?_
    conv => whnf
    refine acall.pure _ (h23b) rfl rfl fun _ => ?_
    conv => whnf
    refine acall.pure _ (h14) rfl rfl fun _ => ?_
    conv => whnf
    refine acall.pure _ (h14b) rfl rfl fun _ => ?_
    conv => whnf
    (repeat' (first
      | (refine csplit (fun h => ?_) (fun h => absurd h (by simp)); conv => whnf)
      | (refine acall.pure _ (k13 p) rfl rfl ?_; conv => whnf)
      | (refine acall.pure _ (k22 a) rfl rfl ?_; conv => whnf)
      | (refine acall.pure _ (k22 b) rfl rfl ?_; conv => whnf)
      | (refine acall.pure _ h16 rfl rfl ?_; conv => whnf)
      | (refine acall.pure _ h18 rfl rfl ?_; conv => whnf)
      | (refine acall.pure _ h16b rfl rfl ?_; conv => whnf)
      | (refine acall.pure _ h16c rfl rfl ?_; conv => whnf)))
    refine ⟨by kernel_rfl, fun _ => ?_⟩
    conv => whnf
    exact ⟨Or.inl (congrArg tb e1), trivial⟩
end Go.Proofs.Ytbpcbhmdjphodaa.am

namespace Go.Proofs.Ytbpcbhmdjphodaa.rCheckRenamed
open Go Go.RowKit Go.ChangeShapes Go.WideShapes Go.ChangeAt Go.WideMaps Go.WideElems
open Go.ChangeMaps (open_string shut_string)
open Go.Proofs.Ytbpcbhmdjphodaa.am

theorem own : ownKnob Try.prog.godebug = none := by kernel_rfl
theorem laidOut : laidOutB Try.prog = true := by kernel_rfl
set_option maxRecDepth 100000 in
theorem contract (H : Type) (enc : TypeId × Value → H) (W : World) (args : Array Value) (ds gs : List (DataW H)) (before : List MemPlace)
    (hval : ∀ (j : Nat) t v, Try.f7.params[j]? = some t → args[j]? = some v → ∃ base, Value.okWide Try.prog W .any base t v)
    (hW : DataW.Whole enc Try.prog Try.f7.params.toList Rows.checkRenamedSpec.vars false W args.toList ds gs before)
    (hwt : (DataW.weightsEach Try.prog (Try.f7.params.toList ++ (OpenSpec.ofChange Rows.checkRenamedSpec).bare.plain.varTypes Try.prog) (ds ++ gs)).all (· ≤ reachBytes) = true) :
    Calls Try.prog 7 args W fun e W' => ∃ v, e = .returned v ∧ Rows.checkRenamedSpec.post enc Try.prog Try.f7 false true false false W args v W' := by
  have hW' := hW
  obtain ⟨p, q, hA0, hV, rfl, hfz, hnd⟩ := hW
  have hA : DataW.TrodAll enc Try.prog W 0 (fun _ => true) true Try.f7.params.toList args.toList ds p := hA0
  rw [Try.params7] at hA hval
  obtain ⟨v0, vs0, d0, ds0, p0, q0, hargs, rfl, rfl, h0, r0⟩ := trodAll_cons hA
  obtain ⟨v1, vs1, d1, ds1, p1, q1, rfl, rfl, rfl, h1, r1⟩ := trodAll_cons r0
  obtain ⟨v2, vs2, d2, ds2, p2, q2, rfl, rfl, rfl, h2, r2⟩ := trodAll_cons r1
  obtain ⟨v3, vs3, d3, ds3, p3, q3, rfl, rfl, rfl, h3, r3⟩ := trodAll_cons r2
  obtain ⟨rfl, rfl, rfl⟩ := trodAll_nil r3
  obtain rfl : args = #[v0, v1, v2, v3] := by cases args; simp_all
  obtain ⟨rfl, rfl⟩ := trodVars_none hV
  clear hA0 hA
  simp only [List.append_nil] at hW'
  have hlt : ∀ x ∈ (p0 ++ (p1 ++ (p2 ++ (p3)))), x.block < W.heap.size := fun x hx => hW'.lt x (by simpa using hx)
  have hwt : (DataW.weightsEach Try.prog [25, 9, 9, 3] [d0, d1, d2, d3]).all (· ≤ reachBytes) = true := hwt
  simp only [DataW.weightsEach, List.all_append, List.all_nil, Bool.and_true, Bool.and_eq_true] at hwt
  obtain ⟨cs0, rfl⟩ : ∃ cs, v0 = .agg cs := by
    obtain ⟨base, hv⟩ := hval 0 25 v0 rfl rfl
    unfold Value.okWide at hv
    rw [Try.underlying25] at hv
    obtain ⟨cs, rfl, _⟩ := hv
    exact ⟨cs, rfl⟩
  obtain ⟨x0, hx0⟩ := open_prg (.inr ⟨cs0, rfl⟩) h0 hwt.1 (fun x hx => hlt x (by simp [hx]))
  obtain ⟨x1, rfl, rfl, rfl, wx1⟩ := open_string Try.underlying9 ((hval 1 9 v1 rfl rfl).choose_spec) h1
  obtain ⟨x2, rfl, rfl, rfl, wx2⟩ := open_string Try.underlying9 ((hval 2 9 v2 rfl rfl).choose_spec) h2
  obtain ⟨x3, rfl, rfl, rfl, wx3⟩ := open_int Try.underlying3 ((hval 3 3 v3 rfl rfl).choose_spec) h3
  refine (K.calls (kRenamed x0 x1 x2 x3) W #[.agg cs0, .string x1, .string x2, .int .i64 x3] rfl ?_).mono fun e W' he => ?_
  · intro i v a e1 e2
    have e1 := arr_get e1
    match i, e2 with
    | 0, e2 => cases e2; cases e1; exact hx0
    | 1, e2 => cases e2; cases e1; exact .tr (.v (by unfold maxLen at wx1; exact wx1))
    | 2, e2 => cases e2; cases e1; exact .tr (.v (by unfold maxLen at wx2; exact wx2))
    | 3, e2 => cases e2; cases e1; exact .tr (.v (lit_good wx3))
  obtain ⟨hb, v, rfl, g', hR⟩ := he
  obtain ⟨rfl, _⟩ := val_inv hR
  exact ⟨_, rfl, _, _, _, [], _, [], hW', trodAll_cons_mk (shut_bool Try.underlying4 _) trodAll_mk0, (trodAll_cons_mk (Below.trod laidOut (by kernel_rfl) (of_decide_eq_true (by kernel_rfl)) h0 hb (fun x hx => hlt x (by simp [hx]))) (trodAll_cons_mk (shut_string Try.underlying9 wx1) (trodAll_cons_mk (shut_string Try.underlying9 wx2) (trodAll_cons_mk (shut_int Try.underlying3 wx3) trodAll_mk0)))), rfl, hb.frame _, fun h => by cases h⟩

theorem reads (os : Os) {H : Type} (enc : TypeId × Value → H) : ∃ places, DataW.whole enc Try.prog ((World.holding Try.prog os ⟨#[], #[], []⟩).forCall (fun _ _ => 0) ⟨#[], #[.agg #[.slice none 0 0, .slice none 0 0, .slice none 0 0], .string ⟨#[]⟩, .string ⟨#[]⟩, .int .i64 0], []⟩).memory Try.f7.params.toList Rows.checkRenamedSpec.vars false (#[.agg #[.slice none 0 0, .slice none 0 0, .slice none 0 0], .string ⟨#[]⟩, .string ⟨#[]⟩, .int .i64 0] : Array Value).toList 8 = some ([.agg [.nil, .nil, .nil], .lit (.string []), .lit (.string []), .lit (.int .i64 0)], [], places) :=
  ⟨[], by kernel_rfl⟩

set_option maxRecDepth 100000 in
theorem lifted (os : Os) (started : os.Started) (H : Type) (enc : TypeId × Value → H) (F : Stop.Interp) :
    ReturnsInHanded {} Try.checked os 7 .any ((OpenSpec.ofChange Rows.checkRenamedSpec).preRow enc Try.prog Try.f7 Rows.checkRenamedRow.domain false Rows.checkRenamedRow.laid) (((OpenSpec.ofChange Rows.checkRenamedSpec).at F).post enc Try.prog Try.f7 false true false false) := by
  obtain ⟨places, hx⟩ := reads os enc
  refine returnsInHanded_of_row (C := Try.checked) (s := OpenSpec.ofChange Rows.checkRenamedSpec) own started (by kernel_rfl) Try.func7
    (witness_row_at (enc := enc) (C := Try.checked) false (World.holding Try.prog os ⟨#[], #[], []⟩) #[.agg #[.slice none 0 0, .slice none 0 0, .slice none 0 0], .string ⟨#[]⟩, .string ⟨#[]⟩, .int .i64 0] rfl (by kernel_rfl) (by kernel_rfl) (by kernel_rfl)
      (OpenSpec.preRow_of_cond 8 hx (by kernel_rfl) (fun k hk => by cases hk) (by kernel_rfl) (laidMet_nil _ _))) ?_
  intro W base args ds gs before hval hW _ _ hwt _ _ _
  exact contract H enc W args ds gs before (fun j t v h1 h2 => ⟨base, hval j t v h1 h2⟩) hW hwt

theorem said : Rows.CheckRenamedSaid :=
  OpenClaim.holds_of_cond 7 Try.f7 rfl rfl rfl rfl rfl rfl rfl ⟨rfl, rfl, rfl, rfl, rfl⟩ rfl rfl rfl rfl rfl (by kernel_rfl) Try.func7 (by kernel_rfl)
    (of_decide_eq_true (by kernel_rfl)) (by unfold Func.isWrapper; first | (rw [if_pos (by decide +kernel)]; kernel_rfl) | (rw [if_neg (by decide +kernel)]; exact ⟨rfl, rfl⟩))
    (fun os started H enc _ F => by rw [OpenClaim.pre_eq_preRow]; exact lifted os started H enc F)
end Go.Proofs.Ytbpcbhmdjphodaa.rCheckRenamed

/- Contracts: the reference's Touches. Contract: the law CheckNames: true. every Shared, Lock, Local and Touches answers as the reference does: for every input the law returns true, and each argument reads as it did. No condition of its own. -/
import Derived.Test.YtbpcbhmdjphodaaC4
import Derived.Test.YtbpcbhmdjphodaaC2
import Derived.Test.YtbpcbhmdjphodaaRows
import Derived.Deep.DeepHandedRow
import Derived.ProofKit
set_option linter.all false

namespace Go.Proofs.Ytbpcbhmdjphodaa.am
open Go Go.Proofs
def putGo (l0 : List Int) (n : Int) : List Int → List Int → Bool → List Int
  | [], out, done => bif done then out else out ++ [n]
  | x :: r, out, done => bif x == n then l0 else bif decide (x > n) && !done then putGo l0 n r (out ++ [n] ++ [x]) true else putGo l0 n r (out ++ [x]) done
theorem putGo_at {l0 : List Int} {n : Int} {l : List Int} {i : Nat} {x : Int} {out : List Int} {done : Bool} (h : l[i]? = some x) :
    putGo l0 n (l.drop i) out done = bif x == n then l0 else bif decide (x > n) && !done then putGo l0 n (l.drop (i + 1)) (out ++ [n] ++ [x]) true else putGo l0 n (l.drop (i + 1)) (out ++ [x]) done := by
  rw [drop_cons h]; rfl
theorem app_rows (out : List Int) (x : Int) : List.take out.length (intR out) ++ [[ti x]] = intR (out ++ [x]) := by
  rw [List.take_of_length_le (by rw [intR_len]; exact Nat.le_refl _)]; simp [intR]
theorem k87 (l : List Int) (n : Int) (hb : (l.length + 2) * 8 ≤ 140737488351232) : K 87 [.tr (intsT l), .tr (ti n)] [] (.ret (.tr (intsT (putGo l n l [] false)))) [] := by
  refine Ctr.of hT hmix Try.func87 rfl (fun _ _ => by kernel_rfl) rfl fun hok => ?_
  have hl := (hok.slot 0 rfl).tr.lst.2.1
  rw [List.length_map] at hl
  clear hok
  conv => whnf
  refine LoopL.by (fun x : Nat × List Int × Bool => ⟨[(0, .tr (intsT l)), (1, .tr (ti n)), (5, .sl 0 x.2.1.length), (6, .tr (tb x.2.2)), (9, .tr (intsT l)), (10, .tr (ti (intR l).length)), (11, .tr (ti x.1))], [(0, .vec 3 1 8 (intR x.2.1))], 1⟩)
    (fun x => x.1 ≤ l.length ∧ x.2.1.length ≤ x.1 + (bif x.2.2 then 1 else 0) ∧ putGo l n l [] false = putGo l n (l.drop x.1) x.2.1 x.2.2) (fun x => l.length - x.1) (0, [], false) [] [0]
    (Sub.mk' rfl (by repeat' (first | exact trivial | exact Or.inl (ti_succ (by assumption) (by assumption)) | exact Or.inl rfl | exact rfl | exact Nat.le_refl _ | apply And.intro)) ⟨⟨rfl, 3, 1, 8, rfl, by omega⟩, trivial⟩ rfl rfl) ⟨Nat.zero_le _, Nat.zero_le _, rfl⟩ ?_
  rintro ⟨i, out, done⟩ ⟨hi, ho, hf⟩ -
  have hi : i ≤ l.length := hi
  have ho : out.length ≤ i + (bif done then 1 else 0) := ho
  have hf : putGo l n l [] false = putGo l n (l.drop i) out done := hf
  have ho1 : out.length ≤ i + 1 := by cases done <;> simp at ho <;> omega
  conv => whnf
  refine csplit (fun hlt => ?_) (fun hge => ?_)
  · have hlt : i < l.length := by rw [intR_len] at hlt; simpa using hlt
    conv => whnf
    refine ⟨rfl, by omega, by rw [intR_len]; omega, fun row hrow => ?_⟩
    obtain ⟨x, hd, rfl⟩ := map_get hrow
    replace hd : l[i]? = some x := hd
    rw [putGo_at hd] at hf
    clear hrow
    conv => whnf
    refine csplit (fun h1 => ?_) (fun h1 => ?_)
    · rw [show (x == n) = true from h1] at hf
      conv => whnf
      exact ⟨Or.inl (by rw [hf]; rfl), trivial⟩
    rw [show (x == n) = false from h1] at hf
    conv => whnf
    refine csplit (fun h2 => ?_) (fun h2 => ?_)
    · conv => whnf
      refine csplit (fun h3 => ?_) (fun h3 => ?_)
      · rw [show decide (x > n) = true from h2, show (!done) = true from h3] at hf
        have hdn : done = false := by simpa using h3
        rw [hdn] at ho
        have ho : out.length ≤ i := ho
        conv => whnf
        refine ⟨rfl, rfl, rfl, by show out.length ≤ (intR out).length; (repeat rw [app_rows]); rw [intR_len]; simp, by show (out.length + 1) * 8 ≤ 140737488351232; omega, fun q hq => ?_, ?_⟩
        · cases hq with
          | head => exact Nat.ne_of_beq_eq_false rfl
          | tail _ h => cases h
        conv => whnf
        refine ⟨rfl, rfl, rfl, by show out.length + 1 ≤ (List.take (out.length) (intR out) ++ [[ti n]]).length; (repeat rw [app_rows]); rw [intR_len]; simp, by show (out.length + 1 + 1) * 8 ≤ 140737488351232; omega, fun q hq => ?_, ?_⟩
        · cases hq with
          | head => exact Nat.ne_of_beq_eq_false rfl
          | tail _ h => cases h
        conv => whnf
        exact ⟨(i + 1, out ++ [n] ++ [x], true), [24], [], Sub.mk' rfl ⟨(by repeat' (first | exact trivial | exact Or.inl (ti_succ (by assumption) (by assumption)) | exact Or.inl rfl | exact rfl | exact Nat.le_refl _ | apply And.intro)), (by repeat' (first | exact trivial | exact Or.inl (ti_succ (by assumption) (by assumption)) | exact Or.inl rfl | exact rfl | exact Nat.le_refl _ | apply And.intro)), ⟨rfl, by simp⟩, (by repeat' (first | exact trivial | exact Or.inl (ti_succ (by assumption) (by assumption)) | exact Or.inl rfl | exact rfl | exact Nat.le_refl _ | apply And.intro)), (by repeat' (first | exact trivial | exact Or.inl (ti_succ (by assumption) (by assumption)) | exact Or.inl rfl | exact rfl | exact Nat.le_refl _ | apply And.intro)), (by repeat' (first | exact trivial | exact Or.inl (ti_succ (by assumption) (by assumption)) | exact Or.inl rfl | exact rfl | exact Nat.le_refl _ | apply And.intro)), (by repeat' (first | exact trivial | exact Or.inl (ti_succ (by assumption) (by assumption)) | exact Or.inl rfl | exact rfl | exact Nat.le_refl _ | apply And.intro)), trivial⟩ ⟨⟨rfl, rfl, rfl, by show List.take (out.length + 1) (List.take out.length (intR out) ++ [[ti n]]) ++ [[ti x]] = _; rw [app_rows, show out.length + 1 = (out ++ [n]).length by simp]; exact app_rows _ _⟩, trivial⟩ rfl rfl, ⟨hlt, by show (out ++ [n] ++ [x]).length ≤ i + 1 + 1; simp; omega, hf⟩, by omega⟩
      · rw [show decide (x > n) = true from h2, show (!done) = false from h3, Bool.and_false] at hf
        have hdn : done = true := by simpa using h3
        conv => whnf
        refine ⟨rfl, rfl, rfl, by show out.length ≤ (intR out).length; (repeat rw [app_rows]); rw [intR_len]; simp, by show (out.length + 1) * 8 ≤ 140737488351232; omega, fun q hq => ?_, ?_⟩
        · cases hq with
          | head => exact Nat.ne_of_beq_eq_false rfl
          | tail _ h => cases h
        conv => whnf
        exact ⟨(i + 1, out ++ [x], done), [18], [], Sub.mk' rfl ⟨(by repeat' (first | exact trivial | exact Or.inl (ti_succ (by assumption) (by assumption)) | exact Or.inl rfl | exact rfl | exact Nat.le_refl _ | apply And.intro)), (by repeat' (first | exact trivial | exact Or.inl (ti_succ (by assumption) (by assumption)) | exact Or.inl rfl | exact rfl | exact Nat.le_refl _ | apply And.intro)), ⟨rfl, by simp⟩, (by repeat' (first | exact trivial | exact Or.inl (ti_succ (by assumption) (by assumption)) | exact Or.inl rfl | exact rfl | exact Nat.le_refl _ | apply And.intro)), (by repeat' (first | exact trivial | exact Or.inl (ti_succ (by assumption) (by assumption)) | exact Or.inl rfl | exact rfl | exact Nat.le_refl _ | apply And.intro)), (by repeat' (first | exact trivial | exact Or.inl (ti_succ (by assumption) (by assumption)) | exact Or.inl rfl | exact rfl | exact Nat.le_refl _ | apply And.intro)), (by repeat' (first | exact trivial | exact Or.inl (ti_succ (by assumption) (by assumption)) | exact Or.inl rfl | exact rfl | exact Nat.le_refl _ | apply And.intro)), trivial⟩ ⟨⟨rfl, rfl, rfl, by exact app_rows _ _⟩, trivial⟩ rfl rfl, ⟨hlt, by show (out ++ [x]).length ≤ i + 1 + _; simp [hdn] at ho ⊢; omega, hf⟩, by omega⟩
    · rw [show decide (x > n) = false from h2, Bool.false_and] at hf
      conv => whnf
      refine ⟨rfl, rfl, rfl, by show out.length ≤ (intR out).length; (repeat rw [app_rows]); rw [intR_len]; simp, by show (out.length + 1) * 8 ≤ 140737488351232; omega, fun q hq => ?_, ?_⟩
      · cases hq with
        | head => exact Nat.ne_of_beq_eq_false rfl
        | tail _ h => cases h
      conv => whnf
      exact ⟨(i + 1, out ++ [x], done), [18], [], Sub.mk' rfl ⟨(by repeat' (first | exact trivial | exact Or.inl (ti_succ (by assumption) (by assumption)) | exact Or.inl rfl | exact rfl | exact Nat.le_refl _ | apply And.intro)), (by repeat' (first | exact trivial | exact Or.inl (ti_succ (by assumption) (by assumption)) | exact Or.inl rfl | exact rfl | exact Nat.le_refl _ | apply And.intro)), ⟨rfl, by simp⟩, (by repeat' (first | exact trivial | exact Or.inl (ti_succ (by assumption) (by assumption)) | exact Or.inl rfl | exact rfl | exact Nat.le_refl _ | apply And.intro)), (by repeat' (first | exact trivial | exact Or.inl (ti_succ (by assumption) (by assumption)) | exact Or.inl rfl | exact rfl | exact Nat.le_refl _ | apply And.intro)), (by repeat' (first | exact trivial | exact Or.inl (ti_succ (by assumption) (by assumption)) | exact Or.inl rfl | exact rfl | exact Nat.le_refl _ | apply And.intro)), (by repeat' (first | exact trivial | exact Or.inl (ti_succ (by assumption) (by assumption)) | exact Or.inl rfl | exact rfl | exact Nat.le_refl _ | apply And.intro)), trivial⟩ ⟨⟨rfl, rfl, rfl, by exact app_rows _ _⟩, trivial⟩ rfl rfl, ⟨hlt, by show (out ++ [x]).length ≤ i + 1 + _; cases done <;> simp at ho ⊢ <;> omega, hf⟩, by omega⟩
  · have hge : l.length ≤ i := by rw [intR_len] at hge; simpa using hge
    rw [List.drop_eq_nil_of_le hge] at hf
    conv => whnf
    refine ⟨fun _ => ?_, fun h => absurd rfl h⟩
    conv => whnf
    cases done with
    | true =>
      have hf : putGo l n l [] false = out := hf
      conv => whnf
      exact ⟨⟨rfl, by rw [intR_len]; exact Nat.le_refl _, by rw [hf, List.take_of_length_le (by rw [intR_len]; exact Nat.le_refl _)]⟩, (by repeat' (first | exact trivial | exact Or.inl (ti_succ (by assumption) (by assumption)) | exact Or.inl rfl | exact rfl | exact Nat.le_refl _ | apply And.intro))⟩
    | false =>
      have hf : putGo l n l [] false = out ++ [n] := hf
      have ho : out.length ≤ i := ho
      conv => whnf
      refine ⟨rfl, rfl, rfl, by show out.length ≤ (intR out).length; (repeat rw [app_rows]); rw [intR_len]; simp, by show (out.length + 1) * 8 ≤ 140737488351232; omega, fun q hq => ?_, ?_⟩
      · cases hq with
        | head => exact Nat.ne_of_beq_eq_false rfl
        | tail _ h => cases h
      conv => whnf
      exact ⟨⟨rfl, by show out.length + 1 ≤ (List.take out.length (intR out) ++ [[ti n]]).length; rw [app_rows, intR_len]; simp, by show _ = Tr.lst _ _ (List.take (out.length + 1) (List.take out.length (intR out) ++ [[ti n]])); rw [app_rows, hf, List.take_of_length_le (by rw [intR_len]; simp)]⟩, (by repeat' (first | exact trivial | exact Or.inl (ti_succ (by assumption) (by assumption)) | exact Or.inl rfl | exact rfl | exact Nat.le_refl _ | apply And.intro))⟩

/-! the list of marks -/
theorem putGo_true {l0 : List Int} {n : Int} : ∀ (r : List Bool) (k : Nat) (out : List Int), n < k → putGo l0 n (setI r k) out true = out ++ setI r k
  | [], k, out, _ => by simp [setI, putGo]
  | b :: r, k, out, h => by
    unfold setI
    cases b with
    | true =>
      show putGo l0 n ((k : Int) :: setI r (k + 1)) out true = _
      unfold putGo
      rw [show ((k : Int) == n) = false by simp; omega]
      show (bif decide ((k : Int) > n) && false then _ else _) = _
      rw [Bool.and_false]
      show putGo l0 n (setI r (k + 1)) (out ++ [(k : Int)]) true = _
      rw [putGo_true r (k + 1) _ (by omega)]
      simp
    | false => exact putGo_true r (k + 1) out (by omega)
theorem putGo_gt {l0 : List Int} {n : Int} : ∀ (r : List Bool) (k : Nat) (out : List Int), n < k → putGo l0 n (setI r k) out false = out ++ n :: setI r k
  | [], k, out, _ => by simp [setI, putGo]
  | b :: r, k, out, h => by
    unfold setI
    cases b with
    | true =>
      show putGo l0 n ((k : Int) :: setI r (k + 1)) out false = _
      unfold putGo
      rw [show ((k : Int) == n) = false by simp; omega]
      show (bif decide ((k : Int) > n) && !false then _ else _) = _
      rw [show decide ((k : Int) > n) = true by simp; omega]
      show putGo l0 n (setI r (k + 1)) (out ++ [n] ++ [(k : Int)]) true = _
      rw [putGo_true r (k + 1) _ (by omega)]
      simp
    | false => exact putGo_gt r (k + 1) out (by omega)
theorem putGo_in {l0 : List Int} : ∀ (r : List Bool) (k j : Nat) (out : List Int), j < r.length → putGo l0 ((k + j : Nat) : Int) (setI r k) out false = bif r[j]?.getD false then l0 else out ++ setI (r.set j true) k
  | [], k, j, out, h => by simp at h
  | b :: r, k, 0, out, h => by
    show putGo l0 (k : Int) (setI (b :: r) k) out false = bif b then l0 else out ++ setI (true :: r) k
    unfold setI
    cases b with
    | true =>
      show putGo l0 k ((k : Int) :: setI r (k + 1)) out false = l0
      unfold putGo
      rw [show ((k : Int) == (k : Int)) = true by simp]
      rfl
    | false =>
      show putGo l0 k (setI r (k + 1)) out false = _
      rw [putGo_gt r (k + 1) out (by omega)]
      rfl
  | b :: r, k, j + 1, out, h => by
    have hj : j < r.length := by simpa using h
    have e : ((k + (j + 1) : Nat) : Int) = ((k + 1 + j : Nat) : Int) := by omega
    show putGo l0 ((k + (j + 1) : Nat) : Int) (setI (b :: r) k) out false = bif r[j]?.getD false then l0 else out ++ setI (b :: r.set j true) k
    unfold setI
    cases b with
    | true =>
      show putGo l0 _ ((k : Int) :: setI r (k + 1)) out false = _
      unfold putGo
      rw [show ((k : Int) == ((k + (j + 1) : Nat) : Int)) = false by simp; omega]
      show (bif decide ((k : Int) > _) && !false then _ else _) = _
      rw [show decide ((k : Int) > ((k + (j + 1) : Nat) : Int)) = false by simp; omega]
      show putGo l0 _ (setI r (k + 1)) (out ++ [(k : Int)]) false = _
      rw [e, putGo_in r (k + 1) j _ hj]
      cases r[j]?.getD false
      · show _ ++ _ = out ++ ((k : Int) :: setI (r.set j true) (k + 1)); simp
      · rfl
    | false =>
      show putGo l0 _ (setI r (k + 1)) out false = _
      rw [e, putGo_in r (k + 1) j _ hj]
      rfl
theorem put_set (bs : List Bool) (j : Nat) (h : j < bs.length) : putGo (setI bs 0) (j : Int) (setI bs 0) [] false = setI (bs.set j true) 0 := by
  have := putGo_in (l0 := setI bs 0) bs 0 j [] h
  rw [Nat.zero_add] at this
  rw [this, List.nil_append]
  cases hb : bs[j]?.getD false
  · rfl
  · have hs : bs.set j true = bs := by
      refine List.ext_getElem? fun i => ?_
      rw [List.getElem?_set]
      split
      · rename_i e; subst e
        have : bs[j] = true := by rw [List.getElem?_eq_getElem h] at hb; exact hb
        first | rw [if_pos h, List.getElem?_eq_getElem h, this] | rw [List.getElem?_eq_getElem h, this]
      · rfl
    rw [hs]; rfl
theorem setI_len : ∀ (bs : List Bool) (k : Nat), (setI bs k).length ≤ bs.length
  | [], _ => Nat.le_refl _
  | b :: r, k => by
    have := setI_len r (k + 1)
    unfold setI
    cases b
    · show (setI r (k + 1)).length ≤ r.length + 1; omega
    · show (setI r (k + 1)).length + 1 ≤ r.length + 1; omega
theorem set_comm (l : List Bool) (i j : Nat) : (l.set i true).set j true = (l.set j true).set i true := by
  by_cases h : i = j
  · rw [h]
  · exact List.set_comm _ _ h
theorem mark_comm (p : Prg) (t : Int) (a b : ByteArray) (l : List Bool) : markB p t a (markB p t b l) = markB p t b (markB p t a l) := by
  unfold markB
  cases decide (localI p t a ≥ 0) <;> cases decide (localI p t b ≥ 0) <;> cases decide (findI p.shared a 0 ≥ 0) <;> cases decide (findI p.shared b 0 ≥ 0) <;> first | rfl | exact set_comm ..
mutual
theorem expr_comm (p : Prg) (t : Int) (a : ByteArray) : ∀ (e : Expr) (R : List Bool), exprM p t e (markB p t a R) = markB p t a (exprM p t e R)
  | .mk kind _ _ name kids _, R => by
    unfold exprM
    cases (kind == 2)
    · exact exprs_comm p t a kids R
    · show exprsM p t kids (markB p t name (markB p t a R)) = _
      rw [mark_comm]
      exact exprs_comm p t a kids _
theorem exprs_comm (p : Prg) (t : Int) (a : ByteArray) : ∀ (l : List Expr) (R : List Bool), exprsM p t l (markB p t a R) = markB p t a (exprsM p t l R)
  | [], R => rfl
  | e :: l, R => by unfold exprsM; rw [expr_comm p t a e, exprs_comm p t a l]
end
abbrev prgB (p : Prg) : Blk := .cells 25 [.tr (declsT p.shared), .tr (declsT p.locks), .tr (threadsT p.threads)]
theorem k66 (p : Prg) (t : Int) (name : ByteArray) (bs : List Bool) (hb : bs.length = p.shared.length) : K 66 [p.av, .tr (ti t), .tr (ts name), .tr (intsT (setI bs 0))] [] (.ret (.tr (intsT (setI (markB p t name bs) 0)))) [] := by
  refine Ctr.of hT hmix Try.func66 rfl (fun _ _ => by kernel_rfl) rfl fun hok => ?_
  obtain ⟨hB, hl, _⟩ := ((hok.slot 0 rfl).agg _ (.head _)).tr.lst
  rw [List.length_map] at hl hB
  clear hok
  have hlen := setI_len bs 0
  conv => whnf
  refine acall.pure _ (k17 p name) rfl rfl fun _ => ?_
  conv => whnf
  refine csplit (fun h1 => ?_) (fun h1 => ?_)
  · have hE : markB p t name bs = bs := by
      unfold markB
      rw [show decide (findI p.shared name 0 ≥ 0) = false from decide_eq_false (by have := of_decide_eq_true h1; omega)]
      cases decide (localI p t name ≥ 0) <;> rfl
    rw [hE]
    conv => whnf
    exact ⟨Or.inl rfl, trivial⟩
  conv => whnf
  refine acall.pure _ (k21 p t name) rfl rfl fun _ => ?_
  conv => whnf
  refine csplit (fun h2 => ?_) (fun h2 => ?_)
  · have hE : markB p t name bs = bs := by unfold markB; rw [h2]; rfl
    rw [hE]
    conv => whnf
    exact ⟨Or.inl rfl, trivial⟩
  have h1 : ¬ findI p.shared name 0 < 0 := of_decide_eq_false h1
  have hE : markB p t name bs = bs.set (findI p.shared name 0).toNat true := by
    unfold markB; rw [h2, show decide (findI p.shared name 0 ≥ 0) = true from decide_eq_true (by omega)]; rfl
  have hlt := findI_lt p.shared name 0
  have hj : (findI p.shared name 0).toNat < bs.length := by omega
  have hP := put_set bs _ hj
  rw [Int.toNat_of_nonneg (by omega)] at hP
  rw [hE, ← hP]
  conv => whnf
  refine acall.pure _ (k87 (setI bs 0) (findI p.shared name 0) (by omega)) rfl rfl fun _ => ?_
  conv => whnf
  exact ⟨Or.inl rfl, trivial⟩
theorem k65 (p : Prg) (t : Int) : ∀ (m : Nat) (l : List Expr) (bs : List Bool), SizeOf.sizeOf l < m → bs.length = p.shared.length → K 65 [p.av, .tr (ti t), .tr (exprsT l), .tr (intsT (setI bs 0))] [] (.ret (.tr (intsT (setI (exprsM p t l bs) 0)))) [] := by
  intro m
  induction m with
  | zero => intro l R h; omega
  | succ m ih =>
  intro l R0 hsz hR0
  refine Ctr.of hT hmix Try.func65 rfl (fun _ _ => by kernel_rfl) rfl fun hok => ?_
  have hl := (hok.slot 2 rfl).tr.lst.2.1
  rw [erows_len] at hl
  clear hok
  conv => whnf
  refine LoopL.by (fun x : Nat × List Bool => ⟨[(1, .tr (ti t)), (3, .tr (intsT (setI x.2 0))), (4, .ptr 0 0), (11, .tr (exprsT l)), (12, .tr (ti (Expr.rows l).length)), (13, .tr (ti x.1))], [(0, prgB p)], 1⟩)
    (fun x => x.1 ≤ l.length ∧ x.2.length = p.shared.length ∧ exprsM p t l R0 = exprsM p t (l.drop x.1) x.2) (fun x => l.length - x.1) (0, R0) [0] [] (Sub.mk' rfl (by repeat' (first | exact trivial | exact Or.inl (ti_succ (by assumption) (by assumption)) | exact Or.inl rfl | exact rfl | exact Nat.le_refl _ | apply And.intro)) (by repeat' (first | exact trivial | exact Or.inl (ti_succ (by assumption) (by assumption)) | exact Or.inl rfl | exact rfl | exact Nat.le_refl _ | apply And.intro)) rfl rfl) ⟨Nat.zero_le _, hR0, rfl⟩ ?_
  rintro ⟨i, R⟩ ⟨hi, hR, hf⟩ -
  have hi : i ≤ l.length := hi
  have hR : R.length = p.shared.length := hR
  have hf : exprsM p t l R0 = exprsM p t (l.drop i) R := hf
  conv => whnf
  refine csplit (fun hlt => ?_) (fun hge => ?_)
  · have hlt : i < l.length := by rw [erows_len] at hlt; simpa using hlt
    conv => whnf
    refine ⟨rfl, by omega, by rw [erows_len]; omega, fun row hrow => ?_⟩
    obtain ⟨d, hd, rfl⟩ := erows_get hrow
    replace hd : l[i]? = some d := hd
    rw [exprsM_at hd] at hf
    clear hrow
    have hsd := size_kid hd
    have hlen := exprM_len p t d R
    obtain ⟨kind, op, word, name, kids, at_⟩ := d
    simp only [Expr.mk.sizeOf_spec] at hsd
    conv => whnf
    refine csplit (fun h1 => ?_) (fun h1 => ?_)
    · have hE : exprM p t (.mk kind op word name kids at_) R = exprsM p t kids (markB p t name R) := by unfold exprM; rw [show (kind == 2) = true from h1]; rfl
      conv => whnf
      refine acall.pure _ (k66 p t name R hR) rfl rfl fun _ => ?_
      conv => whnf
      refine acall.pure _ (ih kids (markB p t name R) (by omega) (by rw [markB_len]; exact hR)) rfl rfl fun _ => ?_
      conv => whnf
      exact ⟨(i + 1, exprM p t (.mk kind op word name kids at_) R), [0], [], Sub.mk' rfl ⟨(by repeat' (first | exact trivial | exact Or.inl (ti_succ (by assumption) (by assumption)) | exact Or.inl rfl | exact rfl | exact Nat.le_refl _ | apply And.intro)), .inl (by rw [hE]), (by repeat' (first | exact trivial | exact Or.inl (ti_succ (by assumption) (by assumption)) | exact Or.inl rfl | exact rfl | exact Nat.le_refl _ | apply And.intro)), (by repeat' (first | exact trivial | exact Or.inl (ti_succ (by assumption) (by assumption)) | exact Or.inl rfl | exact rfl | exact Nat.le_refl _ | apply And.intro)), (by repeat' (first | exact trivial | exact Or.inl (ti_succ (by assumption) (by assumption)) | exact Or.inl rfl | exact rfl | exact Nat.le_refl _ | apply And.intro)), (by repeat' (first | exact trivial | exact Or.inl (ti_succ (by assumption) (by assumption)) | exact Or.inl rfl | exact rfl | exact Nat.le_refl _ | apply And.intro)), trivial⟩ (by repeat' (first | exact trivial | exact Or.inl (ti_succ (by assumption) (by assumption)) | exact Or.inl rfl | exact rfl | exact Nat.le_refl _ | apply And.intro)) rfl rfl, ⟨hlt, by rw [hlen]; exact hR, hf⟩, by show l.length - (i + 1) < l.length - i; omega⟩
    · have hE : exprM p t (.mk kind op word name kids at_) R = exprsM p t kids R := by unfold exprM; rw [show (kind == 2) = false from h1]; rfl
      conv => whnf
      refine acall.pure _ (ih kids R (by omega) hR) rfl rfl fun _ => ?_
      conv => whnf
      exact ⟨(i + 1, exprM p t (.mk kind op word name kids at_) R), [0], [], Sub.mk' rfl ⟨(by repeat' (first | exact trivial | exact Or.inl (ti_succ (by assumption) (by assumption)) | exact Or.inl rfl | exact rfl | exact Nat.le_refl _ | apply And.intro)), .inl (by rw [hE]), (by repeat' (first | exact trivial | exact Or.inl (ti_succ (by assumption) (by assumption)) | exact Or.inl rfl | exact rfl | exact Nat.le_refl _ | apply And.intro)), (by repeat' (first | exact trivial | exact Or.inl (ti_succ (by assumption) (by assumption)) | exact Or.inl rfl | exact rfl | exact Nat.le_refl _ | apply And.intro)), (by repeat' (first | exact trivial | exact Or.inl (ti_succ (by assumption) (by assumption)) | exact Or.inl rfl | exact rfl | exact Nat.le_refl _ | apply And.intro)), (by repeat' (first | exact trivial | exact Or.inl (ti_succ (by assumption) (by assumption)) | exact Or.inl rfl | exact rfl | exact Nat.le_refl _ | apply And.intro)), trivial⟩ (by repeat' (first | exact trivial | exact Or.inl (ti_succ (by assumption) (by assumption)) | exact Or.inl rfl | exact rfl | exact Nat.le_refl _ | apply And.intro)) rfl rfl, ⟨hlt, by rw [hlen]; exact hR, hf⟩, by show l.length - (i + 1) < l.length - i; omega⟩
  · have hge : l.length ≤ i := by rw [erows_len] at hge; simpa using hge
    rw [List.drop_eq_nil_of_le hge] at hf
    rw [hf]
    conv => whnf
    refine ⟨fun _ => ?_, fun h => absurd rfl h⟩
    conv => whnf
    exact ⟨Or.inl rfl, trivial⟩
theorem k37 (p : Prg) (t : Int) : ∀ (m : Nat) (l : List Stmt) (R W : List Bool), SizeOf.sizeOf l < m → R.length = p.shared.length → W.length = p.shared.length → K 37 [p.av, .tr (ti t), .tr (stmtsT l), .tr (intsT (setI R 0)), .tr (intsT (setI W 0))] [] (.ret (.tup [.tr (intsT (setI (stmtsM p t l (R, W)).1 0)), .tr (intsT (setI (stmtsM p t l (R, W)).2 0))])) [] := by
  intro m
  induction m with
  | zero => intro l R W h; omega
  | succ m ih =>
  intro l R0 W0 hsz hR0 hW0
  refine Ctr.of hT hmix Try.func37 rfl (fun _ _ => by kernel_rfl) rfl fun hok => ?_
  have hl := (hok.slot 2 rfl).tr.lst.2.1
  rw [srows_len] at hl
  clear hok
  conv => whnf
  refine LoopL.by (fun x : Nat × List Bool × List Bool => ⟨[(1, .tr (ti t)), (3, .tr (intsT (setI x.2.1 0))), (4, .tr (intsT (setI x.2.2 0))), (5, .ptr 0 0), (14, .tr (stmtsT l)), (15, .tr (ti (Stmt.rows l).length)), (16, .tr (ti x.1))], [(0, prgB p)], 1⟩)
    (fun x => x.1 ≤ l.length ∧ x.2.1.length = p.shared.length ∧ x.2.2.length = p.shared.length ∧ stmtsM p t l (R0, W0) = stmtsM p t (l.drop x.1) x.2) (fun x => l.length - x.1) (0, R0, W0) [0] [] (Sub.mk' rfl (by repeat' (first | exact trivial | exact Or.inl (ti_succ (by assumption) (by assumption)) | exact Or.inl rfl | exact rfl | exact Nat.le_refl _ | apply And.intro)) (by repeat' (first | exact trivial | exact Or.inl (ti_succ (by assumption) (by assumption)) | exact Or.inl rfl | exact rfl | exact Nat.le_refl _ | apply And.intro)) rfl rfl) ⟨Nat.zero_le _, hR0, hW0, rfl⟩ ?_
  rintro ⟨i, R, W⟩ ⟨hi, hR, hW, hf⟩ -
  have hi : i ≤ l.length := hi
  have hR : R.length = p.shared.length := hR
  have hW : W.length = p.shared.length := hW
  have hf : stmtsM p t l (R0, W0) = stmtsM p t (l.drop i) (R, W) := hf
  conv => whnf
  refine csplit (fun hlt => ?_) (fun hge => ?_)
  · have hlt : i < l.length := by rw [srows_len] at hlt; simpa using hlt
    conv => whnf
    refine ⟨rfl, by omega, by rw [srows_len]; omega, fun row hrow => ?_⟩
    obtain ⟨d, hd, rfl⟩ := srows_get hrow
    replace hd : l[i]? = some d := hd
    rw [stmtsM_at hd] at hf
    clear hrow
    have hsd := size_kid2 hd
    have hlen := stmtM_len p t d (R, W)
    obtain ⟨kind, name, other, e, body, els, at_⟩ := d
    simp only [Stmt.mk.sizeOf_spec] at hsd
    conv => whnf
    refine acall.pure _ (k65 p t (SizeOf.sizeOf e + 1) e R (by omega) hR) rfl rfl fun _ => ?_
    conv => whnf
    refine csplit (fun h1 => ?_) (fun h1 => ?_)
    · have hk : kind = 1 := eq_of_beq h1
      conv => whnf
      refine acall.pure _ (k66 p t name W hW) rfl rfl fun _ => ?_
      conv => whnf
      refine csplit (fun h2 => ?_) (fun h2 => ?_)
      · have hk2 : kind = 2 := eq_of_beq h2
        omega
      conv => whnf
      have hE : stmtM p t (.mk kind name other e body els at_) (R, W) = stmtsM p t els (stmtsM p t body (exprsM p t e R, markB p t name W)) := by
        unfold stmtM; rw [show (kind == 2) = false from h2, show (kind == 1) = true from h1]; rfl
      have hb := stmtsM_len p t body (exprsM p t e R, markB p t name W)
      have hr1 : (exprsM p t e R).length = p.shared.length := by simp only [exprsM_len, markB_len]; exact hR
      have hw1 : (markB p t name W).length = p.shared.length := by first | exact hW | (simp only [markB_len]; exact hW)
      refine acall.pure _ (ih body (exprsM p t e R) (markB p t name W) (by omega) hr1 hw1) rfl rfl fun _ => ?_
      conv => whnf
      refine acall.pure _ (ih els (stmtsM p t body (exprsM p t e R, markB p t name W)).1 (stmtsM p t body (exprsM p t e R, markB p t name W)).2 (by omega) (by rw [hb.1]; exact hr1) (by rw [hb.2]; exact hw1)) rfl rfl fun _ => ?_
      conv => whnf
      exact ⟨(i + 1, stmtM p t (.mk kind name other e body els at_) (R, W)), [0], [], Sub.mk' rfl ⟨(by repeat' (first | exact trivial | exact Or.inl (ti_succ (by assumption) (by assumption)) | exact Or.inl rfl | exact rfl | exact Nat.le_refl _ | apply And.intro)), .inl (by rw [hE]), .inl (by rw [hE]), (by repeat' (first | exact trivial | exact Or.inl (ti_succ (by assumption) (by assumption)) | exact Or.inl rfl | exact rfl | exact Nat.le_refl _ | apply And.intro)), (by repeat' (first | exact trivial | exact Or.inl (ti_succ (by assumption) (by assumption)) | exact Or.inl rfl | exact rfl | exact Nat.le_refl _ | apply And.intro)), (by repeat' (first | exact trivial | exact Or.inl (ti_succ (by assumption) (by assumption)) | exact Or.inl rfl | exact rfl | exact Nat.le_refl _ | apply And.intro)), (by repeat' (first | exact trivial | exact Or.inl (ti_succ (by assumption) (by assumption)) | exact Or.inl rfl | exact rfl | exact Nat.le_refl _ | apply And.intro)), trivial⟩ (by repeat' (first | exact trivial | exact Or.inl (ti_succ (by assumption) (by assumption)) | exact Or.inl rfl | exact rfl | exact Nat.le_refl _ | apply And.intro)) rfl rfl, ⟨hlt, by rw [hlen.1]; exact hR, by rw [hlen.2]; exact hW, hf⟩, by show l.length - (i + 1) < l.length - i; omega⟩
    conv => whnf
    refine csplit (fun h2 => ?_) (fun h2 => ?_)
    · conv => whnf
      refine acall.pure _ (k66 p t name W hW) rfl rfl fun _ => ?_
      conv => whnf
      have h3 : kind = 2 := eq_of_beq h2
      refine csplit (fun h4 => ?_) (fun h4 => ?_)
      · conv => whnf
        refine acall.pure _ (k66 p t other (exprsM p t e R) (by rw [exprsM_len]; exact hR)) rfl rfl fun _ => ?_
        conv => whnf
        refine acall.pure _ (k66 p t other (markB p t name W) (by rw [markB_len]; exact hW)) rfl rfl fun _ => ?_
        conv => whnf
        have hE : stmtM p t (.mk kind name other e body els at_) (R, W) = stmtsM p t els (stmtsM p t body (markB p t other (exprsM p t e R), markB p t other (markB p t name W))) := by
          unfold stmtM; rw [show (kind == 2) = true from h2, ← exprs_comm, mark_comm p t other name]; rfl
        have hb := stmtsM_len p t body (markB p t other (exprsM p t e R), markB p t other (markB p t name W))
        have hr1 : (markB p t other (exprsM p t e R)).length = p.shared.length := by simp only [exprsM_len, markB_len]; exact hR
        have hw1 : (markB p t other (markB p t name W)).length = p.shared.length := by first | exact hW | (simp only [markB_len]; exact hW)
        refine acall.pure _ (ih body (markB p t other (exprsM p t e R)) (markB p t other (markB p t name W)) (by omega) hr1 hw1) rfl rfl fun _ => ?_
        conv => whnf
        refine acall.pure _ (ih els (stmtsM p t body (markB p t other (exprsM p t e R), markB p t other (markB p t name W))).1 (stmtsM p t body (markB p t other (exprsM p t e R), markB p t other (markB p t name W))).2 (by omega) (by rw [hb.1]; exact hr1) (by rw [hb.2]; exact hw1)) rfl rfl fun _ => ?_
        conv => whnf
        exact ⟨(i + 1, stmtM p t (.mk kind name other e body els at_) (R, W)), [0], [], Sub.mk' rfl ⟨(by repeat' (first | exact trivial | exact Or.inl (ti_succ (by assumption) (by assumption)) | exact Or.inl rfl | exact rfl | exact Nat.le_refl _ | apply And.intro)), .inl (by rw [hE]), .inl (by rw [hE]), (by repeat' (first | exact trivial | exact Or.inl (ti_succ (by assumption) (by assumption)) | exact Or.inl rfl | exact rfl | exact Nat.le_refl _ | apply And.intro)), (by repeat' (first | exact trivial | exact Or.inl (ti_succ (by assumption) (by assumption)) | exact Or.inl rfl | exact rfl | exact Nat.le_refl _ | apply And.intro)), (by repeat' (first | exact trivial | exact Or.inl (ti_succ (by assumption) (by assumption)) | exact Or.inl rfl | exact rfl | exact Nat.le_refl _ | apply And.intro)), (by repeat' (first | exact trivial | exact Or.inl (ti_succ (by assumption) (by assumption)) | exact Or.inl rfl | exact rfl | exact Nat.le_refl _ | apply And.intro)), trivial⟩ (by repeat' (first | exact trivial | exact Or.inl (ti_succ (by assumption) (by assumption)) | exact Or.inl rfl | exact rfl | exact Nat.le_refl _ | apply And.intro)) rfl rfl, ⟨hlt, by rw [hlen.1]; exact hR, by rw [hlen.2]; exact hW, hf⟩, by show l.length - (i + 1) < l.length - i; omega⟩
      · exact absurd (show (kind == 2) = false from h4) (by rw [show (kind == 2) = true from h2]; exact Bool.noConfusion)
    · conv => whnf
      refine csplit (fun h4 => ?_) (fun h4 => ?_)
      · exact absurd (show (kind == 2) = true from h4) (by rw [show (kind == 2) = false from h2]; exact Bool.noConfusion)
      · conv => whnf
        have hE : stmtM p t (.mk kind name other e body els at_) (R, W) = stmtsM p t els (stmtsM p t body (exprsM p t e R, W)) := by
          unfold stmtM; rw [show (kind == 2) = false from h2, show (kind == 1) = false from h1]; rfl
        have hb := stmtsM_len p t body (exprsM p t e R, W)
        have hr1 : (exprsM p t e R).length = p.shared.length := by simp only [exprsM_len, markB_len]; exact hR
        have hw1 : (W).length = p.shared.length := by first | exact hW | (simp only [markB_len]; exact hW)
        refine acall.pure _ (ih body (exprsM p t e R) (W) (by omega) hr1 hw1) rfl rfl fun _ => ?_
        conv => whnf
        refine acall.pure _ (ih els (stmtsM p t body (exprsM p t e R, W)).1 (stmtsM p t body (exprsM p t e R, W)).2 (by omega) (by rw [hb.1]; exact hr1) (by rw [hb.2]; exact hw1)) rfl rfl fun _ => ?_
        conv => whnf
        exact ⟨(i + 1, stmtM p t (.mk kind name other e body els at_) (R, W)), [0], [], Sub.mk' rfl ⟨(by repeat' (first | exact trivial | exact Or.inl (ti_succ (by assumption) (by assumption)) | exact Or.inl rfl | exact rfl | exact Nat.le_refl _ | apply And.intro)), .inl (by rw [hE]), .inl (by rw [hE]), (by repeat' (first | exact trivial | exact Or.inl (ti_succ (by assumption) (by assumption)) | exact Or.inl rfl | exact rfl | exact Nat.le_refl _ | apply And.intro)), (by repeat' (first | exact trivial | exact Or.inl (ti_succ (by assumption) (by assumption)) | exact Or.inl rfl | exact rfl | exact Nat.le_refl _ | apply And.intro)), (by repeat' (first | exact trivial | exact Or.inl (ti_succ (by assumption) (by assumption)) | exact Or.inl rfl | exact rfl | exact Nat.le_refl _ | apply And.intro)), (by repeat' (first | exact trivial | exact Or.inl (ti_succ (by assumption) (by assumption)) | exact Or.inl rfl | exact rfl | exact Nat.le_refl _ | apply And.intro)), trivial⟩ (by repeat' (first | exact trivial | exact Or.inl (ti_succ (by assumption) (by assumption)) | exact Or.inl rfl | exact rfl | exact Nat.le_refl _ | apply And.intro)) rfl rfl, ⟨hlt, by rw [hlen.1]; exact hR, by rw [hlen.2]; exact hW, hf⟩, by show l.length - (i + 1) < l.length - i; omega⟩
  · have hge : l.length ≤ i := by rw [srows_len] at hge; simpa using hge
    rw [List.drop_eq_nil_of_le hge] at hf
    rw [hf]
    conv => whnf
    refine ⟨fun _ => ?_, fun h => absurd rfl h⟩
    conv => whnf
    exact ⟨⟨Or.inl rfl, Or.inl rfl, trivial⟩, trivial⟩
theorem k15 (p : Prg) (t : Int) : K 15 [p.av, .tr (ti t)] [] (.ret (.tup [.tr (intsT (touchW p t).1), .tr (intsT (touchW p t).2)])) [] := by
  refine Ctr.of hT hmix Try.func15 rfl (fun _ _ => by kernel_rfl) rfl fun hok => ?_
  obtain ⟨_, hl, _⟩ := ((hok.slot 0 rfl).agg _ (.tail _ (.tail _ (.head _)))).tr.lst
  rw [List.length_map] at hl
  clear hok
  have hC := check_eq p
  conv => whnf
  refine acall.pure _ (k11 p) rfl rfl fun _ => ?_
  conv => whnf
  refine csplit (fun h1 => ?_) (fun h1 => ?_)
  · have hE : touchW p t = ([], []) := by unfold touchW; rw [hC, show ((checkF p).1 != 0) = true from h1]; rfl
    rw [hE]
    conv => whnf
    exact ⟨⟨Or.inr ⟨rfl, _, _, rfl⟩, Or.inr ⟨rfl, _, _, rfl⟩, trivial⟩, trivial⟩
  conv => whnf
  refine csplit (fun h2 => ?_) (fun h2 => ?_)
  · have hE : touchW p t = ([], []) := by unfold touchW; rw [show decide (t < 0) = true from h2, Bool.or_true]; rfl
    rw [hE]
    conv => whnf
    exact ⟨⟨Or.inr ⟨rfl, _, _, rfl⟩, Or.inr ⟨rfl, _, _, rfl⟩, trivial⟩, trivial⟩
  conv => whnf
  rw [List.length_map]
  refine csplit (fun h3 => ?_) (fun h3 => ?_)
  · have hE : touchW p t = ([], []) := by unfold touchW; rw [show decide (t ≥ p.threads.length) = true from h3, Bool.or_true]; rfl
    rw [hE]
    conv => whnf
    exact ⟨⟨Or.inr ⟨rfl, _, _, rfl⟩, Or.inr ⟨rfl, _, _, rfl⟩, trivial⟩, trivial⟩
  have hE : touchW p t = (setI (touchP p t).1 0, setI (touchP p t).2 0) := by
    unfold touchW; rw [hC, show ((checkF p).1 != 0) = false from h1, show decide (t < 0) = false from h2, show decide (t ≥ p.threads.length) = false from h3]; rfl
  rw [hE]
  have h2 : ¬ t < 0 := of_decide_eq_false h2
  have h3 : ¬ t ≥ p.threads.length := of_decide_eq_false h3
  conv => whnf
  refine ⟨rfl, by omega, by rw [List.length_map]; omega, fun row hrow => ?_⟩
  obtain ⟨th, hd, rfl⟩ := map_get hrow
  clear hrow
  have hT0 : touchP p t = stmtsM p t th.body (no p.shared.length, no p.shared.length) := by unfold touchP; rw [hd]
  have hn0 : (no p.shared.length).length = p.shared.length := List.length_replicate
  have hno : ∀ n k, setI (no n) k = [] := by intro n; induction n with | zero => intro k; rfl | succ n ih => intro k; exact ih (k + 1)
  rw [hT0]
  clear hT0
  obtain ⟨name, ls, body, at_⟩ := th
  have hk := k37 p t (SizeOf.sizeOf body + 1) body (no p.shared.length) (no p.shared.length) (by omega) hn0 hn0
  rw [hno] at hk
  conv => whnf
  refine acall.gen [] [] _ _ _ _ hk rfl rfl rfl rfl ⟨(by repeat' (first | exact trivial | exact Or.inl (ti_succ (by assumption) (by assumption)) | exact Or.inl rfl | exact rfl | exact Nat.le_refl _ | apply And.intro)), (by repeat' (first | exact trivial | exact Or.inl (ti_succ (by assumption) (by assumption)) | exact Or.inl rfl | exact rfl | exact Nat.le_refl _ | apply And.intro)), (by repeat' (first | exact trivial | exact Or.inl (ti_succ (by assumption) (by assumption)) | exact Or.inl rfl | exact rfl | exact Nat.le_refl _ | apply And.intro)), .inr ⟨rfl, _, _, rfl⟩, .inr ⟨rfl, _, _, rfl⟩, trivial⟩ (by repeat' (first | exact trivial | exact Or.inl (ti_succ (by assumption) (by assumption)) | exact Or.inl rfl | exact rfl | exact Nat.le_refl _ | apply And.intro)) rfl rfl ?_
  conv => whnf
  refine ⟨by kernel_rfl, fun _ => ?_⟩
  conv => whnf
  exact ⟨⟨Or.inl rfl, Or.inl rfl, trivial⟩, trivial⟩
theorem k40 (l : List Int) : K 40 [.tr (intsT l), .tr (intsT l)] [] (.ret (.tr (tb true))) [] := by
  refine Ctr.of hT hmix Try.func40 rfl (fun _ _ => by kernel_rfl) rfl fun hok => ?_
  have hl := (hok.slot 0 rfl).tr.lst.2.1
  rw [List.length_map] at hl
  clear hok
  conv => whnf
  refine csplit (fun h1 => ?_) (fun h1 => ?_)
  · exact absurd h1 (by simp)
  conv => whnf
  refine LoopL.by (fun i : Nat => ⟨[(0, .tr (intsT l)), (1, .tr (intsT l)), (5, .tr (ti i))], [], 0⟩)
    (fun i => i ≤ l.length) (fun i => l.length - i) 0 [] [] (Sub.mk' rfl (by repeat' (first | exact trivial | exact Or.inl (ti_succ (by assumption) (by assumption)) | exact Or.inl rfl | exact rfl | exact Nat.le_refl _ | apply And.intro)) (by repeat' (first | exact trivial | exact Or.inl (ti_succ (by assumption) (by assumption)) | exact Or.inl rfl | exact rfl | exact Nat.le_refl _ | apply And.intro)) rfl rfl) (Nat.zero_le _) ?_
  rintro i hi -
  conv => whnf
  refine csplit (fun hlt => ?_) (fun hge => ?_)
  · have hlt : i < l.length := by rw [intR_len] at hlt; simpa using hlt
    conv => whnf
    refine ⟨rfl, by omega, by rw [intR_len]; omega, fun row hrow => ?_⟩
    obtain ⟨d, hd, rfl⟩ := map_get hrow
    replace hd : l[i]? = some d := hd
    clear hrow
    conv => whnf
    refine ⟨rfl, by omega, by rw [intR_len]; omega, fun row hrow => ?_⟩
    obtain ⟨d', hd', rfl⟩ := map_get hrow
    replace hd' : l[i]? = some d' := hd'
    clear hrow
    obtain rfl := Option.some.inj (hd.symm.trans hd')
    conv => whnf
    refine ⟨by kernel_rfl, fun _ => ?_⟩
    conv => whnf
    refine csplit (fun h2 => ?_) (fun h2 => ?_)
    · exact absurd h2 (by simp)
    conv => whnf
    exact ⟨i + 1, [], [], Sub.mk' rfl ⟨(by repeat' (first | exact trivial | exact Or.inl (ti_succ (by assumption) (by assumption)) | exact Or.inl rfl | exact rfl | exact Nat.le_refl _ | apply And.intro)), (by repeat' (first | exact trivial | exact Or.inl (ti_succ (by assumption) (by assumption)) | exact Or.inl rfl | exact rfl | exact Nat.le_refl _ | apply And.intro)), .inl (ti_succ hlt (by omega)), trivial⟩ (by repeat' (first | exact trivial | exact Or.inl (ti_succ (by assumption) (by assumption)) | exact Or.inl rfl | exact rfl | exact Nat.le_refl _ | apply And.intro)) rfl rfl, hlt, by omega⟩
  · conv => whnf
    refine ⟨fun _ => ?_, fun h => absurd rfl h⟩
    conv => whnf
    exact ⟨Or.inl rfl, trivial⟩
theorem k22 (l : List Int) : K 22 [.tr (intsT l), .tr (intsT l)] [] (.ret (.tr (tb true))) [] := by
  refine Ctr.of hT hmix Try.func22 rfl (fun _ _ => by kernel_rfl) rfl fun hok => ?_
  clear hok
  conv => whnf
  refine acall.pure _ (k40 l) rfl rfl fun _ => ?_
  conv => whnf
  exact ⟨Or.inl rfl, trivial⟩
end Go.Proofs.Ytbpcbhmdjphodaa.am

namespace Go.Proofs.Ytbpcbhmdjphodaa.am
open Go Go.Proofs
theorem kNames (p : Prg) (t : Int) (name : ByteArray) : K 5 [p.av, .tr (ti t), .tr (ts name)] [] (.ret (.tr (tb true))) [] := by
  refine Ctr.of hT hmix Try.func5 rfl (fun _ _ => by kernel_rfl) rfl fun hok => ?_
  clear hok
  have h14 := k14 p t
  have h15 := k15 p t
  generalize touchW p t = c at h14 h15
  obtain ⟨a, b⟩ := c
  have e1 : (findI p.shared name 0 == findI p.shared name 0) = true := beq_self_eq_true _
  have e2 : (findI p.locks name 0 == findI p.locks name 0) = true := beq_self_eq_true _
  have e3 : (localI p t name == localI p t name) = true := beq_self_eq_true _
  conv => whnf
  refine acall.pure _ (h14) rfl rfl fun _ => ?_
  conv => whnf
  refine acall.pure _ (h15) rfl rfl fun _ => ?_
  conv => whnf
  refine acall.pure _ (k_lives) rfl rfl ?_
  conv => whnf
  refine acall.pure _ (k16 p name) rfl rfl ?_
  conv => whnf
  refine acall.pure _ (k17 p name) rfl rfl ?_
  conv => whnf
  (repeat' (first
    | (refine csplit (fun h => ?_) (fun h => absurd h (by simp)); conv => whnf)
    | (refine acall.pure _ (k18 p name) rfl rfl ?_; conv => whnf)
    | (refine acall.pure _ (k19 p name) rfl rfl ?_; conv => whnf)
    | (refine acall.pure _ (k20 p t name) rfl rfl ?_; conv => whnf)
    | (refine acall.pure _ (k21 p t name) rfl rfl ?_; conv => whnf)
    | (refine acall.pure _ (k22 a) rfl rfl ?_; conv => whnf)
    | (refine acall.pure _ (k22 b) rfl rfl ?_; conv => whnf)))
  refine ⟨by kernel_rfl, fun _ => ?_⟩
  conv => whnf
  exact ⟨Or.inl rfl, trivial⟩
end Go.Proofs.Ytbpcbhmdjphodaa.am

namespace Go.Proofs.Ytbpcbhmdjphodaa.rCheckNames
open Go Go.RowKit Go.ChangeShapes Go.WideShapes Go.ChangeAt Go.WideMaps Go.WideElems
open Go.ChangeMaps (open_string shut_string)
open Go.Proofs.Ytbpcbhmdjphodaa.am

theorem own : ownKnob Try.prog.godebug = none := by kernel_rfl
theorem laidOut : laidOutB Try.prog = true := by kernel_rfl
set_option maxRecDepth 100000 in
theorem contract (H : Type) (enc : TypeId × Value → H) (W : World) (args : Array Value) (ds gs : List (DataW H)) (before : List MemPlace)
    (hval : ∀ (j : Nat) t v, Try.f5.params[j]? = some t → args[j]? = some v → ∃ base, Value.okWide Try.prog W .any base t v)
    (hW : DataW.Whole enc Try.prog Try.f5.params.toList Rows.checkNamesSpec.vars false W args.toList ds gs before)
    (hwt : (DataW.weightsEach Try.prog (Try.f5.params.toList ++ (OpenSpec.ofChange Rows.checkNamesSpec).bare.plain.varTypes Try.prog) (ds ++ gs)).all (· ≤ reachBytes) = true) :
    Calls Try.prog 5 args W fun e W' => ∃ v, e = .returned v ∧ Rows.checkNamesSpec.post enc Try.prog Try.f5 false true false false W args v W' := by
  have hW' := hW
  obtain ⟨p, q, hA0, hV, rfl, hfz, hnd⟩ := hW
  have hA : DataW.TrodAll enc Try.prog W 0 (fun _ => true) true Try.f5.params.toList args.toList ds p := hA0
  rw [Try.params5] at hA hval
  obtain ⟨v0, vs0, d0, ds0, p0, q0, hargs, rfl, rfl, h0, r0⟩ := trodAll_cons hA
  obtain ⟨v1, vs1, d1, ds1, p1, q1, rfl, rfl, rfl, h1, r1⟩ := trodAll_cons r0
  obtain ⟨v2, vs2, d2, ds2, p2, q2, rfl, rfl, rfl, h2, r2⟩ := trodAll_cons r1
  obtain ⟨rfl, rfl, rfl⟩ := trodAll_nil r2
  obtain rfl : args = #[v0, v1, v2] := by cases args; simp_all
  obtain ⟨rfl, rfl⟩ := trodVars_none hV
  clear hA0 hA
  simp only [List.append_nil] at hW'
  have hlt : ∀ x ∈ (p0 ++ (p1 ++ (p2))), x.block < W.heap.size := fun x hx => hW'.lt x (by simpa using hx)
  have hwt : (DataW.weightsEach Try.prog [25, 3, 9] [d0, d1, d2]).all (· ≤ reachBytes) = true := hwt
  simp only [DataW.weightsEach, List.all_append, List.all_nil, Bool.and_true, Bool.and_eq_true] at hwt
  obtain ⟨cs0, rfl⟩ : ∃ cs, v0 = .agg cs := by
    obtain ⟨base, hv⟩ := hval 0 25 v0 rfl rfl
    unfold Value.okWide at hv
    rw [Try.underlying25] at hv
    obtain ⟨cs, rfl, _⟩ := hv
    exact ⟨cs, rfl⟩
  obtain ⟨x0, hx0⟩ := open_prg (.inr ⟨cs0, rfl⟩) h0 hwt.1 (fun x hx => hlt x (by simp [hx]))
  obtain ⟨x1, rfl, rfl, rfl, wx1⟩ := open_int Try.underlying3 ((hval 1 3 v1 rfl rfl).choose_spec) h1
  obtain ⟨x2, rfl, rfl, rfl, wx2⟩ := open_string Try.underlying9 ((hval 2 9 v2 rfl rfl).choose_spec) h2
  refine (K.calls (kNames x0 x1 x2) W #[.agg cs0, .int .i64 x1, .string x2] rfl ?_).mono fun e W' he => ?_
  · intro i v a e1 e2
    have e1 := arr_get e1
    match i, e2 with
    | 0, e2 => cases e2; cases e1; exact hx0
    | 1, e2 => cases e2; cases e1; exact .tr (.v (lit_good wx1))
    | 2, e2 => cases e2; cases e1; exact .tr (.v (by unfold maxLen at wx2; exact wx2))
  obtain ⟨hb, v, rfl, g', hR⟩ := he
  obtain ⟨rfl, _⟩ := val_inv hR
  exact ⟨_, rfl, _, _, _, [], _, [], hW', trodAll_cons_mk (shut_bool Try.underlying4 _) trodAll_mk0, (trodAll_cons_mk (Below.trod laidOut (by kernel_rfl) (of_decide_eq_true (by kernel_rfl)) h0 hb (fun x hx => hlt x (by simp [hx]))) (trodAll_cons_mk (shut_int Try.underlying3 wx1) (trodAll_cons_mk (shut_string Try.underlying9 wx2) trodAll_mk0))), rfl, hb.frame _, fun h => by cases h⟩

theorem reads (os : Os) {H : Type} (enc : TypeId × Value → H) : ∃ places, DataW.whole enc Try.prog ((World.holding Try.prog os ⟨#[], #[], []⟩).forCall (fun _ _ => 0) ⟨#[], #[.agg #[.slice none 0 0, .slice none 0 0, .slice none 0 0], .int .i64 0, .string ⟨#[]⟩], []⟩).memory Try.f5.params.toList Rows.checkNamesSpec.vars false (#[.agg #[.slice none 0 0, .slice none 0 0, .slice none 0 0], .int .i64 0, .string ⟨#[]⟩] : Array Value).toList 8 = some ([.agg [.nil, .nil, .nil], .lit (.int .i64 0), .lit (.string [])], [], places) :=
  ⟨[], by kernel_rfl⟩

set_option maxRecDepth 100000 in
theorem lifted (os : Os) (started : os.Started) (H : Type) (enc : TypeId × Value → H) (F : Stop.Interp) :
    ReturnsInHanded {} Try.checked os 5 .any ((OpenSpec.ofChange Rows.checkNamesSpec).preRow enc Try.prog Try.f5 Rows.checkNamesRow.domain false Rows.checkNamesRow.laid) (((OpenSpec.ofChange Rows.checkNamesSpec).at F).post enc Try.prog Try.f5 false true false false) := by
  obtain ⟨places, hx⟩ := reads os enc
  refine returnsInHanded_of_row (C := Try.checked) (s := OpenSpec.ofChange Rows.checkNamesSpec) own started (by kernel_rfl) Try.func5
    (witness_row_at (enc := enc) (C := Try.checked) false (World.holding Try.prog os ⟨#[], #[], []⟩) #[.agg #[.slice none 0 0, .slice none 0 0, .slice none 0 0], .int .i64 0, .string ⟨#[]⟩] rfl (by kernel_rfl) (by kernel_rfl) (by kernel_rfl)
      (OpenSpec.preRow_of_cond 8 hx (by kernel_rfl) (fun k hk => by cases hk) (by kernel_rfl) (laidMet_nil _ _))) ?_
  intro W base args ds gs before hval hW _ _ hwt _ _ _
  exact contract H enc W args ds gs before (fun j t v h1 h2 => ⟨base, hval j t v h1 h2⟩) hW hwt

theorem said : Rows.CheckNamesSaid :=
  OpenClaim.holds_of_cond 5 Try.f5 rfl rfl rfl rfl rfl rfl rfl ⟨rfl, rfl, rfl, rfl, rfl⟩ rfl rfl rfl rfl rfl (by kernel_rfl) Try.func5 (by kernel_rfl)
    (of_decide_eq_true (by kernel_rfl)) (by unfold Func.isWrapper; first | (rw [if_pos (by decide +kernel)]; kernel_rfl) | (rw [if_neg (by decide +kernel)]; exact ⟨rfl, rfl⟩))
    (fun os started H enc _ F => by rw [OpenClaim.pre_eq_preRow]; exact lifted os started H enc F)
end Go.Proofs.Ytbpcbhmdjphodaa.rCheckNames

/- Contracts: what a thread touches, as slices of the asker's own. Contracts: spoiling of slices of one's own. Contract: the law CheckOwn: true. the answers of Rename and Touches are new memory: for every input the law returns true, and each argument reads as it did. No condition of its own. -/
import Derived.Test.YtbpcbhmdjphodaaE5
import Derived.Test.YtbpcbhmdjphodaaD4
import Derived.Test.YtbpcbhmdjphodaaD3
import Derived.Test.YtbpcbhmdjphodaaRows
import Derived.Deep.DeepHandedRow
import Derived.ProofKit
set_option linter.all false

namespace Go.Proofs.Ytbpcbhmdjphodaa.am
open Go Go.Proofs
theorem o36 (l : List Bool) (hb : l.length * 8 ≤ 140737488351232) : K 36 [.sl 0 l.length] [vecB l] (.ret (.sl 1 (setI l 0).length)) [some (vecB l), some (.vec 3 1 8 (intR (setI l 0)))] := by
  refine Ctr.new [] hT hmix Try.func36 rfl (fun _ _ => by kernel_rfl) rfl fun hok => ?_
  clear hok
  conv => whnf
  refine LoopL.by (fun x : Nat × List Int => ⟨[(3, .sl 1 x.2.length), (6, .sl 0 l.length), (7, .tr (ti l.length)), (8, .tr (ti x.1))], [(0, vecB l), (1, .vec 3 1 8 (intR x.2))], 2⟩)
    (fun x => x.1 ≤ l.length ∧ x.2.length ≤ x.1 ∧ setI l 0 = x.2 ++ setI (l.drop x.1) x.1) (fun x => l.length - x.1) (0, []) [0] [1]
    (Sub.mk' rfl ⟨⟨rfl, rfl, rfl, rfl⟩, (by repeat' (first | exact trivial | exact Or.inl (ti_succ (by assumption) (by assumption)) | exact Or.inl rfl | exact rfl | exact Nat.le_refl _ | apply And.intro)), (by repeat' (first | exact trivial | exact Or.inl (ti_succ (by assumption) (by assumption)) | exact Or.inl rfl | exact rfl | exact Nat.le_refl _ | apply And.intro)), (by repeat' (first | exact trivial | exact Or.inl (ti_succ (by assumption) (by assumption)) | exact Or.inl rfl | exact rfl | exact Nat.le_refl _ | apply And.intro)), trivial⟩ ⟨(by repeat' (first | exact trivial | exact Or.inl (ti_succ (by assumption) (by assumption)) | exact Or.inl rfl | exact rfl | exact Nat.le_refl _ | apply And.intro)), ⟨rfl, 3, 1, 8, rfl, by omega⟩, trivial⟩ rfl rfl) ⟨Nat.zero_le _, Nat.le_refl _, rfl⟩ ?_
  rintro ⟨i, out⟩ ⟨hi, ho, hf⟩ -
  have hi : i ≤ l.length := hi
  have ho : out.length ≤ i := ho
  have hf : setI l 0 = out ++ setI (l.drop i) i := hf
  conv => whnf
  refine csplit (fun hlt => ?_) (fun hge => ?_)
  · have hlt : i < l.length := by have := of_decide_eq_true hlt; omega
    conv => whnf
    refine ⟨rfl, by omega, by omega, ?_⟩
    conv => whnf
    refine ⟨rfl, by rw [marks_len]; exact hlt, fun row hrow => ?_⟩
    obtain ⟨b, hd, rfl⟩ := map_get hrow
    replace hd : l[i]? = some b := hd
    rw [setI_at hd] at hf
    refine ⟨Nat.le_refl 1, fun t ht => ?_⟩
    obtain rfl := Option.some.inj ht
    clear ht
    conv => whnf
    cases b with
    | true =>
      conv => whnf
      refine ⟨rfl, rfl, rfl, by rw [intR_len]; exact Nat.le_refl _, by show (out.length + 1) * 8 ≤ 140737488351232; omega, fun q hq => ?_, ?_⟩
      · cases hq with
        | head => exact Nat.ne_of_beq_eq_false rfl
        | tail _ h => cases h
      conv => whnf
      exact ⟨(i + 1, out ++ [(i : Int)]), [0, 12], [], Sub.mk' rfl ⟨⟨rfl, by simp⟩, (by repeat' (first | exact trivial | exact Or.inl (ti_succ (by assumption) (by assumption)) | exact Or.inl rfl | exact rfl | exact Nat.le_refl _ | apply And.intro)), (by repeat' (first | exact trivial | exact Or.inl (ti_succ (by assumption) (by assumption)) | exact Or.inl rfl | exact rfl | exact Nat.le_refl _ | apply And.intro)), .inl (ti_succ hlt (by omega)), trivial⟩ ⟨(by repeat' (first | exact trivial | exact Or.inl (ti_succ (by assumption) (by assumption)) | exact Or.inl rfl | exact rfl | exact Nat.le_refl _ | apply And.intro)), ⟨rfl, rfl, rfl, by show List.take out.length (intR out) ++ _ = _; rw [List.take_of_length_le (by rw [intR_len]; exact Nat.le_refl _)]; simp [intR]⟩, trivial⟩ rfl rfl, ⟨hlt, by simp; omega, by rw [hf]; simp⟩, by show l.length - (i + 1) < l.length - i; omega⟩
    | false =>
      conv => whnf
      exact ⟨(i + 1, out), [0, 1], [], Sub.mk' rfl ⟨(by repeat' (first | exact trivial | exact Or.inl (ti_succ (by assumption) (by assumption)) | exact Or.inl rfl | exact rfl | exact Nat.le_refl _ | apply And.intro)), (by repeat' (first | exact trivial | exact Or.inl (ti_succ (by assumption) (by assumption)) | exact Or.inl rfl | exact rfl | exact Nat.le_refl _ | apply And.intro)), (by repeat' (first | exact trivial | exact Or.inl (ti_succ (by assumption) (by assumption)) | exact Or.inl rfl | exact rfl | exact Nat.le_refl _ | apply And.intro)), .inl (ti_succ hlt (by omega)), trivial⟩ (by repeat' (first | exact trivial | exact Or.inl (ti_succ (by assumption) (by assumption)) | exact Or.inl rfl | exact rfl | exact Nat.le_refl _ | apply And.intro)) rfl rfl, ⟨hlt, by show out.length ≤ i + 1; omega, hf⟩, by show l.length - (i + 1) < l.length - i; omega⟩
  · have hge : l.length ≤ i := by have := of_decide_eq_false hge; omega
    rw [List.drop_eq_nil_of_le hge] at hf
    have hf : setI l 0 = out := hf.trans (by unfold setI; simp)
    conv => whnf
    refine ⟨fun _ => ?_, fun h => absurd rfl h⟩
    conv => whnf
    exact ⟨[0, 1], rfl, rfl, ⟨rfl, by rw [hf]⟩, ⟨rfl, rfl, rfl, rfl⟩, ⟨rfl, rfl, rfl, by rw [hf]⟩, trivial⟩

theorem n14 (p : Prg) (t : Int) (hbad : ((checkW p).1 != 0 || decide (t < 0) || decide (t ≥ p.threads.length)) = true) : K 14 [p.av, .tr (ti t)] [] (.ret (.tup [.tr tnil, .tr tnil])) [] := by
  refine Ctr.of hT hmix Try.func14 rfl (fun _ _ => by kernel_rfl) rfl fun hok => ?_
  obtain ⟨hB, hl0, _⟩ := ((hok.slot 0 rfl).agg _ (.head _)).tr.lst
  obtain ⟨_, hl, _⟩ := ((hok.slot 0 rfl).agg _ (.tail _ (.tail _ (.head _)))).tr.lst
  rw [List.length_map] at hl hB hl0
  clear hok
  have hnone : ∀ x y z : Bool, x = true ∨ y = true ∨ z = true → (x || y || z) = true := by decide
  conv => whnf
  refine acall.pure _ (k10 p) rfl rfl fun _ => ?_
  conv => whnf
  refine csplit (fun h1 => ?_) (fun h1 => ?_)
  · conv => whnf
    exact ⟨⟨Or.inl rfl, Or.inl rfl, trivial⟩, trivial⟩
  conv => whnf
  refine csplit (fun h2 => ?_) (fun h2 => ?_)
  · conv => whnf
    exact ⟨⟨Or.inl rfl, Or.inl rfl, trivial⟩, trivial⟩
  conv => whnf
  rw [List.length_map]
  refine csplit (fun h3 => ?_) (fun h3 => ?_)
  · conv => whnf
    exact ⟨⟨Or.inl rfl, Or.inl rfl, trivial⟩, trivial⟩
  exact absurd hbad (by rw [show ((checkW p).1 != 0) = false from h1, show decide (t < 0) = false from h2, show decide (t ≥ p.threads.length) = false from h3]; simp)

theorem o14 (p : Prg) (t : Int) (hgood : ((checkW p).1 != 0 || decide (t < 0) || decide (t ≥ p.threads.length)) = false) : K 14 [p.av, .tr (ti t)] [] (.ret (.tup [.sl 0 (touchW p t).1.length, .sl 1 (touchW p t).2.length])) [some (.vec 3 1 8 (intR (touchW p t).1)), some (.vec 3 1 8 (intR (touchW p t).2))] := by
  refine Ctr.new [] hT hmix Try.func14 rfl (fun _ _ => by kernel_rfl) rfl fun hok => ?_
  obtain ⟨hB, hl0, _⟩ := ((hok.slot 0 rfl).agg _ (.head _)).tr.lst
  obtain ⟨_, hl, _⟩ := ((hok.slot 0 rfl).agg _ (.tail _ (.tail _ (.head _)))).tr.lst
  rw [List.length_map] at hl hB hl0
  clear hok
  have hnone : ∀ x y z : Bool, x = true ∨ y = true ∨ z = true → (x || y || z) = true := by decide
  conv => whnf
  refine acall.pure _ (k10 p) rfl rfl fun _ => ?_
  conv => whnf
  refine csplit (fun h1 => ?_) (fun h1 => ?_)
  · exact absurd hgood (by rw [show ((checkW p).1 != 0) = true from h1]; simp)
  conv => whnf
  refine csplit (fun h2 => ?_) (fun h2 => ?_)
  · exact absurd hgood (by rw [show decide (t < 0) = true from h2]; simp)
  conv => whnf
  rw [List.length_map]
  refine csplit (fun h3 => ?_) (fun h3 => ?_)
  · exact absurd hgood (by rw [show decide (t ≥ p.threads.length) = true from h3]; simp)
  have hE : touchW p t = (setI (touchP p t).1 0, setI (touchP p t).2 0) := by
    unfold touchW; rw [show ((checkW p).1 != 0) = false from h1, show decide (t < 0) = false from h2, show decide (t ≥ p.threads.length) = false from h3]; rfl
  rw [hE]
  have h2 : ¬ t < 0 := of_decide_eq_false h2
  have h3 : ¬ t ≥ p.threads.length := of_decide_eq_false h3
  conv => whnf
  have hnn : (p.shared.map Decl.cells).length = p.shared.length := List.length_map ..
  have hm : (((p.shared.map Decl.cells).length : Nat) : Int) * ((1 : Nat) : Int) ≤ 140737488351232 := by omega
  refine ⟨by omega, by omega, hm, ?_⟩
  conv => whnf
  refine ⟨by omega, by omega, hm, ?_⟩
  conv => whnf
  refine ⟨by kernel_rfl, fun _ => ?_⟩
  conv => whnf
  refine ⟨rfl, by omega, by rw [List.length_map]; omega, fun row hrow => ?_⟩
  obtain ⟨th, hd, rfl⟩ := map_get hrow
  clear hrow
  have hT0 : touchP p t = stmtsM p t th.body (no p.shared.length, no p.shared.length) := by unfold touchP; rw [hd]
  rw [← hnn] at hT0
  have hlen := stmtsM_len p t th.body (no (p.shared.map Decl.cells).length, no (p.shared.map Decl.cells).length)
  have hn0 : (no (p.shared.map Decl.cells).length).length = (p.shared.map Decl.cells).length := List.length_replicate
  rw [hn0] at hlen
  rw [hT0]
  clear hT0
  obtain ⟨name, ls, body, at_⟩ := th
  have hmk : List.replicate (p.shared.map Decl.cells).length [tb false] = marks (no (p.shared.map Decl.cells).length) := by simp [marks, no]
  generalize hRW : stmtsM p t body (no (p.shared.map Decl.cells).length, no (p.shared.map Decl.cells).length) = RW at *
  have hk := k35 p t (p.shared.map Decl.cells).length hnn (SizeOf.sizeOf body + 1) body (no (p.shared.map Decl.cells).length) (no (p.shared.map Decl.cells).length) (by omega) hn0 hn0
  rw [hRW] at hk
  obtain ⟨R, W⟩ := RW
  conv => whnf
  refine acall.gen [35, 29, 33] [] _ _ _ _ hk rfl rfl rfl rfl (by repeat' (first | exact trivial | exact Or.inl (ti_succ (by assumption) (by assumption)) | exact Or.inl rfl | exact rfl | exact Nat.le_refl _ | apply And.intro)) ⟨(by repeat' (first | exact trivial | exact Or.inl (ti_succ (by assumption) (by assumption)) | exact Or.inl rfl | exact rfl | exact Nat.le_refl _ | apply And.intro)), ⟨rfl, rfl, rfl, hmk⟩, ⟨rfl, rfl, rfl, hmk⟩, trivial⟩ rfl rfl fun _ => ?_
  conv => whnf
  refine acall.new [29] [] _ _ _ _ (o36 R (by have := hlen.1; simp only at this; omega)) rfl rfl rfl rfl ⟨⟨rfl, hlen.1.symm⟩, trivial⟩ (by repeat' (first | exact trivial | exact Or.inl (ti_succ (by assumption) (by assumption)) | exact Or.inl rfl | exact rfl | exact Nat.le_refl _ | apply And.intro)) rfl rfl ?_
  conv => whnf
  refine acall.new [33] [] _ _ _ _ (o36 W (by have := hlen.2; simp only at this; omega)) rfl rfl rfl rfl ⟨⟨rfl, hlen.2.symm⟩, trivial⟩ (by repeat' (first | exact trivial | exact Or.inl (ti_succ (by assumption) (by assumption)) | exact Or.inl rfl | exact rfl | exact Nat.le_refl _ | apply And.intro)) rfl rfl ?_
  conv => whnf
  refine ⟨by kernel_rfl, fun _ => ?_⟩
  conv => whnf
  exact ⟨[49, 54], rfl, rfl, ⟨⟨rfl, rfl⟩, ⟨rfl, rfl⟩, trivial⟩, ⟨rfl, rfl, rfl, rfl⟩, ⟨rfl, rfl, rfl, rfl⟩, trivial⟩

end Go.Proofs.Ytbpcbhmdjphodaa.am

namespace Go.Proofs.Ytbpcbhmdjphodaa.am
open Go Go.Proofs
abbrev zDec : List Tr := [ts ⟨#[103, 111, 110, 101]⟩, ti 0, ti 0]
abbrev zExp : List Tr := [tu 0, tu 0, ti 0, ts ⟨#[]⟩, tnil, ti 0]
abbrev zStm : List Tr := [tu 0, ts ⟨#[]⟩, ts ⟨#[]⟩, tnil, tnil, tnil, ti 0]
abbrev zThr : List Tr := [ts ⟨#[]⟩, tnil, tnil, ti 0]
/-- rows, the first i of them gone -/
abbrev gone (z : List Tr) (i : Nat) (rows : List (List Tr)) : List (List Tr) := upto (fun _ => z) i rows
theorem gone_get {z row row' : List Tr} {i : Nat} {rows : List (List Tr)} (h : rows[i]? = some row) (hr : (gone z i rows)[i]? = some row') : row' = row := by
  rw [gone, upto_get h] at hr; exact (Option.some.inj hr).symm
theorem gone_set {z row : List Tr} {i : Nat} {rows : List (List Tr)} (h : rows[i]? = some row) : (gone z i rows).set i z = gone z (i + 1) rows := upto_set (f := fun _ => z) h
theorem k25 (rows : List (List Tr)) (hr : ∀ row ∈ rows, row.length = 3) : K 25 [.sl 0 rows.length] [.own 3 32 rows []] (.ret (.tup [])) [some (.own 3 32 (gone zDec rows.length rows) [])] := by
  refine Ctr.of hT hmix Try.func25 rfl (fun _ _ => by kernel_rfl) rfl fun hok => ?_
  have hl := (hok.own 0 rfl).2
  clear hok
  conv => whnf
  refine LoopL.by (fun i : Nat => ⟨[(0, .sl 0 rows.length), (4, .tr (ti rows.length)), (5, .tr (ti i))], [(0, .own 3 32 (gone zDec i rows) [])], 1⟩)
    (fun i => i ≤ rows.length) (fun i => rows.length - i) 0 [0] [] (Sub.mk' rfl (by repeat' (first | exact trivial | exact Or.inl (ti_succ (by assumption) (by assumption)) | exact Or.inl rfl | exact rfl | exact Nat.le_refl _ | apply And.intro)) ⟨⟨rfl, rfl, rfl, rfl, .inl (by rw [gone, upto_zero])⟩, trivial⟩ rfl rfl) (Nat.zero_le _) ?_
  intro i hi _
  conv => whnf
  refine csplit (fun hlt => ?_) (fun hge => ?_)
  · have hlt : i < rows.length := by simpa using hlt
    have hd : rows[i]? = some rows[i] := by simp [hlt]
    generalize rows[i] = d at hd
    have hlen : i < (gone zDec i rows).length := by rw [upto_len]; exact hlt
    conv => whnf
    refine ⟨rfl, by omega, by omega, ?_⟩
    conv => whnf
    refine ⟨rfl, rfl, rfl, hlen, trivial, fun row hrow => ?_⟩
    obtain rfl := gone_get hd hrow
    have h3 := hr row (List.mem_of_getElem? hd)
    refine ⟨Nat.le_of_eq h3.symm, ?_⟩
    conv => whnf
    exact ⟨i + 1, [0], [], Sub.mk' rfl ⟨⟨rfl, rfl⟩, .inl rfl, .inl (ti_succ hlt hl), trivial⟩ ⟨⟨rfl, rfl, rfl, rfl, .inl (by rw [← gone_set hd]; congr 1; show [] ++ zDec ++ row.drop 3 = zDec; rw [List.drop_of_length_le (by omega), List.append_nil, List.nil_append])⟩, trivial⟩ rfl rfl, hlt, by omega⟩
  · have hge : rows.length ≤ i := by simpa using hge
    have : i = rows.length := by omega
    subst this
    conv => whnf
    refine ⟨fun _ => ?_, fun h => absurd rfl h⟩
    conv => whnf
    exact ⟨trivial, ⟨rfl, rfl, rfl, rfl, .inl rfl⟩, trivial⟩
theorem k52 : ∀ (m : Nat) (l : List Expr), SizeOf.sizeOf l < m → K 52 [.sl 0 (Expr.rows l).length] [.own 6 64 (Expr.rows l) []] (.ret (.tup [])) [some (.own 6 64 (gone zExp l.length (Expr.rows l)) [])] := by
  intro m
  induction m with
  | zero => intro l h; omega
  | succ m ih =>
  intro l hsz
  refine Ctr.of hT hmix Try.func52 rfl (fun _ _ => by kernel_rfl) rfl fun hok => ?_
  have hl := (hok.own 0 rfl).2
  rw [erows_len] at hl
  clear hok
  conv => whnf
  refine LoopL.by (fun i : Nat => ⟨[(0, .sl 0 (Expr.rows l).length), (4, .tr (ti (Expr.rows l).length)), (5, .tr (ti i))], [(0, .own 6 64 (gone zExp i (Expr.rows l)) [])], 1⟩)
    (fun i => i ≤ l.length) (fun i => l.length - i) 0 [0] [] (Sub.mk' rfl (by repeat' (first | exact trivial | exact Or.inl (ti_succ (by assumption) (by assumption)) | exact Or.inl rfl | exact rfl | exact Nat.le_refl _ | apply And.intro)) ⟨⟨rfl, rfl, rfl, rfl, .inl (by rw [gone, upto_zero])⟩, trivial⟩ rfl rfl) (Nat.zero_le _) ?_
  intro i hi _
  conv => whnf
  refine csplit (fun hlt => ?_) (fun hge => ?_)
  · have hlt : i < l.length := by rw [erows_len] at hlt; simpa using hlt
    have hd : l[i]? = some l[i] := by simp [hlt]
    generalize l[i] = d at hd
    have hs1 := size_kid hd
    have hlen : i < (gone zExp i (Expr.rows l)).length := by rw [upto_len, erows_len]; exact hlt
    have hrd : (Expr.rows l)[i]? = some d.cells := by rw [Expr.rows_eq, List.getElem?_map, hd]; rfl
    obtain ⟨k1, k2, k3, k4, k5, k6⟩ := d
    simp only [Expr.mk.sizeOf_spec] at hs1
    conv => whnf
    refine ⟨rfl, by omega, by rw [erows_len]; omega, ?_⟩
    conv => whnf
    refine ⟨rfl, hlen, fun row hrow => ?_⟩
    obtain rfl := gone_get hrd hrow
    clear hrow
    refine ⟨Nat.le_of_ble_eq_true rfl, fun t ht => ?_⟩
    obtain rfl := one_some (x := exprsT k5) ht
    clear ht
    refine ⟨by omega, ?_⟩
    conv => whnf
    refine acall.gen [8] [] _ _ _ _ (ih k5 (by omega)) rfl rfl rfl rfl (by repeat' (first | exact trivial | exact Or.inl (ti_succ (by assumption) (by assumption)) | exact Or.inl rfl | exact rfl | exact Nat.le_refl _ | apply And.intro)) ⟨⟨rfl, rfl, rfl, rfl, .inl rfl⟩, trivial⟩ rfl rfl fun _ => ?_
    conv => whnf
    refine ⟨rfl, by omega, by rw [erows_len]; omega, ?_⟩
    conv => whnf
    refine ⟨rfl, rfl, rfl, hlen, ⟨fun _ => rfl, trivial⟩, fun row hrow => ?_⟩
    obtain rfl := gone_get hrd hrow
    clear hrow
    refine ⟨Nat.le_of_ble_eq_true rfl, ?_⟩
    conv => whnf
    exact ⟨i + 1, [0], [], Sub.mk' rfl ⟨⟨rfl, rfl⟩, .inl rfl, .inl (ti_succ hlt hl), trivial⟩ ⟨⟨rfl, rfl, rfl, rfl, .inl (gone_set hrd)⟩, trivial⟩ rfl rfl, hlt, by omega⟩
  · have hge : l.length ≤ i := by rw [erows_len] at hge; simpa using hge
    have : i = l.length := by omega
    subst this
    conv => whnf
    refine ⟨fun _ => ?_, fun h => absurd rfl h⟩
    conv => whnf
    exact ⟨trivial, ⟨rfl, rfl, rfl, rfl, .inl rfl⟩, trivial⟩
theorem k26 : ∀ (m : Nat) (l : List Stmt), SizeOf.sizeOf l < m → K 26 [.sl 0 (Stmt.rows l).length] [.own 7 120 (Stmt.rows l) []] (.ret (.tup [])) [some (.own 7 120 (gone zStm l.length (Stmt.rows l)) [])] := by
  intro m
  induction m with
  | zero => intro l h; omega
  | succ m ih =>
  intro l hsz
  refine Ctr.of hT hmix Try.func26 rfl (fun _ _ => by kernel_rfl) rfl fun hok => ?_
  have hl := (hok.own 0 rfl).2
  rw [srows_len] at hl
  clear hok
  conv => whnf
  refine LoopL.by (fun i : Nat => ⟨[(0, .sl 0 (Stmt.rows l).length), (4, .tr (ti (Stmt.rows l).length)), (5, .tr (ti i))], [(0, .own 7 120 (gone zStm i (Stmt.rows l)) [])], 1⟩)
    (fun i => i ≤ l.length) (fun i => l.length - i) 0 [0] [] (Sub.mk' rfl (by repeat' (first | exact trivial | exact Or.inl (ti_succ (by assumption) (by assumption)) | exact Or.inl rfl | exact rfl | exact Nat.le_refl _ | apply And.intro)) ⟨⟨rfl, rfl, rfl, rfl, .inl (by rw [gone, upto_zero])⟩, trivial⟩ rfl rfl) (Nat.zero_le _) ?_
  intro i hi _
  conv => whnf
  refine csplit (fun hlt => ?_) (fun hge => ?_)
  · have hlt : i < l.length := by rw [srows_len] at hlt; simpa using hlt
    have hd : l[i]? = some l[i] := by simp [hlt]
    generalize l[i] = d at hd
    have hs1 := size_kid2 hd
    have hlen : i < (gone zStm i (Stmt.rows l)).length := by rw [upto_len, srows_len]; exact hlt
    have hrd : (Stmt.rows l)[i]? = some d.cells := by rw [Stmt.rows_eq, List.getElem?_map, hd]; rfl
    obtain ⟨k1, k2, k3, k4, k5, k6, k7⟩ := d
    simp only [Stmt.mk.sizeOf_spec] at hs1
    conv => whnf
    refine ⟨rfl, by omega, by rw [srows_len]; omega, ?_⟩
    conv => whnf
    refine ⟨rfl, hlen, fun row hrow => ?_⟩
    obtain rfl := gone_get hrd hrow
    clear hrow
    refine ⟨Nat.le_of_ble_eq_true rfl, fun t ht => ?_⟩
    obtain rfl := one_some (x := stmtsT k5) ht
    clear ht
    refine ⟨by omega, ?_⟩
    conv => whnf
    refine acall.gen [8] [] _ _ _ _ (ih k5 (by omega)) rfl rfl rfl rfl (by repeat' (first | exact trivial | exact Or.inl (ti_succ (by assumption) (by assumption)) | exact Or.inl rfl | exact rfl | exact Nat.le_refl _ | apply And.intro)) ⟨⟨rfl, rfl, rfl, rfl, .inl rfl⟩, trivial⟩ rfl rfl fun _ => ?_
    conv => whnf
    refine ⟨rfl, by omega, by rw [srows_len]; omega, ?_⟩
    conv => whnf
    refine ⟨rfl, hlen, fun row hrow => ?_⟩
    obtain rfl := gone_get hrd hrow
    clear hrow
    refine ⟨Nat.le_of_ble_eq_true rfl, fun t ht => ?_⟩
    obtain rfl := one_some (x := stmtsT k6) ht
    clear ht
    refine ⟨by omega, ?_⟩
    conv => whnf
    refine acall.gen [14] [] _ _ _ _ (ih k6 (by omega)) rfl rfl rfl rfl (by repeat' (first | exact trivial | exact Or.inl (ti_succ (by assumption) (by assumption)) | exact Or.inl rfl | exact rfl | exact Nat.le_refl _ | apply And.intro)) ⟨⟨rfl, rfl, rfl, rfl, .inl rfl⟩, trivial⟩ rfl rfl fun _ => ?_
    conv => whnf
    refine ⟨rfl, by omega, by rw [srows_len]; omega, ?_⟩
    conv => whnf
    refine ⟨rfl, hlen, fun row hrow => ?_⟩
    obtain rfl := gone_get hrd hrow
    clear hrow
    refine ⟨Nat.le_of_ble_eq_true rfl, fun t ht => ?_⟩
    obtain rfl := one_some (x := exprsT k4) ht
    clear ht
    refine ⟨by omega, ?_⟩
    conv => whnf
    refine acall.gen [20] [] _ _ _ _ (k52 (SizeOf.sizeOf k4 + 1) k4 (by omega)) rfl rfl rfl rfl (by repeat' (first | exact trivial | exact Or.inl (ti_succ (by assumption) (by assumption)) | exact Or.inl rfl | exact rfl | exact Nat.le_refl _ | apply And.intro)) ⟨⟨rfl, rfl, rfl, rfl, .inl rfl⟩, trivial⟩ rfl rfl fun _ => ?_
    conv => whnf
    refine ⟨rfl, by omega, by rw [srows_len]; omega, ?_⟩
    conv => whnf
    refine ⟨rfl, rfl, rfl, hlen, ⟨fun _ => rfl, fun _ => rfl, fun _ => rfl, trivial⟩, fun row hrow => ?_⟩
    obtain rfl := gone_get hrd hrow
    clear hrow
    refine ⟨Nat.le_of_ble_eq_true rfl, ?_⟩
    conv => whnf
    exact ⟨i + 1, [0], [], Sub.mk' rfl ⟨⟨rfl, rfl⟩, .inl rfl, .inl (ti_succ hlt hl), trivial⟩ ⟨⟨rfl, rfl, rfl, rfl, .inl (gone_set hrd)⟩, trivial⟩ rfl rfl, hlt, by omega⟩
  · have hge : l.length ≤ i := by rw [srows_len] at hge; simpa using hge
    have : i = l.length := by omega
    subst this
    conv => whnf
    refine ⟨fun _ => ?_, fun h => absurd rfl h⟩
    conv => whnf
    exact ⟨trivial, ⟨rfl, rfl, rfl, rfl, .inl rfl⟩, trivial⟩
end Go.Proofs.Ytbpcbhmdjphodaa.am

namespace Go.Proofs.Ytbpcbhmdjphodaa.am
open Go Go.Proofs
theorem decl_len {l : List Decl} : ∀ row ∈ l.map Decl.cells, row.length = 3 := fun row h => by
  obtain ⟨d, _, rfl⟩ := List.mem_map.1 h; rfl
abbrev ints1 (rows : List (List Tr)) : Prop := ∀ row ∈ rows, row.length = 1
theorem intR_one (l : List Int) : ints1 (intR l) := fun row h => by
  obtain ⟨d, _, rfl⟩ := List.mem_map.1 h; rfl
abbrev prgC (p : Prg) : Blk := .cells 25 [.tr (declsT p.shared), .tr (declsT p.locks), .tr (threadsT p.threads)]
theorem kOwn (p : Prg) (o n : ByteArray) : K 8 [p.av, .tr (ts o), .tr (ts n)] [] (.ret (.tr (tb true))) [] := by
  refine Ctr.cut [5, 6, 20] hT hmix Try.func8 rfl (fun _ _ => by kernel_rfl) rfl fun hok => ?_
  have hlp := ((hok.slot 0 rfl).agg _ (.tail _ (.tail _ (.head _)))).tr.lst.2.1
  rw [List.length_map] at hlp
  clear hok
  have hq3 : (renQ (checkW p).1 p o n).threads.length ≤ 9223372036854775807 := by
    unfold renQ
    cases (renE (checkW p).1 p o n == 0)
    · exact Nat.zero_le _
    · show (p.threads.map (Thread.ren o n)).length ≤ _; rw [List.length_map]; exact hlp
  conv => whnf
  refine acall.pure _ (k_lives) rfl rfl fun _ => ?_
  conv => whnf
  refine acall.pure _ (k9 p) rfl rfl fun _ => ?_
  conv => whnf
  refine CutL.by (fun _ : Unit => ⟨[(1, .tr (ts o)), (2, .tr (ts n)), (3, .ptr 0 0), (7, .ptr 1 0), (8, .ptr 2 0), (9, .tr (ti (renE (checkW p).1 p o n)))],
    [(0, prgC p), (1, prgC p), (2, .cells 25 [.sl 3 (renQ (checkW p).1 p o n).shared.length, .sl 4 (renQ (checkW p).1 p o n).locks.length, .sl 5 (renQ (checkW p).1 p o n).threads.length]),
      (3, .own 3 32 ((renQ (checkW p).1 p o n).shared.map Decl.cells) []), (4, .own 3 32 ((renQ (checkW p).1 p o n).locks.map Decl.cells) []), (5, .own 4 72 ((renQ (checkW p).1 p o n).threads.map Thread.cells) [])], 6⟩) (fun _ => True) ?_ ?_
  · conv => whnf
    by_cases he : renE (checkW p).1 p o n = 0
    · have hq : renQ (checkW p).1 p o n = p.ren o n := by unfold renQ; rw [he]; rfl
      rw [hq, he]
      refine acall.new [] [] _ _ _ _ (o23 p o n he) rfl rfl rfl rfl (by repeat' (first | exact trivial | exact Or.inl (ti_succ (by assumption) (by assumption)) | exact Or.inl rfl | exact rfl | exact Nat.le_refl _ | apply And.intro)) (by repeat' (first | exact trivial | exact Or.inl (ti_succ (by assumption) (by assumption)) | exact Or.inl rfl | exact rfl | exact Nat.le_refl _ | apply And.intro)) rfl rfl fun _ => ?_
      conv => whnf
      exact ⟨(), [0, 6, 15, 11, 1048587, 2097163], [], Sub.mk' rfl (by repeat' (first | exact trivial | exact Or.inl (ti_succ (by assumption) (by assumption)) | exact Or.inl rfl | exact rfl | exact Nat.le_refl _ | apply And.intro)) ⟨(by repeat' (first | exact trivial | exact Or.inl (ti_succ (by assumption) (by assumption)) | exact Or.inl rfl | exact rfl | exact Nat.le_refl _ | apply And.intro)), (by repeat' (first | exact trivial | exact Or.inl (ti_succ (by assumption) (by assumption)) | exact Or.inl rfl | exact rfl | exact Nat.le_refl _ | apply And.intro)), ⟨rfl, ⟨rfl, (List.length_map ..).symm⟩, ⟨rfl, (List.length_map ..).symm⟩, ⟨rfl, (List.length_map ..).symm⟩, trivial⟩, ⟨rfl, rfl, rfl, rfl, .inl rfl⟩, ⟨rfl, rfl, rfl, rfl, .inl rfl⟩, ⟨rfl, rfl, rfl, rfl, .inl rfl⟩, trivial⟩ rfl rfl, trivial⟩
    · have hq : renQ (checkW p).1 p o n = ⟨[], [], []⟩ := by unfold renQ; rw [show (renE (checkW p).1 p o n == 0) = false from by simpa using he]; rfl
      rw [hq]
      refine acall.pure _ (n23 p o n he) rfl rfl fun _ => ?_
      conv => whnf
      exact ⟨(), [0, 6, 15], [3, 4, 5], Sub.mk' rfl (by repeat' (first | exact trivial | exact Or.inl (ti_succ (by assumption) (by assumption)) | exact Or.inl rfl | exact rfl | exact Nat.le_refl _ | apply And.intro)) ⟨(by repeat' (first | exact trivial | exact Or.inl (ti_succ (by assumption) (by assumption)) | exact Or.inl rfl | exact rfl | exact Nat.le_refl _ | apply And.intro)), (by repeat' (first | exact trivial | exact Or.inl (ti_succ (by assumption) (by assumption)) | exact Or.inl rfl | exact rfl | exact Nat.le_refl _ | apply And.intro)), ⟨rfl, ⟨rfl, rfl, rfl, rfl⟩, ⟨rfl, rfl, rfl, rfl⟩, ⟨rfl, rfl, rfl, rfl⟩, trivial⟩, ⟨rfl, rfl, rfl, by omega⟩, ⟨rfl, rfl, rfl, by omega⟩, ⟨rfl, rfl, rfl, by omega⟩, trivial⟩ rfl rfl, trivial⟩
  rintro _ - -
  have h23 := k23 p o n
  have h24 := k24 p o n
  rw [← check_eq] at h24
  generalize renQ (checkW p).1 p o n = q at *
  generalize renE (checkW p).1 p o n = e at *
  conv => whnf
  refine CutL.by (fun _ : Unit => ⟨[(1, .tr (ts o)), (2, .tr (ts n)), (3, .ptr 0 0), (7, .ptr 1 0), (8, .ptr 2 0), (9, .tr (ti e)), (10, .sl 6 (touchW p 0).1.length)],
    [(0, prgC p), (1, prgC p), (2, .cells 25 [.sl 3 q.shared.length, .sl 4 q.locks.length, .sl 5 q.threads.length]),
      (3, .own 3 32 (q.shared.map Decl.cells) []), (4, .own 3 32 (q.locks.map Decl.cells) []), (5, .own 4 72 (q.threads.map Thread.cells) []), (6, .vec 3 1 8 (intR (touchW p 0).1))], 7⟩) (fun _ => True) ?_ ?_
  · conv => whnf
    cases hg : ((checkW p).1 != 0 || decide ((0 : Int) < 0) || decide ((0 : Int) ≥ p.threads.length)) with
    | false =>
      refine acall.new [] [] _ _ _ _ (o14 p 0 hg) rfl rfl rfl rfl (by repeat' (first | exact trivial | exact Or.inl (ti_succ (by assumption) (by assumption)) | exact Or.inl rfl | exact rfl | exact Nat.le_refl _ | apply And.intro)) (by repeat' (first | exact trivial | exact Or.inl (ti_succ (by assumption) (by assumption)) | exact Or.inl rfl | exact rfl | exact Nat.le_refl _ | apply And.intro)) rfl rfl fun _ => ?_
      conv => whnf
      exact ⟨(), [0, 1, 2, 3, 4, 5, 7], [], Sub.mk' rfl (by repeat' (first | exact trivial | exact Or.inl (ti_succ (by assumption) (by assumption)) | exact Or.inl rfl | exact rfl | exact Nat.le_refl _ | apply And.intro)) ⟨(by repeat' (first | exact trivial | exact Or.inl (ti_succ (by assumption) (by assumption)) | exact Or.inl rfl | exact rfl | exact Nat.le_refl _ | apply And.intro)), (by repeat' (first | exact trivial | exact Or.inl (ti_succ (by assumption) (by assumption)) | exact Or.inl rfl | exact rfl | exact Nat.le_refl _ | apply And.intro)), ⟨rfl, ⟨rfl, rfl⟩, ⟨rfl, rfl⟩, ⟨rfl, rfl⟩, trivial⟩, ⟨rfl, rfl, rfl, rfl, .inl rfl⟩, ⟨rfl, rfl, rfl, rfl, .inl rfl⟩, ⟨rfl, rfl, rfl, rfl, .inl rfl⟩, ⟨rfl, rfl, rfl, rfl⟩, trivial⟩ rfl rfl, trivial⟩
    | true =>
      have hT : touchW p 0 = ([], []) := by unfold touchW; rw [hg]; rfl
      rw [hT]
      refine acall.pure _ (n14 p 0 hg) rfl rfl fun _ => ?_
      conv => whnf
      exact ⟨(), [0, 1, 2, 3, 4, 5], [6], Sub.mk' rfl ⟨.inl rfl, .inl rfl, ⟨rfl, rfl⟩, ⟨rfl, rfl⟩, ⟨rfl, rfl⟩, .inl rfl, ⟨rfl, rfl, rfl, rfl⟩, trivial⟩ ⟨(by repeat' (first | exact trivial | exact Or.inl (ti_succ (by assumption) (by assumption)) | exact Or.inl rfl | exact rfl | exact Nat.le_refl _ | apply And.intro)), (by repeat' (first | exact trivial | exact Or.inl (ti_succ (by assumption) (by assumption)) | exact Or.inl rfl | exact rfl | exact Nat.le_refl _ | apply And.intro)), ⟨rfl, ⟨rfl, rfl⟩, ⟨rfl, rfl⟩, ⟨rfl, rfl⟩, trivial⟩, ⟨rfl, rfl, rfl, rfl, .inl rfl⟩, ⟨rfl, rfl, rfl, rfl, .inl rfl⟩, ⟨rfl, rfl, rfl, rfl, .inl rfl⟩, ⟨rfl, 3, 1, 8, rfl, by omega⟩, trivial⟩ rfl rfl, trivial⟩
  rintro _ - ho6
  have hl6 := (ho6.vec 6 rfl).2.1
  rw [intR_len] at hl6
  have hone := intR_one (touchW p 0).1
  have hil := intR_len (touchW p 0).1
  generalize (touchW p 0).1.length = m6 at *
  generalize intR (touchW p 0).1 = r6 at *
  clear ho6
  conv => whnf
  refine LoopL.by (fun x : Nat × List (List Tr) => ⟨[(1, .tr (ts o)), (2, .tr (ts n)), (3, .ptr 0 0), (7, .ptr 1 0), (8, .ptr 2 0), (9, .tr (ti e)), (10, .sl 6 m6), (35, .tr (ti m6)), (36, .tr (ti x.1))],
    [(0, prgC p), (1, prgC p), (2, .cells 25 [.sl 3 q.shared.length, .sl 4 q.locks.length, .sl 5 q.threads.length]),
      (3, .own 3 32 (q.shared.map Decl.cells) []), (4, .own 3 32 (q.locks.map Decl.cells) []), (5, .own 4 72 (q.threads.map Thread.cells) []), (6, .vec 3 1 8 x.2)], 7⟩)
    (fun x => x.1 ≤ m6 ∧ x.2.length = m6 ∧ ints1 x.2) (fun x => m6 - x.1) (0, r6) [0, 1, 2, 3, 4, 5, 6] [] (Sub.mk' rfl (by repeat' (first | exact trivial | exact Or.inl (ti_succ (by assumption) (by assumption)) | exact Or.inl rfl | exact rfl | exact Nat.le_refl _ | apply And.intro)) ⟨(by repeat' (first | exact trivial | exact Or.inl (ti_succ (by assumption) (by assumption)) | exact Or.inl rfl | exact rfl | exact Nat.le_refl _ | apply And.intro)), (by repeat' (first | exact trivial | exact Or.inl (ti_succ (by assumption) (by assumption)) | exact Or.inl rfl | exact rfl | exact Nat.le_refl _ | apply And.intro)), ⟨rfl, ⟨rfl, rfl⟩, ⟨rfl, rfl⟩, ⟨rfl, rfl⟩, trivial⟩, ⟨rfl, rfl, rfl, rfl, .inl rfl⟩, ⟨rfl, rfl, rfl, rfl, .inl rfl⟩, ⟨rfl, rfl, rfl, rfl, .inl rfl⟩, ⟨rfl, rfl, rfl, rfl⟩, trivial⟩ rfl rfl) ⟨Nat.zero_le _, hil, hone⟩ ?_
  rintro ⟨i, rows⟩ ⟨hi, hlen, h1⟩ -
  have hi : i ≤ m6 := hi
  have hlen : rows.length = m6 := hlen
  have h1 : ints1 rows := h1
  conv => whnf
  refine csplit (fun hlt => ?_) (fun hge => ?_)
  · have hlt : i < m6 := by simpa using hlt
    conv => whnf
    refine ⟨rfl, by omega, by omega, ?_⟩
    conv => whnf
    refine ⟨rfl, rfl, by show i < rows.length; omega, fun row hrow => ?_⟩
    have hr1 := h1 row (List.mem_of_getElem? hrow)
    refine ⟨Nat.le_of_eq hr1.symm, ?_⟩
    conv => whnf
    refine ⟨(i + 1, rows.set i [ti 99]), [0, 1, 2, 3, 4, 5, 6], [], Sub.mk' rfl ⟨.inl rfl, .inl rfl, ⟨rfl, rfl⟩, ⟨rfl, rfl⟩, ⟨rfl, rfl⟩, .inl rfl, ⟨rfl, rfl⟩, .inl rfl, .inl (ti_succ hlt hl6), trivial⟩ ⟨(by repeat' (first | exact trivial | exact Or.inl (ti_succ (by assumption) (by assumption)) | exact Or.inl rfl | exact rfl | exact Nat.le_refl _ | apply And.intro)), (by repeat' (first | exact trivial | exact Or.inl (ti_succ (by assumption) (by assumption)) | exact Or.inl rfl | exact rfl | exact Nat.le_refl _ | apply And.intro)), ⟨rfl, ⟨rfl, rfl⟩, ⟨rfl, rfl⟩, ⟨rfl, rfl⟩, trivial⟩, ⟨rfl, rfl, rfl, rfl, .inl rfl⟩, ⟨rfl, rfl, rfl, rfl, .inl rfl⟩, ⟨rfl, rfl, rfl, rfl, .inl rfl⟩, ⟨rfl, rfl, rfl, ?_⟩, trivial⟩ rfl rfl, ⟨hlt, by show (rows.set i _).length = m6; rw [List.length_set]; exact hlen, fun r hr => ?_⟩, by show m6 - (i + 1) < m6 - i; omega⟩
    · show rows.set i ([] ++ [ti 99] ++ row.drop 1) = _
      rw [List.drop_of_length_le (by omega)]; rfl
    · rcases List.mem_or_eq_of_mem_set hr with hr | rfl
      · exact h1 r hr
      · rfl
  conv => whnf
  refine ⟨fun _ => ?_, fun h => absurd rfl h⟩
  conv => whnf
  refine acall.gen [3] [] _ _ _ _ (k25 (q.shared.map Decl.cells) decl_len) rfl rfl rfl rfl ⟨⟨rfl, (List.length_map ..).symm⟩, trivial⟩ ⟨⟨rfl, rfl, rfl, rfl, .inl rfl⟩, trivial⟩ rfl rfl fun _ => ?_
  conv => whnf
  refine acall.gen [4] [] _ _ _ _ (k25 (q.locks.map Decl.cells) decl_len) rfl rfl rfl rfl ⟨⟨rfl, (List.length_map ..).symm⟩, trivial⟩ ⟨⟨rfl, rfl, rfl, rfl, .inl rfl⟩, trivial⟩ rfl rfl fun _ => ?_
  conv => whnf
  refine CutL.by (fun _ : Unit => ⟨[(1, .tr (ts o)), (2, .tr (ts n)), (3, .ptr 0 0), (7, .ptr 1 0), (9, .tr (ti e))], [(0, prgC p), (1, prgC p)], 2⟩) (fun _ => True) ?_ ?_
  · conv => whnf
    refine LoopL.by (fun i : Nat => ⟨[(1, .tr (ts o)), (2, .tr (ts n)), (3, .ptr 0 0), (7, .ptr 1 0), (8, .ptr 2 0), (9, .tr (ti e)), (51, .tr (ti q.threads.length)), (52, .tr (ti i))],
      [(0, prgC p), (1, prgC p), (2, .cells 25 [.sl 3 q.shared.length, .sl 4 q.locks.length, .sl 5 q.threads.length]),
        (3, .own 3 32 (gone zDec (q.shared.map Decl.cells).length (q.shared.map Decl.cells)) []), (4, .own 3 32 (gone zDec (q.locks.map Decl.cells).length (q.locks.map Decl.cells)) []), (5, .own 4 72 (gone zThr i (q.threads.map Thread.cells)) [])], 6⟩)
      (fun i => i ≤ q.threads.length) (fun i => q.threads.length - i) 0 [0, 1, 2, 3, 4, 5] [] (Sub.mk' rfl (by repeat' (first | exact trivial | exact Or.inl (ti_succ (by assumption) (by assumption)) | exact Or.inl rfl | exact rfl | exact Nat.le_refl _ | apply And.intro)) ⟨(by repeat' (first | exact trivial | exact Or.inl (ti_succ (by assumption) (by assumption)) | exact Or.inl rfl | exact rfl | exact Nat.le_refl _ | apply And.intro)), (by repeat' (first | exact trivial | exact Or.inl (ti_succ (by assumption) (by assumption)) | exact Or.inl rfl | exact rfl | exact Nat.le_refl _ | apply And.intro)), ⟨rfl, ⟨rfl, rfl⟩, ⟨rfl, rfl⟩, ⟨rfl, rfl⟩, trivial⟩, ⟨rfl, rfl, rfl, rfl, .inl rfl⟩, ⟨rfl, rfl, rfl, rfl, .inl rfl⟩, ⟨rfl, rfl, rfl, rfl, .inl (by rw [gone, upto_zero])⟩, trivial⟩ rfl rfl) (Nat.zero_le _) ?_
    intro j hj _
    conv => whnf
    refine csplit (fun hlt => ?_) (fun hge => ?_)
    · have hlt : j < q.threads.length := by simpa using hlt
      have hd : q.threads[j]? = some q.threads[j] := by simp [hlt]
      generalize q.threads[j] = d at hd
      have hrd : (q.threads.map Thread.cells)[j]? = some d.cells := by rw [List.getElem?_map, hd]; rfl
      have hlen : j < (gone zThr j (q.threads.map Thread.cells)).length := by rw [upto_len, List.length_map]; exact hlt
      obtain ⟨name, ls, body, at_⟩ := d
      conv => whnf
      refine ⟨rfl, by omega, by omega, ?_⟩
      conv => whnf
      refine ⟨rfl, hlen, fun row hrow => ?_⟩
      obtain rfl := gone_get hrd hrow
      clear hrow
      refine ⟨Nat.le_of_ble_eq_true rfl, fun t ht => ?_⟩
      obtain rfl := one_some (x := declsT ls) ht
      clear ht
      refine ⟨by omega, ?_⟩
      conv => whnf
      refine acall.gen [14] [] _ _ _ _ (k25 (ls.map Decl.cells) decl_len) rfl rfl rfl rfl (by repeat' (first | exact trivial | exact Or.inl (ti_succ (by assumption) (by assumption)) | exact Or.inl rfl | exact rfl | exact Nat.le_refl _ | apply And.intro)) ⟨⟨rfl, rfl, rfl, rfl, .inl rfl⟩, trivial⟩ rfl rfl fun _ => ?_
      conv => whnf
      refine ⟨rfl, by omega, by omega, ?_⟩
      conv => whnf
      refine ⟨rfl, hlen, fun row hrow => ?_⟩
      obtain rfl := gone_get hrd hrow
      clear hrow
      refine ⟨Nat.le_of_ble_eq_true rfl, fun t ht => ?_⟩
      obtain rfl := one_some (x := stmtsT body) ht
      clear ht
      refine ⟨by omega, ?_⟩
      conv => whnf
      refine acall.gen [21] [] _ _ _ _ (k26 (SizeOf.sizeOf body + 1) body (by omega)) rfl rfl rfl rfl (by repeat' (first | exact trivial | exact Or.inl (ti_succ (by assumption) (by assumption)) | exact Or.inl rfl | exact rfl | exact Nat.le_refl _ | apply And.intro)) ⟨⟨rfl, rfl, rfl, rfl, .inl rfl⟩, trivial⟩ rfl rfl fun _ => ?_
      conv => whnf
      refine ⟨rfl, by omega, by omega, ?_⟩
      conv => whnf
      refine ⟨rfl, rfl, rfl, hlen, ⟨fun _ => rfl, fun _ => rfl, trivial⟩, fun row hrow => ?_⟩
      obtain rfl := gone_get hrd hrow
      clear hrow
      refine ⟨Nat.le_of_ble_eq_true rfl, ?_⟩
      conv => whnf
      exact ⟨j + 1, [0, 1, 2, 3, 4, 5], [], Sub.mk' rfl ⟨.inl rfl, .inl rfl, ⟨rfl, rfl⟩, ⟨rfl, rfl⟩, ⟨rfl, rfl⟩, .inl rfl, .inl rfl, .inl (ti_succ hlt hq3), trivial⟩ ⟨(by repeat' (first | exact trivial | exact Or.inl (ti_succ (by assumption) (by assumption)) | exact Or.inl rfl | exact rfl | exact Nat.le_refl _ | apply And.intro)), (by repeat' (first | exact trivial | exact Or.inl (ti_succ (by assumption) (by assumption)) | exact Or.inl rfl | exact rfl | exact Nat.le_refl _ | apply And.intro)), ⟨rfl, ⟨rfl, rfl⟩, ⟨rfl, rfl⟩, ⟨rfl, rfl⟩, trivial⟩, ⟨rfl, rfl, rfl, rfl, .inl rfl⟩, ⟨rfl, rfl, rfl, rfl, .inl rfl⟩, ⟨rfl, rfl, rfl, rfl, .inl (gone_set hrd)⟩, trivial⟩ rfl rfl, hlt, by omega⟩
    conv => whnf
    refine ⟨fun _ => ?_, fun h => absurd rfl h⟩
    conv => whnf
    exact ⟨(), [0, 1], [], Sub.mk' rfl (by repeat' (first | exact trivial | exact Or.inl (ti_succ (by assumption) (by assumption)) | exact Or.inl rfl | exact rfl | exact Nat.le_refl _ | apply And.intro)) (by repeat' (first | exact trivial | exact Or.inl (ti_succ (by assumption) (by assumption)) | exact Or.inl rfl | exact rfl | exact Nat.le_refl _ | apply And.intro)) rfl rfl, trivial⟩
  rintro _ - -
  have e1 : (e == e) = true := beq_self_eq_true _
  conv => whnf
  refine acall.pure _ (h23) rfl rfl fun _ => ?_
  conv => whnf
  refine acall.pure _ (h24) rfl rfl fun _ => ?_
  conv => whnf
  refine acall.pure _ (k13 p) rfl rfl fun _ => ?_
  conv => whnf
  (repeat' (first
      | (refine csplit (fun h => ?_) (fun h => absurd h (by simp)); conv => whnf)
      | (refine acall.pure _ (k13 q) rfl rfl fun _ => ?_; conv => whnf)))
  exact ⟨Or.inl rfl, trivial⟩
end Go.Proofs.Ytbpcbhmdjphodaa.am

namespace Go.Proofs.Ytbpcbhmdjphodaa.rCheckOwn
open Go Go.RowKit Go.ChangeShapes Go.WideShapes Go.ChangeAt Go.WideMaps Go.WideElems
open Go.ChangeMaps (open_string shut_string)
open Go.Proofs.Ytbpcbhmdjphodaa.am

theorem own : ownKnob Try.prog.godebug = none := by kernel_rfl
theorem laidOut : laidOutB Try.prog = true := by kernel_rfl
set_option maxRecDepth 100000 in
theorem contract (H : Type) (enc : TypeId × Value → H) (W : World) (args : Array Value) (ds gs : List (DataW H)) (before : List MemPlace)
    (hval : ∀ (j : Nat) t v, Try.f8.params[j]? = some t → args[j]? = some v → ∃ base, Value.okWide Try.prog W .any base t v)
    (hW : DataW.Whole enc Try.prog Try.f8.params.toList Rows.checkOwnSpec.vars false W args.toList ds gs before)
    (hwt : (DataW.weightsEach Try.prog (Try.f8.params.toList ++ (OpenSpec.ofChange Rows.checkOwnSpec).bare.plain.varTypes Try.prog) (ds ++ gs)).all (· ≤ reachBytes) = true) :
    Calls Try.prog 8 args W fun e W' => ∃ v, e = .returned v ∧ Rows.checkOwnSpec.post enc Try.prog Try.f8 false true false false W args v W' := by
  have hW' := hW
  obtain ⟨p, q, hA0, hV, rfl, hfz, hnd⟩ := hW
  have hA : DataW.TrodAll enc Try.prog W 0 (fun _ => true) true Try.f8.params.toList args.toList ds p := hA0
  rw [Try.params8] at hA hval
  obtain ⟨v0, vs0, d0, ds0, p0, q0, hargs, rfl, rfl, h0, r0⟩ := trodAll_cons hA
  obtain ⟨v1, vs1, d1, ds1, p1, q1, rfl, rfl, rfl, h1, r1⟩ := trodAll_cons r0
  obtain ⟨v2, vs2, d2, ds2, p2, q2, rfl, rfl, rfl, h2, r2⟩ := trodAll_cons r1
  obtain ⟨rfl, rfl, rfl⟩ := trodAll_nil r2
  obtain rfl : args = #[v0, v1, v2] := by cases args; simp_all
  obtain ⟨rfl, rfl⟩ := trodVars_none hV
  clear hA0 hA
  simp only [List.append_nil] at hW'
  have hlt : ∀ x ∈ (p0 ++ (p1 ++ (p2))), x.block < W.heap.size := fun x hx => hW'.lt x (by simpa using hx)
  have hwt : (DataW.weightsEach Try.prog [25, 9, 9] [d0, d1, d2]).all (· ≤ reachBytes) = true := hwt
  simp only [DataW.weightsEach, List.all_append, List.all_nil, Bool.and_true, Bool.and_eq_true] at hwt
  obtain ⟨cs0, rfl⟩ : ∃ cs, v0 = .agg cs := by
    obtain ⟨base, hv⟩ := hval 0 25 v0 rfl rfl
    unfold Value.okWide at hv
    rw [Try.underlying25] at hv
    obtain ⟨cs, rfl, _⟩ := hv
    exact ⟨cs, rfl⟩
  obtain ⟨x0, hx0⟩ := open_prg (.inr ⟨cs0, rfl⟩) h0 hwt.1 (fun x hx => hlt x (by simp [hx]))
  obtain ⟨x1, rfl, rfl, rfl, wx1⟩ := open_string Try.underlying9 ((hval 1 9 v1 rfl rfl).choose_spec) h1
  obtain ⟨x2, rfl, rfl, rfl, wx2⟩ := open_string Try.underlying9 ((hval 2 9 v2 rfl rfl).choose_spec) h2
  refine (K.calls (kOwn x0 x1 x2) W #[.agg cs0, .string x1, .string x2] rfl ?_).mono fun e W' he => ?_
  · intro i v a e1 e2
    have e1 := arr_get e1
    match i, e2 with
    | 0, e2 => cases e2; cases e1; exact hx0
    | 1, e2 => cases e2; cases e1; exact .tr (.v (by unfold maxLen at wx1; exact wx1))
    | 2, e2 => cases e2; cases e1; exact .tr (.v (by unfold maxLen at wx2; exact wx2))
  obtain ⟨hb, v, rfl, g', hR⟩ := he
  obtain ⟨rfl, _⟩ := val_inv hR
  exact ⟨_, rfl, _, _, _, [], _, [], hW', trodAll_cons_mk (shut_bool Try.underlying4 _) trodAll_mk0, (trodAll_cons_mk (Below.trod laidOut (by kernel_rfl) (of_decide_eq_true (by kernel_rfl)) h0 hb (fun x hx => hlt x (by simp [hx]))) (trodAll_cons_mk (shut_string Try.underlying9 wx1) (trodAll_cons_mk (shut_string Try.underlying9 wx2) trodAll_mk0))), rfl, hb.frame _, fun h => by cases h⟩

theorem reads (os : Os) {H : Type} (enc : TypeId × Value → H) : ∃ places, DataW.whole enc Try.prog ((World.holding Try.prog os ⟨#[], #[], []⟩).forCall (fun _ _ => 0) ⟨#[], #[.agg #[.slice none 0 0, .slice none 0 0, .slice none 0 0], .string ⟨#[]⟩, .string ⟨#[]⟩], []⟩).memory Try.f8.params.toList Rows.checkOwnSpec.vars false (#[.agg #[.slice none 0 0, .slice none 0 0, .slice none 0 0], .string ⟨#[]⟩, .string ⟨#[]⟩] : Array Value).toList 8 = some ([.agg [.nil, .nil, .nil], .lit (.string []), .lit (.string [])], [], places) :=
  ⟨[], by kernel_rfl⟩

set_option maxRecDepth 100000 in
theorem lifted (os : Os) (started : os.Started) (H : Type) (enc : TypeId × Value → H) (F : Stop.Interp) :
    ReturnsInHanded {} Try.checked os 8 .any ((OpenSpec.ofChange Rows.checkOwnSpec).preRow enc Try.prog Try.f8 Rows.checkOwnRow.domain false Rows.checkOwnRow.laid) (((OpenSpec.ofChange Rows.checkOwnSpec).at F).post enc Try.prog Try.f8 false true false false) := by
  obtain ⟨places, hx⟩ := reads os enc
  refine returnsInHanded_of_row (C := Try.checked) (s := OpenSpec.ofChange Rows.checkOwnSpec) own started (by kernel_rfl) Try.func8
    (witness_row_at (enc := enc) (C := Try.checked) false (World.holding Try.prog os ⟨#[], #[], []⟩) #[.agg #[.slice none 0 0, .slice none 0 0, .slice none 0 0], .string ⟨#[]⟩, .string ⟨#[]⟩] rfl (by kernel_rfl) (by kernel_rfl) (by kernel_rfl)
      (OpenSpec.preRow_of_cond 8 hx (by kernel_rfl) (fun k hk => by cases hk) (by kernel_rfl) (laidMet_nil _ _))) ?_
  intro W base args ds gs before hval hW _ _ hwt _ _ _
  exact contract H enc W args ds gs before (fun j t v h1 h2 => ⟨base, hval j t v h1 h2⟩) hW hwt

theorem said : Rows.CheckOwnSaid :=
  OpenClaim.holds_of_cond 8 Try.f8 rfl rfl rfl rfl rfl rfl rfl ⟨rfl, rfl, rfl, rfl, rfl⟩ rfl rfl rfl rfl rfl (by kernel_rfl) Try.func8 (by kernel_rfl)
    (of_decide_eq_true (by kernel_rfl)) (by unfold Func.isWrapper; first | (rw [if_pos (by decide +kernel)]; kernel_rfl) | (rw [if_neg (by decide +kernel)]; exact ⟨rfl, rfl⟩))
    (fun os started H enc _ F => by rw [OpenClaim.pre_eq_preRow]; exact lifted os started H enc F)
end Go.Proofs.Ytbpcbhmdjphodaa.rCheckOwn

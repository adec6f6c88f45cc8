/- Plain: what the reference's reader computes: declarations, threads, programs. Contracts: the reference's reader: declarations. Contracts: the reference's reader: threads, programs. Contracts: the reference's reader: programs. Plain: what the reference's scanner computes. Contracts: the reference's scanner. Plain: what the reference's scanner computes: tokens. Contracts: the reference's scanner: a token. Contracts: the reference's scanner and reader: whole texts. -/
import Derived.Test.YtbpcbhmdjphodaaGreatY5
import Derived.Test.YtbpcbhmdjphodaaGreatY4
set_option linter.all false

namespace Go.Proofs.YtbpcbhmdjphodaaGreat.am
open Go
abbrev wComma : ByteArray := ⟨#[44]⟩
abbrev wSemi : ByteArray := ⟨#[59]⟩
abbrev wShared : ByteArray := ⟨#[115, 104, 97, 114, 101, 100]⟩
abbrev wThread : ByteArray := ⟨#[116, 104, 114, 101, 97, 100]⟩
abbrev wLocal : ByteArray := ⟨#[108, 111, 99, 97, 108]⟩
def listL (it : Rd → Decl × Rd) : Nat → Rd → List Decl × Rd
  | 0, r => ([], r)
  | f + 1, r => bif r.ok then (bif (it r).2.takes wComma then ((it r).1 :: (listL it f (it r).2.step).1, (listL it f (it r).2.step).2) else ([(it r).1], (it r).2)) else ([], r)
def itN (r : Rd) : Decl × Rd := (⟨r.nameS, 0, r.nameA⟩, r.name)
def Rd.num (r : Rd) : Rd := bif r.here.kind != 3 then r.fail 2 else bif r.ok then r.step else r
def Rd.val (r : Rd) : Int × Rd :=
  bif r.takes ⟨#[61]⟩ then (bif r.step.takes ⟨#[45]⟩ then (IntKind.i64.wrap (0 - r.step.step.here.word), r.step.step.num) else (r.step.here.word, r.step.num)) else (0, r)
def itS (r : Rd) : Decl × Rd := (⟨r.nameS, r.name.val.1, r.nameA⟩, r.name.val.2)
def listG (it : Rd → Decl × Rd) (r : Rd) : List Decl × Rd := ((listL it (r.l.length + 1) r).1, (listL it (r.l.length + 1) r).2.want wSemi)
theorem num_goes (r : Rd) : Goes r r.num := by
  unfold Rd.num
  cases h : (r.here.kind != 3) with
  | true => exact fail_goes r 2
  | false =>
    have hk : r.here.kind ≠ 0 := by rw [show r.here.kind = 3 by simpa using h]; decide
    rw [cond_false]
    cases ho : r.ok with
    | true => exact step_goes ho (here_lt hk)
    | false => exact .refl r
theorem val_goes (r : Rd) : Goes r r.val.2 := by
  unfold Rd.val
  cases h : r.takes ⟨#[61]⟩ with
  | false => exact .refl r
  | true =>
    rw [cond_true]
    have g := step_goes (takes_ok h) (takes_lt h)
    cases h2 : r.step.takes ⟨#[45]⟩ with
    | true => exact (g.trans (step_goes (takes_ok h2) (takes_lt h2))).trans (num_goes _)
    | false => exact g.trans (num_goes _)
theorem itN_goes (r : Rd) : Goes r (itN r).2 := name_goes r
theorem itS_goes (r : Rd) : Goes r (itS r).2 := (name_goes r).trans (val_goes _)
theorem listL_goes {it : Rd → Decl × Rd} (h : ∀ r, Goes r (it r).2) : ∀ (f : Nat) (r : Rd), Goes r (listL it f r).2
  | 0, r => .refl r
  | f + 1, r => by
    unfold listL
    cases r.ok with
    | false => exact .refl r
    | true =>
      rw [cond_true]
      cases h2 : (it r).2.takes wComma with
      | true => exact ((h r).trans (step_goes (takes_ok h2) (takes_lt h2))).trans (listL_goes h f _)
      | false => exact h r
theorem listL_len {it : Rd → Decl × Rd} : ∀ (f : Nat) (r : Rd), (listL it f r).1.length ≤ f
  | 0, r => Nat.le_refl _
  | f + 1, r => by
    unfold listL
    cases r.ok with
    | false => exact Nat.zero_le _
    | true =>
      rw [cond_true]
      cases (it r).2.takes wComma with
      | true => exact Nat.succ_le_succ (listL_len f _)
      | false => exact Nat.succ_le_succ (Nat.zero_le _)
theorem listG_goes {it : Rd → Decl × Rd} (h : ∀ r, Goes r (it r).2) (r : Rd) : Goes r (listG it r).2 := (listL_goes h _ r).trans (want_goes _ _)
def localsL : Nat → List Decl → Rd → List Decl × Rd
  | 0, ls, r => (ls, r)
  | f + 1, ls, r => bif r.takes wLocal then localsL f (ls ++ (listG itN r.step).1) (listG itN r.step).2 else (ls, r)
theorem localsL_goes : ∀ (f : Nat) (ls : List Decl) (r : Rd), Goes r (localsL f ls r).2
  | 0, ls, r => .refl r
  | f + 1, ls, r => by
    unfold localsL
    cases h : r.takes wLocal with
    | true => exact ((step_goes (takes_ok h) (takes_lt h)).trans (listG_goes itN_goes _)).trans (localsL_goes f _ _)
    | false => exact .refl r
def Rd.th0 (r : Rd) : Rd := (r.want wThread).name.want ⟨#[123]⟩
def Rd.thL (r : Rd) : List Decl × Rd := localsL (r.th0.l.length + 1) [] r.th0
def Rd.thB (r : Rd) : List Stmt × Rd := ssG (2 * r.thL.2.l.length + 2) r.thL.2 1
def Rd.thread (r : Rd) : Thread × Rd := (⟨(r.want wThread).nameS, r.thL.1, r.thB.1, (r.want wThread).nameA⟩, r.thB.2)
theorem th0_goes (r : Rd) : Goes (r.want wThread) r.th0 := (name_goes _).trans (want_goes _ _)
theorem thL_goes (r : Rd) : Goes (r.want wThread) r.thL.2 := (th0_goes r).trans (localsL_goes _ _ _)
theorem thread_goes (r : Rd) : Goes (r.want wThread) r.thread.2 := (thL_goes r).trans ((st_goes _).2 _ _)
theorem thread_eats (r : Rd) : Eats r r.thread.2 := by
  have g := thread_goes r
  refine ⟨(want_goes r _).trans g, fun hk => ?_⟩
  cases h : r.takes wThread with
  | true =>
    rw [show r.want wThread = r.step by unfold Rd.want; rw [h]; rfl] at g
    exact g.i
  | false =>
    have hw : r.want wThread = r.fail 2 := by unfold Rd.want; rw [h]; rfl
    rw [hw] at g
    have hb : (r.fail 2).ok = false := by
      unfold Rd.fail
      cases ho : r.ok with
      | true => rfl
      | false => exact ho
    rw [g.bad hb, hb] at hk
    cases hk
def threadsL : Nat → List Thread → Rd → List Thread × Rd
  | 0, l, r => (l, r)
  | f + 1, l, r => bif r.ok && decide (r.i < r.l.length) then threadsL f (l ++ [r.thread.1]) r.thread.2 else (l, r)
theorem threadsL_goes : ∀ (f : Nat) (l : List Thread) (r : Rd), Goes r (threadsL f l r).2
  | 0, l, r => .refl r
  | f + 1, l, r => by
    unfold threadsL
    cases (r.ok && decide (r.i < r.l.length)) with
    | true => exact (thread_eats r).1.trans (threadsL_goes f _ _)
    | false => exact .refl r
def programL : Nat → List Decl → List Decl → Rd → Prg × Rd
  | 0, sh, lo, r => (⟨sh, lo, []⟩, r)
  | f + 1, sh, lo, r => bif r.ok then (bif r.takes wShared then programL f (sh ++ (listG itS r.step).1) lo (listG itS r.step).2
      else bif r.takes wLock then programL f sh (lo ++ (listG itN r.step).1) (listG itN r.step).2
      else (⟨sh, lo, (threadsL (r.l.length + 1) [] r).1⟩, (threadsL (r.l.length + 1) [] r).2)) else (⟨sh, lo, []⟩, r)
end Go.Proofs.YtbpcbhmdjphodaaGreat.am

namespace Go.Proofs.YtbpcbhmdjphodaaGreat.am
open Go Go.Proofs
theorem drows_app (out : List Decl) (d : Decl) : (out.map Decl.cells).take out.length ++ [d.cells] = (out ++ [d]).map Decl.cells := by
  rw [List.take_of_length_le (Nat.le_of_eq (List.length_map ..)), List.map_append]; rfl
theorem rNames (r : Rd) (hL : r.l.length ≤ 65536) (hi : r.i ≤ r.l.length) : K 20 [.ptr 0 0] [rdB r] (.ret (.tr (declsT (listG itN r).1))) [some (rdB (listG itN r).2)] := by
  refine Ctr.of hT hmix Tryz.func20 rfl (fun _ _ => by kernel_rfl) rfl fun hok => ?_
  clear hok
  have hE0 : listL itN (r.l.length + 1) r = listL itN (r.l.length + 1) r := rfl
  unfold listG
  generalize hG : listL itN (r.l.length + 1) r = G at hE0
  obtain ⟨gd, gr⟩ := G
  conv => whnf
  refine LoopL.by (fun x : Nat × List Decl × Rd => ⟨[(0, .ptr 0 0), (3, .sl 1 x.2.1.length)], [(0, rdB x.2.2), (1, .vec 64 3 32 (x.2.1.map Decl.cells))], 2⟩)
    (fun x => r.l.length + 1 ≤ x.1 + x.2.2.i ∧ x.2.1.length ≤ x.2.2.i ∧ x.2.2.l = r.l ∧ x.2.2.i ≤ r.l.length ∧ (gd, gr) = (x.2.1 ++ (listL itN x.1 x.2.2).1, (listL itN x.1 x.2.2).2)) (fun x => x.1)
    (r.l.length + 1, [], r) [0] [1] (Sub.mk' rfl ⟨⟨rfl, rfl⟩, ⟨rfl, rfl, rfl, rfl⟩, trivial⟩ ⟨(by repeat' (first | exact trivial | exact Or.inl (ti_succ (by assumption) (by assumption)) | exact Or.inl rfl | exact rfl | exact Nat.le_refl _ | apply And.intro)), ⟨rfl, 64, 3, 32, rfl, by omega⟩, trivial⟩ rfl rfl) ⟨by show r.l.length + 1 ≤ r.l.length + 1 + r.i; omega, Nat.zero_le _, rfl, hi, by rw [← hE0, hG]; rfl⟩ ?_
  rintro ⟨f, out, r2⟩ ⟨i1, i6, i2, i4, i5⟩ -
  have i1 : r.l.length + 1 ≤ f + r2.i := i1
  have i6 : out.length ≤ r2.i := i6
  have i2 : r2.l = r.l := i2
  have i4 : r2.i ≤ r.l.length := i4
  obtain ⟨f, rfl⟩ : ∃ g, f = g + 1 := ⟨f - 1, by omega⟩
  have hE : listL itN (f + 1) r2 = bif r2.ok then (bif (itN r2).2.takes wComma then ((itN r2).1 :: (listL itN f (itN r2).2.step).1, (listL itN f (itN r2).2.step).2) else ([(itN r2).1], (itN r2).2)) else ([], r2) := rfl
  have i5 : (gd, gr) = (out ++ (listL itN (f + 1) r2).1, (listL itN (f + 1) r2).2) := i5
  rw [hE] at i5
  have hol : (out.map Decl.cells).length = out.length := List.length_map ..
  have gi := itN_goes r2
  have g1 : (itN r2).2.l = r2.l := gi.l
  have g2 : r2.i ≤ (itN r2).2.i := gi.i
  have g3 : (itN r2).2.i ≤ r2.l.length := gi.n (by rw [i2]; exact i4)
  rw [i2] at g1 g3
  conv => whnf
  refine acall.gen [0] [] _ _ _ _ (rOk r2) rfl rfl rfl rfl (by repeat' (first | exact trivial | exact Or.inl (ti_succ (by assumption) (by assumption)) | exact Or.inl rfl | exact rfl | exact Nat.le_refl _ | apply And.intro)) (by repeat' (first | exact trivial | exact Or.inl (ti_succ (by assumption) (by assumption)) | exact Or.inl rfl | exact rfl | exact Nat.le_refl _ | apply And.intro)) rfl rfl fun _ => ?_
  conv => whnf
  cases h1 : r2.ok with
  | false =>
    rw [h1] at i5
    obtain ⟨rfl, rfl⟩ : gd = out ∧ gr = r2 := by
      have := i5.trans (show (out ++ ([] : List Decl), r2) = (out, r2) by rw [List.append_nil])
      exact ⟨congrArg Prod.fst this, congrArg Prod.snd this⟩
    conv => whnf
    refine ⟨fun _ => ?_, fun h => absurd rfl h⟩
    conv => whnf
    refine acall.gen [0] [] _ _ _ _ (rWant gr wSemi) rfl rfl rfl rfl (by repeat' (first | exact trivial | exact Or.inl (ti_succ (by assumption) (by assumption)) | exact Or.inl rfl | exact rfl | exact Nat.le_refl _ | apply And.intro)) (by repeat' (first | exact trivial | exact Or.inl (ti_succ (by assumption) (by assumption)) | exact Or.inl rfl | exact rfl | exact Nat.le_refl _ | apply And.intro)) rfl rfl fun _ => ?_
    conv => whnf
    exact ⟨⟨rfl, Nat.le_of_eq hol.symm, congrArg (Tr.lst 3 32) (List.take_of_length_le (Nat.le_of_eq hol)).symm⟩, (by repeat' (first | exact trivial | exact Or.inl (ti_succ (by assumption) (by assumption)) | exact Or.inl rfl | exact rfl | exact Nat.le_refl _ | apply And.intro))⟩
  | true =>
  rw [h1, cond_true] at i5
  conv => whnf
  refine acall.gen [0] [] _ _ _ _ (rName r2) rfl rfl rfl rfl (by repeat' (first | exact trivial | exact Or.inl (ti_succ (by assumption) (by assumption)) | exact Or.inl rfl | exact rfl | exact Nat.le_refl _ | apply And.intro)) (by repeat' (first | exact trivial | exact Or.inl (ti_succ (by assumption) (by assumption)) | exact Or.inl rfl | exact rfl | exact Nat.le_refl _ | apply And.intro)) rfl rfl fun _ => ?_
  conv => whnf
  generalize hd : itN r2 = d at *
  have hd0 : d = (⟨r2.nameS, 0, r2.nameA⟩, r2.name) := hd.symm
  subst hd0
  generalize r2.nameS = d1 at *
  generalize r2.nameA = d3 at *
  generalize r2.name = r3 at *
  refine ⟨rfl, rfl, rfl, Nat.le_of_eq hol.symm, by show (out.length + 1) * 32 ≤ 140737488351232; omega, fun q hq => ?_, ?_⟩
  · cases hq with
    | head => exact Nat.ne_of_beq_eq_false rfl
    | tail _ h => cases h
  conv => whnf
  refine acall.gen [0] [] _ _ _ _ (rTake r3 wComma) rfl rfl rfl rfl (by repeat' (first | exact trivial | exact Or.inl (ti_succ (by assumption) (by assumption)) | exact Or.inl rfl | exact rfl | exact Nat.le_refl _ | apply And.intro)) (by repeat' (first | exact trivial | exact Or.inl (ti_succ (by assumption) (by assumption)) | exact Or.inl rfl | exact rfl | exact Nat.le_refl _ | apply And.intro)) rfl rfl fun _ => ?_
  conv => whnf
  cases h2 : r3.takes wComma with
  | true =>
    have hs : r3.take wComma = r3.step := by unfold Rd.take; rw [h2]; rfl
    have hlt := takes_lt h2
    have g1 : r3.l = r.l := g1
    have g2 : r2.i ≤ r3.i := g2
    have g3 : r3.i ≤ r.l.length := g3
    rw [g1] at hlt
    rw [hs]
    have i5 : (gd, gr) = (out ++ (⟨d1, 0, d3⟩ :: (listL itN f r3.step).1), (listL itN f r3.step).2) := by rw [i5, h2]; rfl
    conv => whnf
    exact ⟨(f, out ++ [Decl.mk d1 0 d3], r3.step), [0, 16], [], Sub.mk' rfl ⟨⟨rfl, rfl⟩, ⟨rfl, by rw [List.length_append]; rfl⟩, trivial⟩ ⟨(by repeat' (first | exact trivial | exact Or.inl (ti_succ (by assumption) (by assumption)) | exact Or.inl rfl | exact rfl | exact Nat.le_refl _ | apply And.intro)), ⟨rfl, rfl, rfl, drows_app out ⟨d1, 0, d3⟩⟩, trivial⟩ rfl rfl,
      ⟨by show r.l.length + 1 ≤ f + (r3.i + 1); omega, by show (out ++ [_]).length ≤ r3.i + 1; rw [List.length_append, List.length_singleton]; omega, g1, by show r3.i + 1 ≤ r.l.length; omega, by rw [List.append_assoc]; exact i5⟩, Nat.lt_succ_self f⟩
  | false =>
    have hs : r3.take wComma = r3 := by unfold Rd.take; rw [h2]; rfl
    rw [hs]
    obtain ⟨rfl, rfl⟩ : gd = out ++ [⟨d1, 0, d3⟩] ∧ gr = r3 := by
      have : (gd, gr) = (out ++ [⟨d1, 0, d3⟩], r3) := by rw [i5, h2]; rfl
      exact ⟨congrArg Prod.fst this, congrArg Prod.snd this⟩
    conv => whnf
    refine ⟨fun h => absurd h (by decide), fun _ => ?_⟩
    conv => whnf
    refine ⟨fun _ => ?_, fun h => absurd rfl h⟩
    conv => whnf
    refine acall.gen [0] [] _ _ _ _ (rWant gr wSemi) rfl rfl rfl rfl (by repeat' (first | exact trivial | exact Or.inl (ti_succ (by assumption) (by assumption)) | exact Or.inl rfl | exact rfl | exact Nat.le_refl _ | apply And.intro)) (by repeat' (first | exact trivial | exact Or.inl (ti_succ (by assumption) (by assumption)) | exact Or.inl rfl | exact rfl | exact Nat.le_refl _ | apply And.intro)) rfl rfl fun _ => ?_
    conv => whnf
    have hl2 : ((out.map Decl.cells).take out.length ++ [Decl.cells ⟨d1, 0, d3⟩]).length = out.length + 1 := by rw [drows_app, List.length_map, List.length_append]; rfl
    exact ⟨⟨rfl, Nat.le_of_eq hl2.symm, congrArg (Tr.lst 3 32) ((drows_app out ⟨d1, 0, d3⟩).symm.trans (List.take_of_length_le (Nat.le_of_eq hl2)).symm)⟩, (by repeat' (first | exact trivial | exact Or.inl (ti_succ (by assumption) (by assumption)) | exact Or.inl rfl | exact rfl | exact Nat.le_refl _ | apply And.intro))⟩
theorem rShared (r : Rd) (hL : r.l.length ≤ 65536) (hi : r.i ≤ r.l.length) : K 19 [.ptr 0 0] [rdB r] (.ret (.tr (declsT (listG itS r).1))) [some (rdB (listG itS r).2)] := by
  refine Ctr.cut [15] hT hmix Tryz.func19 rfl (fun _ _ => by kernel_rfl) rfl fun hok => ?_
  clear hok
  have hE0 : listL itS (r.l.length + 1) r = listL itS (r.l.length + 1) r := rfl
  unfold listG
  generalize hG : listL itS (r.l.length + 1) r = G at hE0
  obtain ⟨gd, gr⟩ := G
  conv => whnf
  refine LoopL.by (fun x : Nat × List Decl × Rd => ⟨[(0, .ptr 0 0), (3, .sl 1 x.2.1.length)], [(0, rdB x.2.2), (1, .vec 64 3 32 (x.2.1.map Decl.cells))], 2⟩)
    (fun x => r.l.length + 1 ≤ x.1 + x.2.2.i ∧ x.2.1.length ≤ x.2.2.i ∧ x.2.2.l = r.l ∧ x.2.2.i ≤ r.l.length ∧ (gd, gr) = (x.2.1 ++ (listL itS x.1 x.2.2).1, (listL itS x.1 x.2.2).2)) (fun x => x.1)
    (r.l.length + 1, [], r) [0] [1] (Sub.mk' rfl ⟨⟨rfl, rfl⟩, ⟨rfl, rfl, rfl, rfl⟩, trivial⟩ ⟨(by repeat' (first | exact trivial | exact Or.inl (ti_succ (by assumption) (by assumption)) | exact Or.inl rfl | exact rfl | exact Nat.le_refl _ | apply And.intro)), ⟨rfl, 64, 3, 32, rfl, by omega⟩, trivial⟩ rfl rfl) ⟨by show r.l.length + 1 ≤ r.l.length + 1 + r.i; omega, Nat.zero_le _, rfl, hi, by rw [← hE0, hG]; rfl⟩ ?_
  rintro ⟨f, out, r2⟩ ⟨i1, i6, i2, i4, i5⟩ -
  have i1 : r.l.length + 1 ≤ f + r2.i := i1
  have i6 : out.length ≤ r2.i := i6
  have i2 : r2.l = r.l := i2
  have i4 : r2.i ≤ r.l.length := i4
  obtain ⟨f, rfl⟩ : ∃ g, f = g + 1 := ⟨f - 1, by omega⟩
  have hE : listL itS (f + 1) r2 = bif r2.ok then (bif (itS r2).2.takes wComma then ((itS r2).1 :: (listL itS f (itS r2).2.step).1, (listL itS f (itS r2).2.step).2) else ([(itS r2).1], (itS r2).2)) else ([], r2) := rfl
  have i5 : (gd, gr) = (out ++ (listL itS (f + 1) r2).1, (listL itS (f + 1) r2).2) := i5
  rw [hE] at i5
  have hol : (out.map Decl.cells).length = out.length := List.length_map ..
  have gi := itS_goes r2
  have g1 : (itS r2).2.l = r2.l := gi.l
  have g2 : r2.i ≤ (itS r2).2.i := gi.i
  have g3 : (itS r2).2.i ≤ r2.l.length := gi.n (by rw [i2]; exact i4)
  rw [i2] at g1 g3
  conv => whnf
  refine acall.gen [0] [] _ _ _ _ (rOk r2) rfl rfl rfl rfl (by repeat' (first | exact trivial | exact Or.inl (ti_succ (by assumption) (by assumption)) | exact Or.inl rfl | exact rfl | exact Nat.le_refl _ | apply And.intro)) (by repeat' (first | exact trivial | exact Or.inl (ti_succ (by assumption) (by assumption)) | exact Or.inl rfl | exact rfl | exact Nat.le_refl _ | apply And.intro)) rfl rfl fun _ => ?_
  conv => whnf
  cases h1 : r2.ok with
  | false =>
    rw [h1] at i5
    obtain ⟨rfl, rfl⟩ : gd = out ∧ gr = r2 := by
      have := i5.trans (show (out ++ ([] : List Decl), r2) = (out, r2) by rw [List.append_nil])
      exact ⟨congrArg Prod.fst this, congrArg Prod.snd this⟩
    conv => whnf
    refine ⟨fun _ => ?_, fun h => absurd rfl h⟩
    conv => whnf
    refine acall.gen [0] [] _ _ _ _ (rWant gr wSemi) rfl rfl rfl rfl (by repeat' (first | exact trivial | exact Or.inl (ti_succ (by assumption) (by assumption)) | exact Or.inl rfl | exact rfl | exact Nat.le_refl _ | apply And.intro)) (by repeat' (first | exact trivial | exact Or.inl (ti_succ (by assumption) (by assumption)) | exact Or.inl rfl | exact rfl | exact Nat.le_refl _ | apply And.intro)) rfl rfl fun _ => ?_
    conv => whnf
    exact ⟨⟨rfl, Nat.le_of_eq hol.symm, congrArg (Tr.lst 3 32) (List.take_of_length_le (Nat.le_of_eq hol)).symm⟩, (by repeat' (first | exact trivial | exact Or.inl (ti_succ (by assumption) (by assumption)) | exact Or.inl rfl | exact rfl | exact Nat.le_refl _ | apply And.intro))⟩
  | true =>
  rw [h1, cond_true] at i5
  conv => whnf
  refine acall.gen [0] [] _ _ _ _ (rName r2) rfl rfl rfl rfl (by repeat' (first | exact trivial | exact Or.inl (ti_succ (by assumption) (by assumption)) | exact Or.inl rfl | exact rfl | exact Nat.le_refl _ | apply And.intro)) (by repeat' (first | exact trivial | exact Or.inl (ti_succ (by assumption) (by assumption)) | exact Or.inl rfl | exact rfl | exact Nat.le_refl _ | apply And.intro)) rfl rfl fun _ => ?_
  conv => whnf
  refine CutL.by (fun _ : Unit => ⟨[(0, .ptr 0 0), (3, .sl 1 out.length), (6, .ptr 2 0)], [(0, rdB (itS r2).2), (1, .vec 64 3 32 (out.map Decl.cells)), (2, .cells 64 [.tr (ts r2.nameS), .tr (ti (itS r2).1.word), .tr (ti r2.nameA)])], 3⟩) (fun _ => True) ?_ ?_
  · have hv : (itS r2).1.word = r2.name.val.1 := rfl
    have hv2 : (itS r2).2 = r2.name.val.2 := rfl
    have gn := name_goes r2
    have l1 : r2.name.l = r.l := gn.l.trans i2
    rw [hv, hv2]
    clear i5 hE g1 g2 g3 gi
    generalize r2.nameS = nm
    generalize r2.nameA = na
    generalize r2.name = r3 at *
    unfold Rd.val
    conv => whnf
    refine acall.gen [0] [] _ _ _ _ (rTake r3 ⟨#[61]⟩) rfl rfl rfl rfl (by repeat' (first | exact trivial | exact Or.inl (ti_succ (by assumption) (by assumption)) | exact Or.inl rfl | exact rfl | exact Nat.le_refl _ | apply And.intro)) (by repeat' (first | exact trivial | exact Or.inl (ti_succ (by assumption) (by assumption)) | exact Or.inl rfl | exact rfl | exact Nat.le_refl _ | apply And.intro)) rfl rfl fun _ => ?_
    conv => whnf
    cases k1 : r3.takes ⟨#[61]⟩ with
    | false =>
      have hs : r3.take ⟨#[61]⟩ = r3 := by unfold Rd.take; rw [k1]; rfl
      rw [hs]
      conv => whnf
      exact ⟨(), [0, 1, 14], [], Sub.mk' rfl (by repeat' (first | exact trivial | exact Or.inl (ti_succ (by assumption) (by assumption)) | exact Or.inl rfl | exact rfl | exact Nat.le_refl _ | apply And.intro)) (by repeat' (first | exact trivial | exact Or.inl (ti_succ (by assumption) (by assumption)) | exact Or.inl rfl | exact rfl | exact Nat.le_refl _ | apply And.intro)) rfl rfl, trivial⟩
    | true =>
    have hs : r3.take ⟨#[61]⟩ = r3.step := by unfold Rd.take; rw [k1]; rfl
    have l2 : r3.step.l = r.l := l1
    rw [hs, cond_true]
    generalize r3.step = r4 at *
    have hnum : ∀ r5 : Rd, r5.l = r.l → r5.num = bif r5.here.kind != 3 then r5.fail 2 else bif r5.ok then r5.step else r5 := fun r5 _ => rfl
    conv => whnf
    refine acall.gen [0] [] _ _ _ _ (rTake r4 ⟨#[45]⟩) rfl rfl rfl rfl (by repeat' (first | exact trivial | exact Or.inl (ti_succ (by assumption) (by assumption)) | exact Or.inl rfl | exact rfl | exact Nat.le_refl _ | apply And.intro)) (by repeat' (first | exact trivial | exact Or.inl (ti_succ (by assumption) (by assumption)) | exact Or.inl rfl | exact rfl | exact Nat.le_refl _ | apply And.intro)) rfl rfl fun _ => ?_
    conv => whnf
    have fin : ∀ (less : Bool) (r5 : Rd), r5.l = r.l → True := fun _ _ _ => trivial
    cases k2 : r4.takes ⟨#[45]⟩ with
    | true =>
      have hs2 : r4.take ⟨#[45]⟩ = r4.step := by unfold Rd.take; rw [k2]; rfl
      have l3 : r4.step.l = r.l := l2
      rw [hs2, cond_true]
      generalize r4.step = r5 at *
      have hh := rHere r5
      have hkind := here_lt (r := r5)
      have hN := hnum r5 l3
      generalize r5.here = t at hh hN hkind
      obtain ⟨tk, tx, tw, tp⟩ := t
      have hN : r5.num = bif tk != 3 then r5.fail 2 else bif r5.ok then r5.step else r5 := hN
      rw [hN]
      conv => whnf
      refine acall.gen [0] [] _ _ _ _ (hh) rfl rfl rfl rfl (by repeat' (first | exact trivial | exact Or.inl (ti_succ (by assumption) (by assumption)) | exact Or.inl rfl | exact rfl | exact Nat.le_refl _ | apply And.intro)) (by repeat' (first | exact trivial | exact Or.inl (ti_succ (by assumption) (by assumption)) | exact Or.inl rfl | exact rfl | exact Nat.le_refl _ | apply And.intro)) rfl rfl fun _ => ?_
      conv => whnf
      refine csplit (fun k3 => ?_) (fun k3 => ?_)
      · have k3 : (tk != 3) = true := k3
        rw [k3]
        conv => whnf
        refine acall.gen [0] [] _ _ _ _ (rFail r5 2) rfl rfl rfl rfl (by repeat' (first | exact trivial | exact Or.inl (ti_succ (by assumption) (by assumption)) | exact Or.inl rfl | exact rfl | exact Nat.le_refl _ | apply And.intro)) (by repeat' (first | exact trivial | exact Or.inl (ti_succ (by assumption) (by assumption)) | exact Or.inl rfl | exact rfl | exact Nat.le_refl _ | apply And.intro)) rfl rfl fun _ => ?_
        conv => whnf
        exact ⟨(), [0, 1, 14], [], Sub.mk' rfl (by repeat' (first | exact trivial | exact Or.inl (ti_succ (by assumption) (by assumption)) | exact Or.inl rfl | exact rfl | exact Nat.le_refl _ | apply And.intro)) (by repeat' (first | exact trivial | exact Or.inl (ti_succ (by assumption) (by assumption)) | exact Or.inl rfl | exact rfl | exact Nat.le_refl _ | apply And.intro)) rfl rfl, trivial⟩
      · have k3 : (tk != 3) = false := k3
        rw [k3]
        have hlt : r5.i < r5.l.length := hkind (by show tk ≠ 0; rw [show tk = 3 by simpa using k3]; decide)
        conv => whnf
        refine acall.gen [0] [] _ _ _ _ (rOk r5) rfl rfl rfl rfl (by repeat' (first | exact trivial | exact Or.inl (ti_succ (by assumption) (by assumption)) | exact Or.inl rfl | exact rfl | exact Nat.le_refl _ | apply And.intro)) (by repeat' (first | exact trivial | exact Or.inl (ti_succ (by assumption) (by assumption)) | exact Or.inl rfl | exact rfl | exact Nat.le_refl _ | apply And.intro)) rfl rfl fun _ => ?_
        conv => whnf
        cases k4 : r5.ok with
        | true =>
          conv => whnf
          exact ⟨(), [0, 1, 14], [], Sub.mk' rfl (by repeat' (first | exact trivial | exact Or.inl (ti_succ (by assumption) (by assumption)) | exact Or.inl rfl | exact rfl | exact Nat.le_refl _ | apply And.intro)) ⟨⟨rfl, .inl rfl, .inl (ti_succ hlt (by rw [l3]; omega)), .inl rfl, .inl rfl, .inl rfl, trivial⟩, (by repeat' (first | exact trivial | exact Or.inl (ti_succ (by assumption) (by assumption)) | exact Or.inl rfl | exact rfl | exact Nat.le_refl _ | apply And.intro)), (by repeat' (first | exact trivial | exact Or.inl (ti_succ (by assumption) (by assumption)) | exact Or.inl rfl | exact rfl | exact Nat.le_refl _ | apply And.intro)), trivial⟩ rfl rfl, trivial⟩
        | false =>
          conv => whnf
          exact ⟨(), [0, 1, 14], [], Sub.mk' rfl (by repeat' (first | exact trivial | exact Or.inl (ti_succ (by assumption) (by assumption)) | exact Or.inl rfl | exact rfl | exact Nat.le_refl _ | apply And.intro)) (by repeat' (first | exact trivial | exact Or.inl (ti_succ (by assumption) (by assumption)) | exact Or.inl rfl | exact rfl | exact Nat.le_refl _ | apply And.intro)) rfl rfl, trivial⟩
    | false =>
      have hs2 : r4.take ⟨#[45]⟩ = r4 := by unfold Rd.take; rw [k2]; rfl
      rw [hs2, cond_false]
      have l3 := l2
      generalize r4 = r5 at *
      have hh := rHere r5
      have hkind := here_lt (r := r5)
      have hN := hnum r5 l3
      generalize r5.here = t at hh hN hkind
      obtain ⟨tk, tx, tw, tp⟩ := t
      have hN : r5.num = bif tk != 3 then r5.fail 2 else bif r5.ok then r5.step else r5 := hN
      rw [hN]
      conv => whnf
      refine acall.gen [0] [] _ _ _ _ (hh) rfl rfl rfl rfl (by repeat' (first | exact trivial | exact Or.inl (ti_succ (by assumption) (by assumption)) | exact Or.inl rfl | exact rfl | exact Nat.le_refl _ | apply And.intro)) (by repeat' (first | exact trivial | exact Or.inl (ti_succ (by assumption) (by assumption)) | exact Or.inl rfl | exact rfl | exact Nat.le_refl _ | apply And.intro)) rfl rfl fun _ => ?_
      conv => whnf
      refine csplit (fun k3 => ?_) (fun k3 => ?_)
      · have k3 : (tk != 3) = true := k3
        rw [k3]
        conv => whnf
        refine acall.gen [0] [] _ _ _ _ (rFail r5 2) rfl rfl rfl rfl (by repeat' (first | exact trivial | exact Or.inl (ti_succ (by assumption) (by assumption)) | exact Or.inl rfl | exact rfl | exact Nat.le_refl _ | apply And.intro)) (by repeat' (first | exact trivial | exact Or.inl (ti_succ (by assumption) (by assumption)) | exact Or.inl rfl | exact rfl | exact Nat.le_refl _ | apply And.intro)) rfl rfl fun _ => ?_
        conv => whnf
        exact ⟨(), [0, 1, 14], [], Sub.mk' rfl (by repeat' (first | exact trivial | exact Or.inl (ti_succ (by assumption) (by assumption)) | exact Or.inl rfl | exact rfl | exact Nat.le_refl _ | apply And.intro)) (by repeat' (first | exact trivial | exact Or.inl (ti_succ (by assumption) (by assumption)) | exact Or.inl rfl | exact rfl | exact Nat.le_refl _ | apply And.intro)) rfl rfl, trivial⟩
      · have k3 : (tk != 3) = false := k3
        rw [k3]
        have hlt : r5.i < r5.l.length := hkind (by show tk ≠ 0; rw [show tk = 3 by simpa using k3]; decide)
        conv => whnf
        refine acall.gen [0] [] _ _ _ _ (rOk r5) rfl rfl rfl rfl (by repeat' (first | exact trivial | exact Or.inl (ti_succ (by assumption) (by assumption)) | exact Or.inl rfl | exact rfl | exact Nat.le_refl _ | apply And.intro)) (by repeat' (first | exact trivial | exact Or.inl (ti_succ (by assumption) (by assumption)) | exact Or.inl rfl | exact rfl | exact Nat.le_refl _ | apply And.intro)) rfl rfl fun _ => ?_
        conv => whnf
        cases k4 : r5.ok with
        | true =>
          conv => whnf
          exact ⟨(), [0, 1, 14], [], Sub.mk' rfl (by repeat' (first | exact trivial | exact Or.inl (ti_succ (by assumption) (by assumption)) | exact Or.inl rfl | exact rfl | exact Nat.le_refl _ | apply And.intro)) ⟨⟨rfl, .inl rfl, .inl (ti_succ hlt (by rw [l3]; omega)), .inl rfl, .inl rfl, .inl rfl, trivial⟩, (by repeat' (first | exact trivial | exact Or.inl (ti_succ (by assumption) (by assumption)) | exact Or.inl rfl | exact rfl | exact Nat.le_refl _ | apply And.intro)), (by repeat' (first | exact trivial | exact Or.inl (ti_succ (by assumption) (by assumption)) | exact Or.inl rfl | exact rfl | exact Nat.le_refl _ | apply And.intro)), trivial⟩ rfl rfl, trivial⟩
        | false =>
          conv => whnf
          exact ⟨(), [0, 1, 14], [], Sub.mk' rfl (by repeat' (first | exact trivial | exact Or.inl (ti_succ (by assumption) (by assumption)) | exact Or.inl rfl | exact rfl | exact Nat.le_refl _ | apply And.intro)) (by repeat' (first | exact trivial | exact Or.inl (ti_succ (by assumption) (by assumption)) | exact Or.inl rfl | exact rfl | exact Nat.le_refl _ | apply And.intro)) rfl rfl, trivial⟩
  rintro _ - -
  generalize hd : itS r2 = d at *
  have hd1 : d.1.name = r2.nameS := by rw [← hd]; rfl
  have hd2 : d.1.at_ = r2.nameA := by rw [← hd]; rfl
  obtain ⟨⟨d1, d2, d3⟩, r3⟩ := d
  have hd1 : d1 = r2.nameS := hd1
  have hd2 : d3 = r2.nameA := hd2
  generalize r2.nameS = n1 at *
  generalize r2.nameA = n3 at *
  subst hd1
  subst hd2
  conv => whnf
  refine ⟨rfl, rfl, rfl, Nat.le_of_eq hol.symm, by show (out.length + 1) * 32 ≤ 140737488351232; omega, fun q hq => ?_, ?_⟩
  · cases hq with
    | head => exact Nat.ne_of_beq_eq_false rfl
    | tail _ h => cases h
  conv => whnf
  refine acall.gen [0] [] _ _ _ _ (rTake r3 wComma) rfl rfl rfl rfl (by repeat' (first | exact trivial | exact Or.inl (ti_succ (by assumption) (by assumption)) | exact Or.inl rfl | exact rfl | exact Nat.le_refl _ | apply And.intro)) (by repeat' (first | exact trivial | exact Or.inl (ti_succ (by assumption) (by assumption)) | exact Or.inl rfl | exact rfl | exact Nat.le_refl _ | apply And.intro)) rfl rfl fun _ => ?_
  conv => whnf
  cases h2 : r3.takes wComma with
  | true =>
    have hs : r3.take wComma = r3.step := by unfold Rd.take; rw [h2]; rfl
    have hlt := takes_lt h2
    have g1 : r3.l = r.l := g1
    have g2 : r2.i ≤ r3.i := g2
    have g3 : r3.i ≤ r.l.length := g3
    rw [g1] at hlt
    rw [hs]
    have i5 : (gd, gr) = (out ++ (⟨d1, d2, d3⟩ :: (listL itS f r3.step).1), (listL itS f r3.step).2) := by rw [i5, h2]; rfl
    conv => whnf
    exact ⟨(f, out ++ [Decl.mk d1 d2 d3], r3.step), [0, 6], [], Sub.mk' rfl ⟨⟨rfl, rfl⟩, ⟨rfl, by rw [List.length_append]; rfl⟩, trivial⟩ ⟨(by repeat' (first | exact trivial | exact Or.inl (ti_succ (by assumption) (by assumption)) | exact Or.inl rfl | exact rfl | exact Nat.le_refl _ | apply And.intro)), ⟨rfl, rfl, rfl, drows_app out ⟨d1, d2, d3⟩⟩, trivial⟩ rfl rfl,
      ⟨by show r.l.length + 1 ≤ f + (r3.i + 1); omega, by show (out ++ [_]).length ≤ r3.i + 1; rw [List.length_append, List.length_singleton]; omega, g1, by show r3.i + 1 ≤ r.l.length; omega, by rw [List.append_assoc]; exact i5⟩, Nat.lt_succ_self f⟩
  | false =>
    have hs : r3.take wComma = r3 := by unfold Rd.take; rw [h2]; rfl
    rw [hs]
    obtain ⟨rfl, rfl⟩ : gd = out ++ [⟨d1, d2, d3⟩] ∧ gr = r3 := by
      have : (gd, gr) = (out ++ [⟨d1, d2, d3⟩], r3) := by rw [i5, h2]; rfl
      exact ⟨congrArg Prod.fst this, congrArg Prod.snd this⟩
    conv => whnf
    refine ⟨fun h => absurd h (by decide), fun _ => ?_⟩
    conv => whnf
    refine ⟨fun _ => ?_, fun h => absurd rfl h⟩
    conv => whnf
    refine acall.gen [0] [] _ _ _ _ (rWant gr wSemi) rfl rfl rfl rfl (by repeat' (first | exact trivial | exact Or.inl (ti_succ (by assumption) (by assumption)) | exact Or.inl rfl | exact rfl | exact Nat.le_refl _ | apply And.intro)) (by repeat' (first | exact trivial | exact Or.inl (ti_succ (by assumption) (by assumption)) | exact Or.inl rfl | exact rfl | exact Nat.le_refl _ | apply And.intro)) rfl rfl fun _ => ?_
    conv => whnf
    have hl2 : ((out.map Decl.cells).take out.length ++ [Decl.cells ⟨d1, d2, d3⟩]).length = out.length + 1 := by rw [drows_app, List.length_map, List.length_append]; rfl
    exact ⟨⟨rfl, Nat.le_of_eq hl2.symm, congrArg (Tr.lst 3 32) ((drows_app out ⟨d1, d2, d3⟩).symm.trans (List.take_of_length_le (Nat.le_of_eq hl2)).symm)⟩, (by repeat' (first | exact trivial | exact Or.inl (ti_succ (by assumption) (by assumption)) | exact Or.inl rfl | exact rfl | exact Nat.le_refl _ | apply And.intro))⟩
end Go.Proofs.YtbpcbhmdjphodaaGreat.am

namespace Go.Proofs.YtbpcbhmdjphodaaGreat.am
open Go Go.Proofs
theorem rSs0 (r : Rd) (hL : r.l.length ≤ 65536) (hi : r.i ≤ r.l.length) : K 38 [.ptr 0 0, .tr (ti 1)] [rdB r] (.ret (.tr (stmtsT (ssG (2 * r.l.length + 2) r 1).1))) [some (rdB (ssG (2 * r.l.length + 2) r 1).2)] :=
  (rSt (2 * r.l.length + 2)).2 r 1 hL hi (by omega)
theorem listG_len {it : Rd → Decl × Rd} (r : Rd) : (listG it r).1.length ≤ r.l.length + 1 := listL_len _ r
theorem drows_app2 (out l : List Decl) : (out.map Decl.cells).take out.length ++ l.map Decl.cells = (out ++ l).map Decl.cells := by
  rw [List.take_of_length_le (Nat.le_of_eq (List.length_map ..)), List.map_append]
theorem trows_app (out : List Thread) (d : Thread) : (out.map Thread.cells).take out.length ++ [d.cells] = (out ++ [d]).map Thread.cells := by
  rw [List.take_of_length_le (Nat.le_of_eq (List.length_map ..)), List.map_append]; rfl
theorem rThreads (sh lo : List Decl) (r : Rd) (hL : r.l.length ≤ 65536) (hi : r.i ≤ r.l.length) :
    K 21 [.ptr 0 0, .agg [.tr (declsT sh), .tr (declsT lo), .tr tnil]] [rdB r] (.ret (Prg.mk sh lo (threadsL (r.l.length + 1) [] r).1).av) [some (rdB (threadsL (r.l.length + 1) [] r).2)] := by
  refine Ctr.cut [8] hT hmix Tryz.func21 rfl (fun _ _ => by kernel_rfl) rfl fun hok => ?_
  clear hok
  generalize hG : threadsL (r.l.length + 1) [] r = G
  obtain ⟨gt, gr⟩ := G
  conv => whnf
  refine LoopL.by (fun x : Nat × List Thread × Rd => ⟨[(0, .ptr 0 0), (3, .ptr 1 0), (4, .ptr 2 0)], [(0, rdB x.2.2), (1, .cells 25 [.tr (declsT sh), .tr (declsT lo), .sl 3 x.2.1.length]), (2, .cells 25 [.tr tnil, .tr tnil, .tr tnil]), (3, .vec 52 4 72 (x.2.1.map Thread.cells))], 4⟩)
    (fun x => (x.2.2.ok = true → r.l.length + 1 ≤ x.1 + x.2.2.i ∧ x.2.1.length ≤ x.2.2.i) ∧ x.2.2.l = r.l ∧ x.2.2.i ≤ r.l.length ∧ threadsL x.1 x.2.1 x.2.2 = (gt, gr)) (fun x => x.1)
    (r.l.length + 1, [], r) [0, 1, 2] [3] (Sub.mk' rfl (by repeat' (first | exact trivial | exact Or.inl (ti_succ (by assumption) (by assumption)) | exact Or.inl rfl | exact rfl | exact Nat.le_refl _ | apply And.intro)) ⟨(by repeat' (first | exact trivial | exact Or.inl (ti_succ (by assumption) (by assumption)) | exact Or.inl rfl | exact rfl | exact Nat.le_refl _ | apply And.intro)), ⟨rfl, .inl rfl, .inl rfl, ⟨rfl, rfl, rfl, rfl⟩, trivial⟩, (by repeat' (first | exact trivial | exact Or.inl (ti_succ (by assumption) (by assumption)) | exact Or.inl rfl | exact rfl | exact Nat.le_refl _ | apply And.intro)), ⟨rfl, 52, 4, 72, rfl, by omega⟩, trivial⟩ rfl rfl) ⟨fun _ => ⟨by show r.l.length + 1 ≤ r.l.length + 1 + r.i; omega, Nat.zero_le _⟩, rfl, hi, hG⟩ ?_
  rintro ⟨f, out, r2⟩ ⟨i1, i2, i4, i5⟩ -
  have i1 : r2.ok = true → r.l.length + 1 ≤ f + r2.i ∧ out.length ≤ r2.i := i1
  have i2 : r2.l = r.l := i2
  have i4 : r2.i ≤ r.l.length := i4
  have i5 : threadsL f out r2 = (gt, gr) := i5
  have hol : (out.map Thread.cells).length = out.length := List.length_map ..
  have fin : threadsL f out r2 = (out, r2) → gt = out ∧ gr = r2 := fun h => by
    rw [h] at i5
    exact ⟨(congrArg Prod.fst i5).symm, (congrArg Prod.snd i5).symm⟩
  conv => whnf
  refine acall.gen [0] [] _ _ _ _ (rOk r2) rfl rfl rfl rfl (by repeat' (first | exact trivial | exact Or.inl (ti_succ (by assumption) (by assumption)) | exact Or.inl rfl | exact rfl | exact Nat.le_refl _ | apply And.intro)) (by repeat' (first | exact trivial | exact Or.inl (ti_succ (by assumption) (by assumption)) | exact Or.inl rfl | exact rfl | exact Nat.le_refl _ | apply And.intro)) rfl rfl ?_
  conv => whnf
  cases h1 : r2.ok with
  | false =>
    obtain ⟨rfl, rfl⟩ := fin (by cases f with | zero => rfl | succ f => unfold threadsL; rw [h1]; rfl)
    conv => whnf
    refine ⟨by kernel_rfl, fun _ => ?_⟩
    conv => whnf
    refine ⟨fun _ => ?_, fun h => absurd rfl h⟩
    conv => whnf
    exact ⟨⟨.inl rfl, .inl rfl, ⟨rfl, Nat.le_of_eq hol.symm, congrArg (Tr.lst 4 72) (List.take_of_length_le (Nat.le_of_eq hol)).symm⟩, trivial⟩, (by repeat' (first | exact trivial | exact Or.inl (ti_succ (by assumption) (by assumption)) | exact Or.inl rfl | exact rfl | exact Nat.le_refl _ | apply And.intro))⟩
  | true =>
  obtain ⟨i1, i6⟩ := i1 h1
  obtain ⟨f, rfl⟩ : ∃ g, f = g + 1 := ⟨f - 1, by omega⟩
  have hE : threadsL (f + 1) out r2 = bif r2.ok && decide (r2.i < r2.l.length) then threadsL f (out ++ [r2.thread.1]) r2.thread.2 else (out, r2) := rfl
  conv => whnf
  refine ⟨by kernel_rfl, fun _ => ?_⟩
  conv => whnf
  cases h2 : decide ((r2.i : Int) < ((r2.l.map Tok.cells).length : Int)) with
  | false =>
    obtain ⟨rfl, rfl⟩ := fin (by rw [hE, h1, show decide (r2.i < r2.l.length) = false from decide_eq_false (by have := of_decide_eq_false h2; rw [List.length_map] at this; omega)]; rfl)
    conv => whnf
    refine ⟨fun _ => ?_, fun h => absurd rfl h⟩
    conv => whnf
    exact ⟨⟨.inl rfl, .inl rfl, ⟨rfl, Nat.le_of_eq hol.symm, congrArg (Tr.lst 4 72) (List.take_of_length_le (Nat.le_of_eq hol)).symm⟩, trivial⟩, (by repeat' (first | exact trivial | exact Or.inl (ti_succ (by assumption) (by assumption)) | exact Or.inl rfl | exact rfl | exact Nat.le_refl _ | apply And.intro))⟩
  | true =>
  rw [hE, h1, show decide (r2.i < r2.l.length) = true from decide_eq_true (by have := of_decide_eq_true h2; rw [List.length_map] at this; omega)] at i5
  have i5 : threadsL f (out ++ [r2.thread.1]) r2.thread.2 = (gt, gr) := i5
  have hgo := thread_eats r2
  have hgL := (want_goes r2 wThread).trans (thL_goes r2)
  have hg0 := (want_goes r2 wThread).trans (th0_goes r2)
  have hth : r2.thread = (⟨(r2.want wThread).nameS, r2.thL.1, r2.thB.1, (r2.want wThread).nameA⟩, r2.thB.2) := rfl
  have hw0 := rWant (r2.want wThread).name ⟨#[123]⟩
  rw [show (r2.want wThread).name.want ⟨#[123]⟩ = r2.th0 from rfl] at hw0
  have htl : r2.thL = localsL (r2.th0.l.length + 1) [] r2.th0 := rfl
  have htb : r2.thB = ssG (2 * r2.thL.2.l.length + 2) r2.thL.2 1 := rfl
  rw [hth] at i5 hgo
  have e1 : r2.th0.l = r.l := hg0.l.trans i2
  have e2 : r2.th0.i ≤ r.l.length := by have := hg0.n (by rw [i2]; exact i4); rw [i2] at this; exact this
  have e3 : r2.thL.2.l = r.l := hgL.l.trans i2
  have e4 : r2.thL.2.i ≤ r.l.length := by have := hgL.n (by rw [i2]; exact i4); rw [i2] at this; exact this
  have hk := rSs0 r2.thL.2 (by rw [e3]; exact hL) (by rw [e3]; exact e4)
  rw [← htb] at hk
  conv => whnf
  refine acall.gen [0] [] _ _ _ _ (rWant r2 wThread) rfl rfl rfl rfl (by repeat' (first | exact trivial | exact Or.inl (ti_succ (by assumption) (by assumption)) | exact Or.inl rfl | exact rfl | exact Nat.le_refl _ | apply And.intro)) (by repeat' (first | exact trivial | exact Or.inl (ti_succ (by assumption) (by assumption)) | exact Or.inl rfl | exact rfl | exact Nat.le_refl _ | apply And.intro)) rfl rfl fun _ => ?_
  conv => whnf
  refine acall.gen [0] [] _ _ _ _ (rName (r2.want wThread)) rfl rfl rfl rfl (by repeat' (first | exact trivial | exact Or.inl (ti_succ (by assumption) (by assumption)) | exact Or.inl rfl | exact rfl | exact Nat.le_refl _ | apply And.intro)) (by repeat' (first | exact trivial | exact Or.inl (ti_succ (by assumption) (by assumption)) | exact Or.inl rfl | exact rfl | exact Nat.le_refl _ | apply And.intro)) rfl rfl fun _ => ?_
  conv => whnf
  refine acall.gen [0] [] _ _ _ _ (hw0) rfl rfl rfl rfl (by repeat' (first | exact trivial | exact Or.inl (ti_succ (by assumption) (by assumption)) | exact Or.inl rfl | exact rfl | exact Nat.le_refl _ | apply And.intro)) (by repeat' (first | exact trivial | exact Or.inl (ti_succ (by assumption) (by assumption)) | exact Or.inl rfl | exact rfl | exact Nat.le_refl _ | apply And.intro)) rfl rfl fun _ => ?_
  conv => whnf
  generalize (r2.want wThread).nameS = nm at *
  generalize (r2.want wThread).nameA = na at *
  generalize r2.th0 = r3 at *
  generalize hTL : r2.thL = tl at *
  obtain ⟨ls, r4⟩ := tl
  refine CutL.by (fun _ : Unit => ⟨[(0, .ptr 0 0), (3, .ptr 1 0), (4, .ptr 2 0), (7, .ptr 4 0)], [(0, rdB r4), (1, .cells 25 [.tr (declsT sh), .tr (declsT lo), .sl 3 out.length]), (2, .cells 25 [.tr tnil, .tr tnil, .tr tnil]), (3, .vec 52 4 72 (out.map Thread.cells)), (4, .cells 52 [.tr (ts nm), .tr (declsT ls), .tr tnil, .tr (ti na)])], 5⟩) (fun _ => True) ?_ ?_
  · conv => whnf
    refine LoopL.by (fun x : Nat × List Decl × Rd => ⟨[(0, .ptr 0 0), (3, .ptr 1 0), (4, .ptr 2 0), (7, .ptr 4 0)], [(0, rdB x.2.2), (1, .cells 25 [.tr (declsT sh), .tr (declsT lo), .sl 3 out.length]), (2, .cells 25 [.tr tnil, .tr tnil, .tr tnil]), (3, .vec 52 4 72 (out.map Thread.cells)), (4, .cells 52 [.tr (ts nm), .sl 5 x.2.1.length, .tr tnil, .tr (ti na)]), (5, .vec 64 3 32 (x.2.1.map Decl.cells))], 6⟩)
      (fun x => r.l.length + 1 ≤ x.1 + x.2.2.i ∧ x.2.1.length ≤ 65537 * x.2.2.i ∧ x.2.2.l = r.l ∧ x.2.2.i ≤ r.l.length ∧ localsL x.1 x.2.1 x.2.2 = (ls, r4)) (fun x => x.1)
      (r3.l.length + 1, [], r3) [0, 1, 2, 3, 30] [5] (Sub.mk' rfl (by repeat' (first | exact trivial | exact Or.inl (ti_succ (by assumption) (by assumption)) | exact Or.inl rfl | exact rfl | exact Nat.le_refl _ | apply And.intro)) ⟨(by repeat' (first | exact trivial | exact Or.inl (ti_succ (by assumption) (by assumption)) | exact Or.inl rfl | exact rfl | exact Nat.le_refl _ | apply And.intro)), (by repeat' (first | exact trivial | exact Or.inl (ti_succ (by assumption) (by assumption)) | exact Or.inl rfl | exact rfl | exact Nat.le_refl _ | apply And.intro)), (by repeat' (first | exact trivial | exact Or.inl (ti_succ (by assumption) (by assumption)) | exact Or.inl rfl | exact rfl | exact Nat.le_refl _ | apply And.intro)), (by repeat' (first | exact trivial | exact Or.inl (ti_succ (by assumption) (by assumption)) | exact Or.inl rfl | exact rfl | exact Nat.le_refl _ | apply And.intro)), ⟨rfl, .inl rfl, ⟨rfl, rfl, rfl, rfl⟩, .inl rfl, .inl rfl, trivial⟩, ⟨rfl, 64, 3, 32, rfl, by omega⟩, trivial⟩ rfl rfl) ⟨by show r.l.length + 1 ≤ r3.l.length + 1 + r3.i; rw [e1]; omega, Nat.zero_le _, e1, e2, htl.symm⟩ ?_
    rintro ⟨g, ld, r5⟩ ⟨j1, j6, j2, j4, j5⟩ -
    have j1 : r.l.length + 1 ≤ g + r5.i := j1
    have j6 : ld.length ≤ 65537 * r5.i := j6
    have j2 : r5.l = r.l := j2
    have j4 : r5.i ≤ r.l.length := j4
    obtain ⟨g, rfl⟩ : ∃ k, g = k + 1 := ⟨g - 1, by omega⟩
    have j5 : (bif r5.takes wLocal then localsL g (ld ++ (listG itN r5.step).1) (listG itN r5.step).2 else (ld, r5)) = (ls, r4) := j5
    have hld : (ld.map Decl.cells).length = ld.length := List.length_map ..
    conv => whnf
    refine acall.gen [0] [] _ _ _ _ (rTake r5 wLocal) rfl rfl rfl rfl (by repeat' (first | exact trivial | exact Or.inl (ti_succ (by assumption) (by assumption)) | exact Or.inl rfl | exact rfl | exact Nat.le_refl _ | apply And.intro)) (by repeat' (first | exact trivial | exact Or.inl (ti_succ (by assumption) (by assumption)) | exact Or.inl rfl | exact rfl | exact Nat.le_refl _ | apply And.intro)) rfl rfl fun _ => ?_
    conv => whnf
    cases k1 : r5.takes wLocal with
    | false =>
      rw [k1] at j5
      obtain ⟨rfl, rfl⟩ : ld = ls ∧ r5 = r4 := ⟨congrArg Prod.fst j5, congrArg Prod.snd j5⟩
      have hs : r5.take wLocal = r5 := by unfold Rd.take; rw [k1]; rfl
      rw [hs]
      conv => whnf
      refine ⟨fun _ => ?_, fun h => absurd rfl h⟩
      conv => whnf
      exact ⟨(), [0, 1, 2, 3, 4], [], Sub.mk' rfl (by repeat' (first | exact trivial | exact Or.inl (ti_succ (by assumption) (by assumption)) | exact Or.inl rfl | exact rfl | exact Nat.le_refl _ | apply And.intro)) ⟨(by repeat' (first | exact trivial | exact Or.inl (ti_succ (by assumption) (by assumption)) | exact Or.inl rfl | exact rfl | exact Nat.le_refl _ | apply And.intro)), (by repeat' (first | exact trivial | exact Or.inl (ti_succ (by assumption) (by assumption)) | exact Or.inl rfl | exact rfl | exact Nat.le_refl _ | apply And.intro)), (by repeat' (first | exact trivial | exact Or.inl (ti_succ (by assumption) (by assumption)) | exact Or.inl rfl | exact rfl | exact Nat.le_refl _ | apply And.intro)), (by repeat' (first | exact trivial | exact Or.inl (ti_succ (by assumption) (by assumption)) | exact Or.inl rfl | exact rfl | exact Nat.le_refl _ | apply And.intro)), ⟨rfl, .inl rfl, ⟨rfl, Nat.le_of_eq hld.symm, congrArg (Tr.lst 3 32) (List.take_of_length_le (Nat.le_of_eq hld)).symm⟩, .inl rfl, .inl rfl, trivial⟩, trivial⟩ rfl rfl, trivial⟩
    | true =>
      rw [k1] at j5
      have hs : r5.take wLocal = r5.step := by unfold Rd.take; rw [k1]; rfl
      have hlt := takes_lt k1
      rw [j2] at hlt
      rw [hs]
      have hk5 := rNames r5.step (by show r5.l.length ≤ 65536; rw [j2]; exact hL) (by show r5.i + 1 ≤ r5.l.length; rw [j2]; exact hlt)
      have hg5 := listG_goes itN_goes r5.step
      have hl5 := listG_len (it := itN) r5.step
      have j5 : localsL g (ld ++ (listG itN r5.step).1) (listG itN r5.step).2 = (ls, r4) := j5
      generalize listG itN r5.step = y at *
      obtain ⟨nl, r6⟩ := y
      have y1 : r6.l = r5.l := hg5.l
      have y2 : r5.i + 1 ≤ r6.i := hg5.i
      have y3 : r6.i ≤ r5.l.length := hg5.n (by show r5.i + 1 ≤ r5.l.length; rw [j2]; exact hlt)
      have y4 : nl.length ≤ r5.l.length + 1 := hl5
      rw [j2] at y1 y3 y4
      conv => whnf
      refine acall.gen [0] [] _ _ _ _ (hk5) rfl rfl rfl rfl (by repeat' (first | exact trivial | exact Or.inl (ti_succ (by assumption) (by assumption)) | exact Or.inl rfl | exact rfl | exact Nat.le_refl _ | apply And.intro)) (by repeat' (first | exact trivial | exact Or.inl (ti_succ (by assumption) (by assumption)) | exact Or.inl rfl | exact rfl | exact Nat.le_refl _ | apply And.intro)) rfl rfl ?_
      conv => whnf
      refine ⟨rfl, rfl, rfl, Nat.le_of_eq hld.symm, by show (ld.length + (nl.map Decl.cells).length) * 32 ≤ 140737488351232; rw [List.length_map]; omega, fun q hq => (by cases hq), ?_⟩
      conv => whnf
      refine ⟨by kernel_rfl, fun _ => ?_⟩
      conv => whnf
      exact ⟨(g, ld ++ nl, r6), [0, 1, 2, 3, 4, 12], [], Sub.mk' rfl (by repeat' (first | exact trivial | exact Or.inl (ti_succ (by assumption) (by assumption)) | exact Or.inl rfl | exact rfl | exact Nat.le_refl _ | apply And.intro)) ⟨(by repeat' (first | exact trivial | exact Or.inl (ti_succ (by assumption) (by assumption)) | exact Or.inl rfl | exact rfl | exact Nat.le_refl _ | apply And.intro)), (by repeat' (first | exact trivial | exact Or.inl (ti_succ (by assumption) (by assumption)) | exact Or.inl rfl | exact rfl | exact Nat.le_refl _ | apply And.intro)), (by repeat' (first | exact trivial | exact Or.inl (ti_succ (by assumption) (by assumption)) | exact Or.inl rfl | exact rfl | exact Nat.le_refl _ | apply And.intro)), (by repeat' (first | exact trivial | exact Or.inl (ti_succ (by assumption) (by assumption)) | exact Or.inl rfl | exact rfl | exact Nat.le_refl _ | apply And.intro)), ⟨rfl, .inl rfl, ⟨rfl, by show ld.length + (nl.map Decl.cells).length = (ld ++ nl).length; rw [List.length_append, List.length_map]⟩, .inl rfl, .inl rfl, trivial⟩, ⟨rfl, rfl, rfl, drows_app2 ld nl⟩, trivial⟩ rfl rfl,
        ⟨by show r.l.length + 1 ≤ g + r6.i; omega, by show (ld ++ nl).length ≤ 65537 * r6.i; rw [List.length_append]; omega, y1, y3, j5⟩, Nat.lt_succ_self g⟩
  rintro _ - -
  generalize hTB : r2.thB = tb2 at *
  obtain ⟨b, r7⟩ := tb2
  obtain ⟨hgo1, hgo2⟩ := hgo
  have z1 : r7.l = r.l := hgo1.l.trans i2
  have z3 : r7.i ≤ r2.l.length := hgo1.n (by rw [i2]; exact i4)
  have z2 : r7.ok = true → r2.i < r7.i := hgo2
  rw [i2] at z3
  conv => whnf
  refine acall.gen [0] [] _ _ _ _ (hk) rfl rfl rfl rfl (by repeat' (first | exact trivial | exact Or.inl (ti_succ (by assumption) (by assumption)) | exact Or.inl rfl | exact rfl | exact Nat.le_refl _ | apply And.intro)) (by repeat' (first | exact trivial | exact Or.inl (ti_succ (by assumption) (by assumption)) | exact Or.inl rfl | exact rfl | exact Nat.le_refl _ | apply And.intro)) rfl rfl fun _ => ?_
  conv => whnf
  refine ⟨rfl, rfl, rfl, Nat.le_of_eq hol.symm, by show (out.length + 1) * 72 ≤ 140737488351232; omega, fun q hq => ?_, ?_⟩
  · cases hq with
    | head => exact Nat.ne_of_beq_eq_false rfl
    | tail _ h => cases h
  conv => whnf
  exact ⟨(f, out ++ [Thread.mk nm ls b na], r7), [0, 1, 2, 13], [], Sub.mk' rfl (by repeat' (first | exact trivial | exact Or.inl (ti_succ (by assumption) (by assumption)) | exact Or.inl rfl | exact rfl | exact Nat.le_refl _ | apply And.intro)) ⟨(by repeat' (first | exact trivial | exact Or.inl (ti_succ (by assumption) (by assumption)) | exact Or.inl rfl | exact rfl | exact Nat.le_refl _ | apply And.intro)), ⟨rfl, .inl rfl, .inl rfl, ⟨rfl, by show out.length + 1 = (out ++ [_]).length; rw [List.length_append]; rfl⟩, trivial⟩, (by repeat' (first | exact trivial | exact Or.inl (ti_succ (by assumption) (by assumption)) | exact Or.inl rfl | exact rfl | exact Nat.le_refl _ | apply And.intro)), ⟨rfl, rfl, rfl, trows_app out (Thread.mk nm ls b na)⟩, trivial⟩ rfl rfl,
    ⟨fun h => ⟨by have := z2 h; show r.l.length + 1 ≤ f + r7.i; omega, by have := z2 h; show (out ++ [_]).length ≤ r7.i; rw [List.length_append, List.length_singleton]; omega⟩, z1, z3, i5⟩, Nat.lt_succ_self f⟩
end Go.Proofs.YtbpcbhmdjphodaaGreat.am

namespace Go.Proofs.YtbpcbhmdjphodaaGreat.am
open Go Go.Proofs
theorem dsee (l : List Decl) : l.length ≤ (l.map Decl.cells).length ∧ declsT l = .lst 3 32 ((l.map Decl.cells).take l.length) :=
  ⟨Nat.le_of_eq (List.length_map ..).symm, congrArg (Tr.lst 3 32) (List.take_of_length_le (Nat.le_of_eq (List.length_map ..))).symm⟩
theorem rProgram (r : Rd) (hL : r.l.length ≤ 65536) (hi : r.i ≤ r.l.length) :
    K 8 [.ptr 0 0] [rdB r] (.ret (programL (r.l.length + 1) [] [] r).1.av) [some (rdB (programL (r.l.length + 1) [] [] r).2)] := by
  refine Ctr.of hT hmix Tryz.func8 rfl (fun _ _ => by kernel_rfl) rfl fun hok => ?_
  clear hok
  generalize hG : programL (r.l.length + 1) [] [] r = G
  obtain ⟨⟨gs, gl, gt⟩, gr⟩ := G
  conv => whnf
  refine LoopL.by (fun x : Nat × List Decl × List Decl × Rd => ⟨[(0, .ptr 0 0), (2, .ptr 1 0), (3, .ptr 2 0)], [(0, rdB x.2.2.2), (1, .cells 25 [.tr tnil, .tr tnil, .tr tnil]), (2, .cells 25 [.sl 3 x.2.1.length, .sl 4 x.2.2.1.length, .tr tnil]), (3, .vec 64 3 32 (x.2.1.map Decl.cells)), (4, .vec 64 3 32 (x.2.2.1.map Decl.cells))], 5⟩)
    (fun x => r.l.length + 1 ≤ x.1 + x.2.2.2.i ∧ x.2.1.length ≤ 65537 * x.2.2.2.i ∧ x.2.2.1.length ≤ 65537 * x.2.2.2.i ∧ x.2.2.2.l = r.l ∧ x.2.2.2.i ≤ r.l.length ∧ programL x.1 x.2.1 x.2.2.1 x.2.2.2 = (⟨gs, gl, gt⟩, gr)) (fun x => x.1)
    (r.l.length + 1, [], [], r) [0, 1, 3] [3, 4] (Sub.mk' rfl (by repeat' (first | exact trivial | exact Or.inl (ti_succ (by assumption) (by assumption)) | exact Or.inl rfl | exact rfl | exact Nat.le_refl _ | apply And.intro)) ⟨(by repeat' (first | exact trivial | exact Or.inl (ti_succ (by assumption) (by assumption)) | exact Or.inl rfl | exact rfl | exact Nat.le_refl _ | apply And.intro)), (by repeat' (first | exact trivial | exact Or.inl (ti_succ (by assumption) (by assumption)) | exact Or.inl rfl | exact rfl | exact Nat.le_refl _ | apply And.intro)), ⟨rfl, ⟨rfl, rfl, rfl, rfl⟩, ⟨rfl, rfl, rfl, rfl⟩, .inl rfl, trivial⟩, ⟨rfl, 64, 3, 32, rfl, by omega⟩, ⟨rfl, 64, 3, 32, rfl, by omega⟩, trivial⟩ rfl rfl) ⟨by show r.l.length + 1 ≤ r.l.length + 1 + r.i; omega, Nat.zero_le _, Nat.zero_le _, rfl, hi, hG⟩ ?_
  rintro ⟨f, sh, lo, r2⟩ ⟨i1, i6, i7, i2, i4, i5⟩ -
  have i1 : r.l.length + 1 ≤ f + r2.i := i1
  have i6 : sh.length ≤ 65537 * r2.i := i6
  have i7 : lo.length ≤ 65537 * r2.i := i7
  have i2 : r2.l = r.l := i2
  have i4 : r2.i ≤ r.l.length := i4
  obtain ⟨f, rfl⟩ : ∃ g, f = g + 1 := ⟨f - 1, by omega⟩
  have i5 : (bif r2.ok then (bif r2.takes wShared then programL f (sh ++ (listG itS r2.step).1) lo (listG itS r2.step).2
      else bif r2.takes wLock then programL f sh (lo ++ (listG itN r2.step).1) (listG itN r2.step).2
      else (⟨sh, lo, (threadsL (r2.l.length + 1) [] r2).1⟩, (threadsL (r2.l.length + 1) [] r2).2)) else (⟨sh, lo, []⟩, r2)) = (⟨gs, gl, gt⟩, gr) := i5
  have hsl : (sh.map Decl.cells).length = sh.length := List.length_map ..
  have hll : (lo.map Decl.cells).length = lo.length := List.length_map ..
  conv => whnf
  refine acall.gen [0] [] _ _ _ _ (rOk r2) rfl rfl rfl rfl (by repeat' (first | exact trivial | exact Or.inl (ti_succ (by assumption) (by assumption)) | exact Or.inl rfl | exact rfl | exact Nat.le_refl _ | apply And.intro)) (by repeat' (first | exact trivial | exact Or.inl (ti_succ (by assumption) (by assumption)) | exact Or.inl rfl | exact rfl | exact Nat.le_refl _ | apply And.intro)) rfl rfl fun _ => ?_
  conv => whnf
  cases h1 : r2.ok with
  | false =>
    rw [h1] at i5
    cases i5
    conv => whnf
    refine ⟨fun _ => ?_, fun h => absurd rfl h⟩
    conv => whnf
    exact ⟨⟨⟨rfl, dsee _⟩, ⟨rfl, dsee _⟩, .inr ⟨rfl, _, _, rfl⟩, trivial⟩, (by repeat' (first | exact trivial | exact Or.inl (ti_succ (by assumption) (by assumption)) | exact Or.inl rfl | exact rfl | exact Nat.le_refl _ | apply And.intro))⟩
  | true =>
  rw [h1, cond_true] at i5
  conv => whnf
  refine acall.gen [0] [] _ _ _ _ (rTake r2 wShared) rfl rfl rfl rfl (by repeat' (first | exact trivial | exact Or.inl (ti_succ (by assumption) (by assumption)) | exact Or.inl rfl | exact rfl | exact Nat.le_refl _ | apply And.intro)) (by repeat' (first | exact trivial | exact Or.inl (ti_succ (by assumption) (by assumption)) | exact Or.inl rfl | exact rfl | exact Nat.le_refl _ | apply And.intro)) rfl rfl fun _ => ?_
  conv => whnf
  cases h2 : r2.takes wShared with
  | true =>
    rw [h2, cond_true] at i5
    have hs : r2.take wShared = r2.step := by unfold Rd.take; rw [h2]; rfl
    have hlt := takes_lt h2
    rw [i2] at hlt
    rw [hs]
    have hk5 := rShared r2.step (by show r2.l.length ≤ 65536; rw [i2]; exact hL) (by show r2.i + 1 ≤ r2.l.length; rw [i2]; exact hlt)
    have hg5 := listG_goes itS_goes r2.step
    have hl5 := listG_len (it := itS) r2.step
    generalize listG itS r2.step = y at *
    obtain ⟨nl, r6⟩ := y
    have y1 : r6.l = r2.l := hg5.l
    have y2 : r2.i + 1 ≤ r6.i := hg5.i
    have y3 : r6.i ≤ r2.l.length := hg5.n (by show r2.i + 1 ≤ r2.l.length; rw [i2]; exact hlt)
    have y4 : nl.length ≤ r2.l.length + 1 := hl5
    rw [i2] at y1 y3 y4
    conv => whnf
    refine acall.gen [0] [] _ _ _ _ (hk5) rfl rfl rfl rfl (by repeat' (first | exact trivial | exact Or.inl (ti_succ (by assumption) (by assumption)) | exact Or.inl rfl | exact rfl | exact Nat.le_refl _ | apply And.intro)) (by repeat' (first | exact trivial | exact Or.inl (ti_succ (by assumption) (by assumption)) | exact Or.inl rfl | exact rfl | exact Nat.le_refl _ | apply And.intro)) rfl rfl ?_
    conv => whnf
    refine ⟨rfl, rfl, rfl, Nat.le_of_eq hsl.symm, by show (sh.length + (nl.map Decl.cells).length) * 32 ≤ 140737488351232; rw [List.length_map]; omega, fun q hq => (by cases hq), ?_⟩
    conv => whnf
    refine ⟨by kernel_rfl, fun _ => ?_⟩
    conv => whnf
    exact ⟨(f, sh ++ nl, lo, r6), [0, 1, 2, 14, 4], [], Sub.mk' rfl (by repeat' (first | exact trivial | exact Or.inl (ti_succ (by assumption) (by assumption)) | exact Or.inl rfl | exact rfl | exact Nat.le_refl _ | apply And.intro)) ⟨(by repeat' (first | exact trivial | exact Or.inl (ti_succ (by assumption) (by assumption)) | exact Or.inl rfl | exact rfl | exact Nat.le_refl _ | apply And.intro)), (by repeat' (first | exact trivial | exact Or.inl (ti_succ (by assumption) (by assumption)) | exact Or.inl rfl | exact rfl | exact Nat.le_refl _ | apply And.intro)), ⟨rfl, ⟨rfl, by show sh.length + (nl.map Decl.cells).length = (sh ++ nl).length; rw [List.length_append, List.length_map]⟩, ⟨rfl, rfl⟩, .inl rfl, trivial⟩, ⟨rfl, rfl, rfl, drows_app2 sh nl⟩, (by repeat' (first | exact trivial | exact Or.inl (ti_succ (by assumption) (by assumption)) | exact Or.inl rfl | exact rfl | exact Nat.le_refl _ | apply And.intro)), trivial⟩ rfl rfl,
      ⟨by show r.l.length + 1 ≤ f + r6.i; omega, by show (sh ++ nl).length ≤ 65537 * r6.i; rw [List.length_append]; omega, by show lo.length ≤ 65537 * r6.i; omega, y1, y3, i5⟩, Nat.lt_succ_self f⟩
  | false =>
  rw [h2, cond_false] at i5
  have hs2 : r2.take wShared = r2 := by unfold Rd.take; rw [h2]; rfl
  rw [hs2]
  conv => whnf
  refine acall.gen [0] [] _ _ _ _ (rTake r2 wLock) rfl rfl rfl rfl (by repeat' (first | exact trivial | exact Or.inl (ti_succ (by assumption) (by assumption)) | exact Or.inl rfl | exact rfl | exact Nat.le_refl _ | apply And.intro)) (by repeat' (first | exact trivial | exact Or.inl (ti_succ (by assumption) (by assumption)) | exact Or.inl rfl | exact rfl | exact Nat.le_refl _ | apply And.intro)) rfl rfl fun _ => ?_
  conv => whnf
  cases h3 : r2.takes wLock with
  | true =>
    rw [h3, cond_true] at i5
    have hs : r2.take wLock = r2.step := by unfold Rd.take; rw [h3]; rfl
    have hlt := takes_lt h3
    rw [i2] at hlt
    rw [hs]
    have hk5 := rNames r2.step (by show r2.l.length ≤ 65536; rw [i2]; exact hL) (by show r2.i + 1 ≤ r2.l.length; rw [i2]; exact hlt)
    have hg5 := listG_goes itN_goes r2.step
    have hl5 := listG_len (it := itN) r2.step
    generalize listG itN r2.step = y at *
    obtain ⟨nl, r6⟩ := y
    have y1 : r6.l = r2.l := hg5.l
    have y2 : r2.i + 1 ≤ r6.i := hg5.i
    have y3 : r6.i ≤ r2.l.length := hg5.n (by show r2.i + 1 ≤ r2.l.length; rw [i2]; exact hlt)
    have y4 : nl.length ≤ r2.l.length + 1 := hl5
    rw [i2] at y1 y3 y4
    conv => whnf
    refine acall.gen [0] [] _ _ _ _ (hk5) rfl rfl rfl rfl (by repeat' (first | exact trivial | exact Or.inl (ti_succ (by assumption) (by assumption)) | exact Or.inl rfl | exact rfl | exact Nat.le_refl _ | apply And.intro)) (by repeat' (first | exact trivial | exact Or.inl (ti_succ (by assumption) (by assumption)) | exact Or.inl rfl | exact rfl | exact Nat.le_refl _ | apply And.intro)) rfl rfl ?_
    conv => whnf
    refine ⟨rfl, rfl, rfl, Nat.le_of_eq hll.symm, by show (lo.length + (nl.map Decl.cells).length) * 32 ≤ 140737488351232; rw [List.length_map]; omega, fun q hq => (by cases hq), ?_⟩
    conv => whnf
    refine ⟨by kernel_rfl, fun _ => ?_⟩
    conv => whnf
    exact ⟨(f, sh, lo ++ nl, r6), [0, 1, 2, 3, 17], [], Sub.mk' rfl (by repeat' (first | exact trivial | exact Or.inl (ti_succ (by assumption) (by assumption)) | exact Or.inl rfl | exact rfl | exact Nat.le_refl _ | apply And.intro)) ⟨(by repeat' (first | exact trivial | exact Or.inl (ti_succ (by assumption) (by assumption)) | exact Or.inl rfl | exact rfl | exact Nat.le_refl _ | apply And.intro)), (by repeat' (first | exact trivial | exact Or.inl (ti_succ (by assumption) (by assumption)) | exact Or.inl rfl | exact rfl | exact Nat.le_refl _ | apply And.intro)), ⟨rfl, ⟨rfl, rfl⟩, ⟨rfl, by show lo.length + (nl.map Decl.cells).length = (lo ++ nl).length; rw [List.length_append, List.length_map]⟩, .inl rfl, trivial⟩, (by repeat' (first | exact trivial | exact Or.inl (ti_succ (by assumption) (by assumption)) | exact Or.inl rfl | exact rfl | exact Nat.le_refl _ | apply And.intro)), ⟨rfl, rfl, rfl, drows_app2 lo nl⟩, trivial⟩ rfl rfl,
      ⟨by show r.l.length + 1 ≤ f + r6.i; omega, by show sh.length ≤ 65537 * r6.i; omega, by show (lo ++ nl).length ≤ 65537 * r6.i; rw [List.length_append]; omega, y1, y3, i5⟩, Nat.lt_succ_self f⟩
  | false =>
  rw [h3, cond_false] at i5
  have hs3 : r2.take wLock = r2 := by unfold Rd.take; rw [h3]; rfl
  rw [hs3]
  have hk := rThreads sh lo r2 (by rw [i2]; exact hL) (by rw [i2]; exact i4)
  generalize threadsL (r2.l.length + 1) [] r2 = y at *
  obtain ⟨th, r6⟩ := y
  cases i5
  conv => whnf
  refine acall.gen [0] [3, 4] _ _ _ _ hk rfl rfl rfl rfl ⟨⟨rfl, rfl⟩, ⟨⟨rfl, dsee _⟩, ⟨rfl, dsee _⟩, .inl rfl, trivial⟩, trivial⟩ (by repeat' (first | exact trivial | exact Or.inl (ti_succ (by assumption) (by assumption)) | exact Or.inl rfl | exact rfl | exact Nat.le_refl _ | apply And.intro)) rfl rfl fun _ => ?_
  conv => whnf
  exact ⟨(by repeat' (first | exact trivial | exact Or.inl (ti_succ (by assumption) (by assumption)) | exact Or.inl rfl | exact rfl | exact Nat.le_refl _ | apply And.intro)), (by repeat' (first | exact trivial | exact Or.inl (ti_succ (by assumption) (by assumption)) | exact Or.inl rfl | exact rfl | exact Nat.le_refl _ | apply And.intro))⟩
end Go.Proofs.YtbpcbhmdjphodaaGreat.am

namespace Go.Proofs.YtbpcbhmdjphodaaGreat.am
open Go
theorem chI_at {s : ByteArray} {i : Nat} {b : UInt8} (h : s[i]? = some b) : chI s i = b.toNat := by unfold chI; rw [h]
/-- the end of what is so from a place on -/
def runN (p : Int → Bool) (s : ByteArray) : Nat → Nat → Nat
  | 0, i => i
  | f + 1, i => bif decide (i < s.size) && p (chI s i) then runN p s f (i + 1) else i
def runS (p : Int → Bool) (s : ByteArray) (i : Nat) : Nat := runN p s (s.size + 1) i
theorem runN_le (p : Int → Bool) (s : ByteArray) : ∀ (f i : Nat), i ≤ runN p s f i ∧ (i ≤ s.size → runN p s f i ≤ s.size)
  | 0, i => ⟨Nat.le_refl _, id⟩
  | f + 1, i => by
    unfold runN
    cases h : (decide (i < s.size) && p (chI s i)) with
    | false => exact ⟨Nat.le_refl _, id⟩
    | true =>
      rw [Bool.and_eq_true, decide_eq_true_eq] at h
      obtain ⟨h1, h2⟩ := runN_le p s f (i + 1)
      exact ⟨by rw [cond_true]; omega, fun _ => h2 h.1⟩
theorem runS_lt {p : Int → Bool} {s : ByteArray} {i : Nat} (hi : i < s.size) (hp : p (chI s i) = true) : i < runS p s i ∧ runS p s i ≤ s.size := by
  unfold runS runN
  rw [decide_eq_true hi, hp]
  obtain ⟨h1, h2⟩ := runN_le p s s.size (i + 1)
  exact ⟨h1, h2 hi⟩
def notLf (c : Int) : Bool := c != 10
def wordC (c : Int) : Bool := letB c || digB c
def skipN (s : ByteArray) : Nat → Nat → Nat
  | 0, i => i
  | f + 1, i => bif decide (i < s.size) then (bif blankB (chI s i) then skipN s f (i + 1) else bif (chI s i != 47) || decide (i + 1 ≥ s.size) || (chI s (i + 1) != 47) then i else skipN s f (runS notLf s i)) else i
def skipS (s : ByteArray) (i : Nat) : Nat := skipN s (s.size + 1) i
theorem skipN_le (s : ByteArray) : ∀ (f i : Nat), i ≤ skipN s f i ∧ (i ≤ s.size → skipN s f i ≤ s.size)
  | 0, i => ⟨Nat.le_refl _, id⟩
  | f + 1, i => by
    unfold skipN
    cases h : decide (i < s.size) with
    | false => exact ⟨Nat.le_refl _, id⟩
    | true =>
      rw [cond_true]
      cases blankB (chI s i) with
      | true =>
        obtain ⟨h1, h2⟩ := skipN_le s f (i + 1)
        exact ⟨by rw [cond_true]; omega, fun _ => h2 (of_decide_eq_true h)⟩
      | false =>
        rw [cond_false]
        cases ((chI s i != 47) || decide (i + 1 ≥ s.size) || (chI s (i + 1) != 47)) with
        | true => exact ⟨Nat.le_refl _, id⟩
        | false =>
          obtain ⟨h1, h2⟩ := skipN_le s f (runS notLf s i)
          obtain ⟨g1, g2⟩ := runN_le notLf s (s.size + 1) i
          exact ⟨Nat.le_trans g1 h1, fun q => h2 (g2 q)⟩
def numD (c : Int) : Int := IntKind.u64.wrap (IntKind.u8.wrap (c - 48))
def numStop (c n : Int) : Bool := !digB c || decide (n > IntKind.u64.wrap ((IntKind.u64.wrap (9223372036854775807 - numD c)).tdiv 10))
def numN (s : ByteArray) : Nat → Nat → Int → Int × Bool
  | 0, _, n => (IntKind.i64.wrap n, true)
  | f + 1, i, n => bif decide (i < s.size) then (bif numStop (chI s i) n then (0, false) else numN s f (i + 1) (IntKind.u64.wrap (IntKind.u64.wrap (10 * n) + numD (chI s i)))) else (IntKind.i64.wrap n, true)
def numS (s : ByteArray) : Int × Bool := bif noS s || ((chI s 0 == 48) && decide ((s.size : Int) > 1)) then (0, false) else numN s (s.size + 1) 0 0
end Go.Proofs.YtbpcbhmdjphodaaGreat.am

namespace Go.Proofs.YtbpcbhmdjphodaaGreat.am
open Go Go.Proofs
theorem rSkip (s : ByteArray) (i : Nat) (hi : i ≤ s.size) : K 54 [.tr (ts s), .tr (ti i)] [] (.ret (.tr (ti (skipS s i)))) [] := by
  refine Ctr.of hT hmix Tryz.func54 rfl (fun _ _ => by kernel_rfl) rfl fun hok => ?_
  have hsz := (hok.slot 0 rfl).tr.str
  clear hok
  conv => whnf
  refine LoopL.by (fun x : Nat × Nat => ⟨[(0, .tr (ts s)), (1, .tr (ti x.2))], [], 0⟩)
    (fun x => s.size + 1 ≤ x.1 + x.2 ∧ x.2 ≤ s.size ∧ skipN s x.1 x.2 = skipS s i) (fun x => x.1) (s.size + 1, i) [] [] (Sub.mk' rfl (by repeat' (first | exact trivial | exact Or.inl (ti_succ (by assumption) (by assumption)) | exact Or.inl rfl | exact rfl | exact Nat.le_refl _ | apply And.intro)) trivial rfl rfl) ⟨by show s.size + 1 ≤ s.size + 1 + i; omega, hi, rfl⟩ ?_
  rintro ⟨f, k⟩ ⟨j1, j2, j3⟩ -
  have j1 : s.size + 1 ≤ f + k := j1
  have j2 : k ≤ s.size := j2
  obtain ⟨f, rfl⟩ : ∃ g, f = g + 1 := ⟨f - 1, by omega⟩
  have j3 : (bif decide (k < s.size) then (bif blankB (chI s k) then skipN s f (k + 1) else bif (chI s k != 47) || decide (k + 1 ≥ s.size) || (chI s (k + 1) != 47) then k else skipN s f (runS notLf s k)) else k) = skipS s i := j3
  conv => whnf
  refine csplit (fun hlt => ?_) (fun hge => ?_)
  · have hlt : k < s.size := by have := of_decide_eq_true hlt; omega
    have hw : IntKind.i64.wrap ((k : Int) + 1) = ((k + 1 : Nat) : Int) := by rw [w64 (by omega) (by omega)]; rfl
    rw [decide_eq_true hlt, cond_true] at j3
    conv => whnf
    refine ⟨by omega, by omega, fun b hb => ?_⟩
    have hc : chI s k = b.toNat := chI_at hb
    rw [hc] at j3
    conv => whnf
    refine acall.pure _ (rBlank b.toNat) rfl rfl fun _ => ?_
    conv => whnf
    refine csplit (fun h1 => ?_) (fun h1 => ?_)
    · rw [show blankB b.toNat = true from h1] at j3
      conv => whnf
      refine ⟨fun _ => ?_, fun h => absurd rfl h⟩
      conv => whnf
      exact ⟨(f, k + 1), [], [], Sub.mk' rfl ⟨.inl rfl, .inl (congrArg (fun z => Tr.v (.int .i64 z)) hw), trivial⟩ trivial rfl rfl, ⟨by show s.size + 1 ≤ f + (k + 1); omega, hlt, j3⟩, Nat.lt_succ_self f⟩
    · rw [show blankB b.toNat = false from h1, cond_false] at j3
      conv => whnf
      refine ⟨by omega, by omega, fun b' hb' => ?_⟩
      obtain rfl : b' = b := Option.some.inj (hb'.symm.trans hb)
      conv => whnf
      refine csplit (fun h2 => ?_) (fun h2 => ?_)
      · have h2 : ((b'.toNat : Int) != 47) = true := h2
        rw [h2] at j3
        conv => whnf
        exact ⟨Or.inl (congrArg ti (by rw [← j3]; rfl)), trivial⟩
      · have h2 : ((b'.toNat : Int) != 47) = false := h2
        rw [h2, Bool.false_or] at j3
        conv => whnf
        refine csplit (fun h3 => ?_) (fun h3 => ?_)
        · have h3 : decide (k + 1 ≥ s.size) = true := decide_eq_true (by have := of_decide_eq_true h3; rw [hw] at this; omega)
          rw [h3] at j3
          conv => whnf
          exact ⟨Or.inl (congrArg ti (by rw [← j3]; rfl)), trivial⟩
        · have h3' : k + 1 < s.size := by have := of_decide_eq_false h3; rw [hw] at this; omega
          rw [show decide (k + 1 ≥ s.size) = false from decide_eq_false (by omega), Bool.false_or] at j3
          conv => whnf
          refine ⟨by show 0 ≤ IntKind.i64.wrap ((k : Int) + 1); omega, by show IntKind.i64.wrap ((k : Int) + 1) < (s.size : Int); omega, fun b2 hb2 => ?_⟩
          have hc2 : chI s (k + 1) = b2.toNat := chI_at (by rw [show (IntKind.i64.wrap ((k : Int) + 1)).toNat = k + 1 by rw [hw]; rfl] at hb2; exact hb2)
          rw [hc2] at j3
          conv => whnf
          refine csplit (fun h4 => ?_) (fun h4 => ?_)
          · have h4 : ((b2.toNat : Int) != 47) = true := h4
            rw [h4] at j3
            conv => whnf
            exact ⟨Or.inl (congrArg ti (by rw [← j3]; rfl)), trivial⟩
          · have h4 : ((b2.toNat : Int) != 47) = false := h4
            rw [h4, cond_false] at j3
            conv => whnf
            refine LoopL.by (fun x : Nat × Nat => ⟨[(0, .tr (ts s)), (1, .tr (ti x.2))], [], 0⟩)
              (fun x => s.size + 1 ≤ x.1 + x.2 ∧ x.2 ≤ s.size ∧ runN notLf s x.1 x.2 = runS notLf s k) (fun x => x.1) (s.size + 1, k) [] [] (Sub.mk' rfl (by repeat' (first | exact trivial | exact Or.inl (ti_succ (by assumption) (by assumption)) | exact Or.inl rfl | exact rfl | exact Nat.le_refl _ | apply And.intro)) trivial rfl rfl) ⟨by show s.size + 1 ≤ s.size + 1 + k; omega, j2, rfl⟩ ?_
            rintro ⟨g, l⟩ ⟨l1, l2, l3⟩ -
            have l1 : s.size + 1 ≤ g + l := l1
            have l2 : l ≤ s.size := l2
            obtain ⟨g, rfl⟩ : ∃ q, g = q + 1 := ⟨g - 1, by omega⟩
            have l3 : (bif decide (l < s.size) && notLf (chI s l) then runN notLf s g (l + 1) else l) = runS notLf s k := l3
            have hend : l = runS notLf s k → s.size + 1 ≤ f + l ∧ skipN s f l = skipS s i := fun e => by
              have hr := runS_lt (p := notLf) hlt (by rw [hc, show (b'.toNat : Int) = 47 from (by simpa using h2)]; decide)
              exact ⟨by rw [e]; omega, by rw [e]; exact j3⟩
            conv => whnf
            refine csplit (fun m1 => ?_) (fun m1 => ?_)
            · have m1 : l < s.size := by have := of_decide_eq_true m1; omega
              have hw2 : IntKind.i64.wrap ((l : Int) + 1) = ((l + 1 : Nat) : Int) := by rw [w64 (by omega) (by omega)]; rfl
              rw [decide_eq_true m1, Bool.true_and] at l3
              conv => whnf
              refine ⟨by omega, by omega, fun b3 hb3 => ?_⟩
              have hc3 : chI s l = b3.toNat := chI_at hb3
              rw [hc3] at l3
              conv => whnf
              refine csplit (fun m2 => ?_) (fun m2 => ?_)
              · rw [show notLf b3.toNat = true from m2] at l3
                conv => whnf
                exact ⟨(g, l + 1), [], [], Sub.mk' rfl ⟨.inl rfl, .inl (congrArg (fun z => Tr.v (.int .i64 z)) hw2), trivial⟩ trivial rfl rfl, ⟨by show s.size + 1 ≤ g + (l + 1); omega, m1, l3⟩, Nat.lt_succ_self g⟩
              · rw [show notLf b3.toNat = false from m2] at l3
                obtain ⟨q1, q2⟩ := hend l3
                conv => whnf
                refine ⟨fun _ => ?_, fun h => absurd rfl h⟩
                conv => whnf
                exact ⟨(f, l), [], [], Sub.mk' rfl ⟨.inl rfl, .inl rfl, trivial⟩ trivial rfl rfl, ⟨q1, l2, q2⟩, Nat.lt_succ_self f⟩
            · rw [show decide (l < s.size) = false from decide_eq_false (by have := of_decide_eq_false m1; omega)] at l3
              obtain ⟨q1, q2⟩ := hend l3
              conv => whnf
              refine ⟨fun _ => ?_, fun h => absurd rfl h⟩
              conv => whnf
              exact ⟨(f, l), [], [], Sub.mk' rfl ⟨.inl rfl, .inl rfl, trivial⟩ trivial rfl rfl, ⟨q1, l2, q2⟩, Nat.lt_succ_self f⟩
  · have hge : ¬ k < s.size := by have := of_decide_eq_false hge; omega
    rw [decide_eq_false hge] at j3
    conv => whnf
    refine ⟨fun _ => ?_, fun h => absurd rfl h⟩
    conv => whnf
    exact ⟨Or.inl (congrArg ti (by rw [← j3]; rfl)), trivial⟩
theorem rNumber (s : ByteArray) : K 75 [.tr (ts s)] [] (.ret (.tup [.tr (ti (numS s).1), .tr (tb (numS s).2)])) [] := by
  refine Ctr.cut [3] hT hmix Tryz.func75 rfl (fun _ _ => by kernel_rfl) rfl fun hok => ?_
  have hsz := (hok.slot 0 rfl).tr.str
  clear hok
  have hno := noS_size s
  generalize hG : numS s = G
  obtain ⟨ga, gb⟩ := G
  unfold numS at hG
  conv => whnf
  refine CutL.by (fun _ : Unit => ⟨[(0, .tr (ts s))], [], 0⟩) (fun _ => numN s (s.size + 1) 0 0 = (ga, gb)) ?_ ?_
  · conv => whnf
    refine csplit (fun h1 => ?_) (fun h1 => ?_)
    · rw [show noS s = true from h1] at hG
      cases hG
      conv => whnf
      exact ⟨⟨Or.inl rfl, Or.inl rfl, trivial⟩, trivial⟩
    have h1 : noS s = false := h1
    rw [h1, Bool.false_or] at hG
    have hpos : 0 < s.size := by rw [h1] at hno; have := of_decide_eq_false hno.symm; omega
    conv => whnf
    refine ⟨by omega, by omega, fun b hb => ?_⟩
    rw [chI_at (show s[0]? = some b from hb)] at hG
    conv => whnf
    refine csplit (fun h2 => ?_) (fun h2 => ?_)
    · have h2 : ((b.toNat : Int) == 48) = true := h2
      rw [h2, Bool.true_and] at hG
      conv => whnf
      refine csplit (fun h3 => ?_) (fun h3 => ?_)
      · rw [show decide ((s.size : Int) > 1) = true from h3] at hG
        cases hG
        conv => whnf
        exact ⟨⟨Or.inl rfl, Or.inl rfl, trivial⟩, trivial⟩
      · rw [show decide ((s.size : Int) > 1) = false from h3] at hG
        conv => whnf
        exact ⟨(), [], [], Sub.mk' rfl (by repeat' (first | exact trivial | exact Or.inl (ti_succ (by assumption) (by assumption)) | exact Or.inl rfl | exact rfl | exact Nat.le_refl _ | apply And.intro)) trivial rfl rfl, hG⟩
    · have h2 : ((b.toNat : Int) == 48) = false := h2
      rw [h2] at hG
      conv => whnf
      exact ⟨(), [], [], Sub.mk' rfl (by repeat' (first | exact trivial | exact Or.inl (ti_succ (by assumption) (by assumption)) | exact Or.inl rfl | exact rfl | exact Nat.le_refl _ | apply And.intro)) trivial rfl rfl, hG⟩
  rintro _ hG -
  have hG : numN s (s.size + 1) 0 0 = (ga, gb) := hG
  conv => whnf
  refine LoopL.by (fun x : Nat × Nat × Int => ⟨[(0, .tr (ts s)), (4, .tr (.v (.int .u64 x.2.2))), (5, .tr (ti x.2.1))], [], 0⟩)
    (fun x => s.size + 1 ≤ x.1 + x.2.1 ∧ x.2.1 ≤ s.size ∧ numN s x.1 x.2.1 x.2.2 = (ga, gb)) (fun x => x.1) (s.size + 1, 0, 0) [] [] (Sub.mk' rfl (by repeat' (first | exact trivial | exact Or.inl (ti_succ (by assumption) (by assumption)) | exact Or.inl rfl | exact rfl | exact Nat.le_refl _ | apply And.intro)) trivial rfl rfl) ⟨Nat.le_refl _, Nat.zero_le _, hG⟩ ?_
  rintro ⟨f, k, n⟩ ⟨j1, j2, j3⟩ -
  have j1 : s.size + 1 ≤ f + k := j1
  have j2 : k ≤ s.size := j2
  obtain ⟨f, rfl⟩ : ∃ g, f = g + 1 := ⟨f - 1, by omega⟩
  have j3 : (bif decide (k < s.size) then (bif numStop (chI s k) n then (0, false) else numN s f (k + 1) (IntKind.u64.wrap (IntKind.u64.wrap (10 * n) + numD (chI s k)))) else (IntKind.i64.wrap n, true)) = (ga, gb) := j3
  conv => whnf
  refine csplit (fun hlt => ?_) (fun hge => ?_)
  · have hlt : k < s.size := by have q : (k : Int) < (s.size : Int) := of_decide_eq_true hlt; omega
    have hw : IntKind.i64.wrap ((k : Int) + 1) = ((k + 1 : Nat) : Int) := by rw [w64 (by omega) (by omega)]; rfl
    rw [decide_eq_true hlt, cond_true] at j3
    conv => whnf
    refine ⟨by show (0 : Int) ≤ (k : Int); omega, by show (k : Int) < (s.size : Int); omega, fun b hb => ?_⟩
    have hc : chI s k = b.toNat := chI_at hb
    rw [hc] at j3
    conv => whnf
    refine ⟨by show (0 : Int) ≤ (k : Int); omega, by show (k : Int) < (s.size : Int); omega, fun b' hb' => ?_⟩
    obtain rfl : b' = b := Option.some.inj (hb'.symm.trans hb)
    conv => whnf
    refine acall.pure _ (k76 b'.toNat) rfl rfl fun _ => ?_
    conv => whnf
    refine csplit (fun h1 => ?_) (fun h1 => ?_)
    · rw [show numStop b'.toNat n = true by unfold numStop; rw [show (!digB b'.toNat) = true from h1]; rfl] at j3
      cases j3
      conv => whnf
      exact ⟨⟨Or.inl rfl, Or.inl rfl, trivial⟩, trivial⟩
    · have h1 : (!digB b'.toNat) = false := h1
      conv => whnf
      refine ⟨by decide, ?_⟩
      conv => whnf
      refine csplit (fun h2 => ?_) (fun h2 => ?_)
      · rw [show numStop b'.toNat n = true by unfold numStop; rw [h1]; exact h2] at j3
        cases j3
        conv => whnf
        exact ⟨⟨Or.inl rfl, Or.inl rfl, trivial⟩, trivial⟩
      · rw [show numStop b'.toNat n = false by unfold numStop; rw [h1]; exact h2, cond_false] at j3
        conv => whnf
        exact ⟨(f, k + 1, _), [], [], Sub.mk' rfl ⟨.inl rfl, .inl rfl, .inl (congrArg (fun z => Tr.v (.int .i64 z)) hw), trivial⟩ trivial rfl rfl, ⟨by show s.size + 1 ≤ f + (k + 1); omega, hlt, j3⟩, Nat.lt_succ_self f⟩
  · have hge : ¬ k < s.size := by have q : ¬ (k : Int) < (s.size : Int) := of_decide_eq_false hge; omega
    rw [decide_eq_false hge] at j3
    cases j3
    conv => whnf
    refine ⟨fun _ => ?_, fun h => absurd rfl h⟩
    conv => whnf
    exact ⟨⟨Or.inl rfl, Or.inl rfl, trivial⟩, trivial⟩
end Go.Proofs.YtbpcbhmdjphodaaGreat.am

namespace Go.Proofs.YtbpcbhmdjphodaaGreat.am
open Go
abbrev tok0 : Tok := ⟨0, ⟨#[]⟩, 0, 0⟩
def oneF (s : ByteArray) (a : Nat) : Tok × Int × Int :=
  bif letB (chI s a) then
    (bif decide (((runS wordC s a : Nat) : Int) - a > 32) then (⟨bif wordB (s.extract a (runS wordC s a)) then 2 else 1, s.extract a (runS wordC s a), 0, a⟩, 2, (a : Int) + 32)
    else (⟨bif wordB (s.extract a (runS wordC s a)) then 2 else 1, s.extract a (runS wordC s a), 0, a⟩, 0, 0))
  else bif digB (chI s a) then
    (bif !(numS (s.extract a (runS digB s a))).2 then (tok0, 3, a)
    else bif decide (runS digB s a < s.size) && letB (chI s (runS digB s a)) then (tok0, 4, runS digB s a)
    else (⟨3, s.extract a (runS digB s a), (numS (s.extract a (runS digB s a))).1, a⟩, 0, 0))
  else bif decide (a + 2 ≤ s.size) && signB (s.extract a (a + 2)) then (⟨4, s.extract a (a + 2), 0, a⟩, 0, 0)
  else bif signB (s.extract a (a + 1)) then (⟨4, s.extract a (a + 1), 0, a⟩, 0, 0)
  else (tok0, 1, a)
theorem ext_size {s : ByteArray} {a e : Nat} (h1 : a < e) (h2 : e ≤ s.size) : 1 ≤ (s.extract a e).size ∧ a + (s.extract a e).size ≤ s.size := by
  rw [ByteArray.size_extract]; omega
theorem oneF_ok {s : ByteArray} {a : Nat} (ha : a < s.size) (h : (oneF s a).2.1 = 0) : 1 ≤ (oneF s a).1.text.size ∧ a + (oneF s a).1.text.size ≤ s.size := by
  unfold oneF at h ⊢
  cases h1 : letB (chI s a) with
  | true =>
    rw [h1, cond_true] at h
    rw [cond_true]
    obtain ⟨e1, e2⟩ := runS_lt (p := wordC) ha (by unfold wordC; rw [h1]; rfl)
    cases h2 : decide (((runS wordC s a : Nat) : Int) - a > 32) with
    | true => rw [h2] at h; exact absurd (show (2 : Int) = 0 from h) (by decide)
    | false => exact ext_size e1 e2
  | false =>
  rw [h1, cond_false] at h
  rw [cond_false]
  cases h2 : digB (chI s a) with
  | true =>
    rw [h2, cond_true] at h
    rw [cond_true]
    obtain ⟨e1, e2⟩ := runS_lt (p := digB) ha h2
    cases h3 : (numS (s.extract a (runS digB s a))).2 with
    | false => rw [h3] at h; exact absurd (show (3 : Int) = 0 from h) (by decide)
    | true =>
    rw [h3, Bool.not_true, cond_false] at h
    rw [Bool.not_true, cond_false]
    cases h4 : (decide (runS digB s a < s.size) && letB (chI s (runS digB s a))) with
    | true => rw [h4] at h; exact absurd (show (4 : Int) = 0 from h) (by decide)
    | false => exact ext_size e1 e2
  | false =>
  rw [h2, cond_false] at h
  rw [cond_false]
  cases h3 : (decide (a + 2 ≤ s.size) && signB (s.extract a (a + 2))) with
  | true =>
    rw [Bool.and_eq_true, decide_eq_true_eq] at h3
    exact ext_size (by omega) h3.1
  | false =>
  rw [h3, cond_false] at h
  rw [cond_false]
  cases h4 : signB (s.extract a (a + 1)) with
  | true => exact ext_size (by omega) ha
  | false => rw [h4] at h; exact absurd (show (1 : Int) = 0 from h) (by decide)
/-- the tokens ahead of the first fault -/
def frontL (s : ByteArray) : Nat → List Tok → Nat → List Tok × Int × Int
  | 0, out, _ => (out, 0, 0)
  | f + 1, out, i => bif decide (i < s.size) then (bif decide ((oneF s i).2.1 > 0) then (out, (oneF s i).2.1, (oneF s i).2.2) else frontL s f (out ++ [(oneF s i).1]) (skipS s (i + (oneF s i).1.text.size))) else (out, 0, 0)
def frontS (s : ByteArray) : List Tok × Int × Int := frontL s (s.size + 1) [] (skipS s 0)
end Go.Proofs.YtbpcbhmdjphodaaGreat.am

namespace Go.Proofs.YtbpcbhmdjphodaaGreat.am
open Go Go.Proofs
abbrev tokZ : Blk := .cells 84 [.tr (tu 0), .tr (ts ⟨#[]⟩), .tr (ti 0), .tr (ti 0)]
theorem rOne (s : ByteArray) (a : Nat) (ha : a < s.size) (hs : s.size ≤ 65536) : K 55 [.tr (ts s), .tr (ti a)] [] (.ret (.tup [(oneF s a).1.av, .tr (ti (oneF s a).2.1), .tr (ti (oneF s a).2.2)])) [] := by
  refine Ctr.cut [5, 14, 1000021] hT hmix Tryz.func55 rfl (fun _ _ => by kernel_rfl) rfl fun hok => ?_
  have hsz := (hok.slot 0 rfl).tr.str
  clear hok
  unfold oneF
  conv => whnf
  refine ⟨by omega, by omega, fun b hb => ?_⟩
  have hc : chI s a = b.toNat := chI_at hb
  rw [hc]
  conv => whnf
  refine acall.pure _ (k78 b.toNat) rfl rfl fun _ => ?_
  conv => whnf
  refine csplit (fun h1 => ?_) (fun h1 => ?_)
  · have h1 : letB b.toNat = true := h1
    obtain ⟨e1, e2⟩ := runS_lt (p := wordC) ha (by unfold wordC; rw [hc, h1]; rfl)
    rw [h1, cond_true]
    conv => whnf
    refine CutL.by (fun _ : Unit => ⟨[(0, .tr (ts s)), (1, .tr (ti a)), (4, .ptr 0 0), (7, .tr (ti (runS wordC s a)))], [(0, tokZ)], 1⟩) (fun _ => True) ?_ ?_
    · conv => whnf
      refine LoopL.by (fun x : Nat × Nat => ⟨[(0, .tr (ts s)), (1, .tr (ti a)), (4, .ptr 0 0), (7, .tr (ti x.2))], [(0, tokZ)], 1⟩)
        (fun x => s.size + 1 ≤ x.1 + x.2 ∧ x.2 ≤ s.size ∧ runN wordC s x.1 x.2 = runS wordC s a) (fun x => x.1) (s.size + 1, a) [0] [] (Sub.mk' rfl (by repeat' (first | exact trivial | exact Or.inl (ti_succ (by assumption) (by assumption)) | exact Or.inl rfl | exact rfl | exact Nat.le_refl _ | apply And.intro)) (by repeat' (first | exact trivial | exact Or.inl (ti_succ (by assumption) (by assumption)) | exact Or.inl rfl | exact rfl | exact Nat.le_refl _ | apply And.intro)) rfl rfl) ⟨by show s.size + 1 ≤ s.size + 1 + a; omega, Nat.le_of_lt ha, rfl⟩ ?_
      rintro ⟨g, l⟩ ⟨l1, l2, l3⟩ -
      have l1 : s.size + 1 ≤ g + l := l1
      have l2 : l ≤ s.size := l2
      obtain ⟨g, rfl⟩ : ∃ q, g = q + 1 := ⟨g - 1, by omega⟩
      have l3 : (bif decide (l < s.size) && wordC (chI s l) then runN wordC s g (l + 1) else l) = runS wordC s a := l3
      conv => whnf
      refine csplit (fun m1 => ?_) (fun m1 => ?_)
      · have m1 : l < s.size := by have q : (l : Int) < (s.size : Int) := of_decide_eq_true m1; omega
        have hw2 : IntKind.i64.wrap ((l : Int) + 1) = ((l + 1 : Nat) : Int) := by rw [w64 (by omega) (by omega)]; rfl
        rw [decide_eq_true m1, Bool.true_and] at l3
        conv => whnf
        refine ⟨by show (0 : Int) ≤ (l : Int); omega, by show (l : Int) < (s.size : Int); omega, fun b3 hb3 => ?_⟩
        have hc3 : chI s l = b3.toNat := chI_at hb3
        rw [hc3] at l3
        conv => whnf
        refine acall.pure _ (k78 b3.toNat) rfl rfl fun _ => ?_
        conv => whnf
        refine csplit (fun m2 => ?_) (fun m2 => ?_)
        · rw [show wordC b3.toNat = true by unfold wordC; rw [show letB b3.toNat = true from m2]; rfl] at l3
          conv => whnf
          exact ⟨(g, l + 1), [0], [], Sub.mk' rfl ⟨.inl rfl, .inl rfl, ⟨rfl, rfl⟩, .inl (congrArg (fun z => Tr.v (.int .i64 z)) hw2), trivial⟩ (by repeat' (first | exact trivial | exact Or.inl (ti_succ (by assumption) (by assumption)) | exact Or.inl rfl | exact rfl | exact Nat.le_refl _ | apply And.intro)) rfl rfl, ⟨by show s.size + 1 ≤ g + (l + 1); omega, m1, l3⟩, Nat.lt_succ_self g⟩
        · conv => whnf
          refine ⟨by show (0 : Int) ≤ (l : Int); omega, by show (l : Int) < (s.size : Int); omega, fun b5 hb5 => ?_⟩
          obtain rfl : b5 = b3 := Option.some.inj (hb5.symm.trans hb3)
          conv => whnf
          refine acall.pure _ (k76 b5.toNat) rfl rfl fun _ => ?_
          conv => whnf
          have hwc : wordC b5.toNat = digB b5.toNat := by unfold wordC; rw [show letB b5.toNat = false from m2]; rfl
          rw [hwc] at l3
          cases m3 : digB b5.toNat with
          | true =>
            rw [m3] at l3
            conv => whnf
            exact ⟨(g, l + 1), [0], [], Sub.mk' rfl ⟨.inl rfl, .inl rfl, ⟨rfl, rfl⟩, .inl (congrArg (fun z => Tr.v (.int .i64 z)) hw2), trivial⟩ (by repeat' (first | exact trivial | exact Or.inl (ti_succ (by assumption) (by assumption)) | exact Or.inl rfl | exact rfl | exact Nat.le_refl _ | apply And.intro)) rfl rfl, ⟨by show s.size + 1 ≤ g + (l + 1); omega, m1, l3⟩, Nat.lt_succ_self g⟩
          | false =>
            rw [m3] at l3
            obtain rfl : l = runS wordC s a := l3
            conv => whnf
            refine ⟨fun _ => ?_, fun h => absurd rfl h⟩
            conv => whnf
            exact ⟨(), [0], [], Sub.mk' rfl (by repeat' (first | exact trivial | exact Or.inl (ti_succ (by assumption) (by assumption)) | exact Or.inl rfl | exact rfl | exact Nat.le_refl _ | apply And.intro)) (by repeat' (first | exact trivial | exact Or.inl (ti_succ (by assumption) (by assumption)) | exact Or.inl rfl | exact rfl | exact Nat.le_refl _ | apply And.intro)) rfl rfl, trivial⟩
      · rw [show decide (l < s.size) = false from decide_eq_false (by have q : ¬ (l : Int) < (s.size : Int) := of_decide_eq_false m1; omega)] at l3
        obtain rfl : l = runS wordC s a := l3
        conv => whnf
        refine ⟨fun _ => ?_, fun h => absurd rfl h⟩
        conv => whnf
        exact ⟨(), [0], [], Sub.mk' rfl (by repeat' (first | exact trivial | exact Or.inl (ti_succ (by assumption) (by assumption)) | exact Or.inl rfl | exact rfl | exact Nat.le_refl _ | apply And.intro)) (by repeat' (first | exact trivial | exact Or.inl (ti_succ (by assumption) (by assumption)) | exact Or.inl rfl | exact rfl | exact Nat.le_refl _ | apply And.intro)) rfl rfl, trivial⟩
    rintro _ - -
    generalize runS wordC s a = e at e1 e2
    have hw3 : IntKind.i64.wrap ((e : Int) - (a : Int)) = (e : Int) - a := w64 (by omega) (by omega)
    conv => whnf
    refine ⟨by show (0 : Int) ≤ (a : Int); omega, by show (a : Int) ≤ (e : Int); omega, by show (e : Int) ≤ (s.size : Int); omega, ?_⟩
    conv => whnf
    refine acall.pure _ (k77 (s.extract a e)) rfl rfl fun _ => ?_
    conv => whnf
    have hgt : decide (IntKind.i64.wrap ((e : Int) - (a : Int)) > 32) = decide ((e : Int) - a > 32) := by rw [hw3]
    have hpl : IntKind.i64.wrap ((a : Int) + 32) = (a : Int) + 32 ∨ ¬ (e : Int) - a > 32 := by
      by_cases q : (e : Int) - a > 32
      · exact .inl (w64 (by omega) (by omega))
      · exact .inr q
    cases h2 : wordB (s.extract a e) with
    | true =>
      conv => whnf
      refine csplit (fun h3 => ?_) (fun h3 => ?_)
      · have h3 : decide ((e : Int) - a > 32) = true := by rw [← hgt]; exact h3
        rw [h3]
        conv => whnf
        exact ⟨⟨⟨.inl rfl, .inl rfl, .inl rfl, .inl rfl, trivial⟩, .inl rfl, .inl (congrArg (fun z => Tr.v (.int .i64 z)) (hpl.resolve_right fun q => q (of_decide_eq_true h3))), trivial⟩, trivial⟩
      · have h3 : decide ((e : Int) - a > 32) = false := by rw [← hgt]; exact h3
        rw [h3]
        conv => whnf
        exact ⟨(by repeat' (first | exact trivial | exact Or.inl rfl | exact Or.inr ⟨rfl, _, _, rfl⟩ | exact rfl | exact Nat.le_refl _ | apply And.intro)), trivial⟩
    | false =>
      conv => whnf
      refine csplit (fun h3 => ?_) (fun h3 => ?_)
      · have h3 : decide ((e : Int) - a > 32) = true := by rw [← hgt]; exact h3
        rw [h3]
        conv => whnf
        exact ⟨⟨⟨.inl rfl, .inl rfl, .inl rfl, .inl rfl, trivial⟩, .inl rfl, .inl (congrArg (fun z => Tr.v (.int .i64 z)) (hpl.resolve_right fun q => q (of_decide_eq_true h3))), trivial⟩, trivial⟩
      · have h3 : decide ((e : Int) - a > 32) = false := by rw [← hgt]; exact h3
        rw [h3]
        conv => whnf
        exact ⟨(by repeat' (first | exact trivial | exact Or.inl rfl | exact Or.inr ⟨rfl, _, _, rfl⟩ | exact rfl | exact Nat.le_refl _ | apply And.intro)), trivial⟩
  have h1 : letB b.toNat = false := h1
  rw [h1, cond_false]
  conv => whnf
  refine ⟨by omega, by omega, fun b' hb' => ?_⟩
  obtain rfl : b' = b := Option.some.inj (hb'.symm.trans hb)
  conv => whnf
  refine acall.pure _ (k76 b'.toNat) rfl rfl fun _ => ?_
  conv => whnf
  refine csplit (fun h2 => ?_) (fun h2 => ?_)
  · have h2 : digB b'.toNat = true := h2
    obtain ⟨e1, e2⟩ := runS_lt (p := digB) ha (by rw [hc, h2])
    rw [h2, cond_true]
    conv => whnf
    refine CutL.by (fun _ : Unit => ⟨[(0, .tr (ts s)), (1, .tr (ti a)), (4, .ptr 0 0), (7, .tr (ti (runS digB s a)))], [(0, tokZ)], 1⟩) (fun _ => True) ?_ ?_
    · conv => whnf
      refine LoopL.by (fun x : Nat × Nat => ⟨[(0, .tr (ts s)), (1, .tr (ti a)), (4, .ptr 0 0), (7, .tr (ti x.2))], [(0, tokZ)], 1⟩)
        (fun x => s.size + 1 ≤ x.1 + x.2 ∧ x.2 ≤ s.size ∧ runN digB s x.1 x.2 = runS digB s a) (fun x => x.1) (s.size + 1, a) [0] [] (Sub.mk' rfl (by repeat' (first | exact trivial | exact Or.inl (ti_succ (by assumption) (by assumption)) | exact Or.inl rfl | exact rfl | exact Nat.le_refl _ | apply And.intro)) (by repeat' (first | exact trivial | exact Or.inl (ti_succ (by assumption) (by assumption)) | exact Or.inl rfl | exact rfl | exact Nat.le_refl _ | apply And.intro)) rfl rfl) ⟨by show s.size + 1 ≤ s.size + 1 + a; omega, Nat.le_of_lt ha, rfl⟩ ?_
      rintro ⟨g, l⟩ ⟨l1, l2, l3⟩ -
      have l1 : s.size + 1 ≤ g + l := l1
      have l2 : l ≤ s.size := l2
      obtain ⟨g, rfl⟩ : ∃ q, g = q + 1 := ⟨g - 1, by omega⟩
      have l3 : (bif decide (l < s.size) && digB (chI s l) then runN digB s g (l + 1) else l) = runS digB s a := l3
      conv => whnf
      refine csplit (fun m1 => ?_) (fun m1 => ?_)
      · have m1 : l < s.size := by have q : (l : Int) < (s.size : Int) := of_decide_eq_true m1; omega
        have hw2 : IntKind.i64.wrap ((l : Int) + 1) = ((l + 1 : Nat) : Int) := by rw [w64 (by omega) (by omega)]; rfl
        rw [decide_eq_true m1, Bool.true_and] at l3
        conv => whnf
        refine ⟨by show (0 : Int) ≤ (l : Int); omega, by show (l : Int) < (s.size : Int); omega, fun b3 hb3 => ?_⟩
        have hc3 : chI s l = b3.toNat := chI_at hb3
        rw [hc3] at l3
        conv => whnf
        refine acall.pure _ (k76 b3.toNat) rfl rfl fun _ => ?_
        conv => whnf
        cases m3 : digB b3.toNat with
        | true =>
          rw [m3] at l3
          conv => whnf
          exact ⟨(g, l + 1), [0], [], Sub.mk' rfl ⟨.inl rfl, .inl rfl, ⟨rfl, rfl⟩, .inl (congrArg (fun z => Tr.v (.int .i64 z)) hw2), trivial⟩ (by repeat' (first | exact trivial | exact Or.inl (ti_succ (by assumption) (by assumption)) | exact Or.inl rfl | exact rfl | exact Nat.le_refl _ | apply And.intro)) rfl rfl, ⟨by show s.size + 1 ≤ g + (l + 1); omega, m1, l3⟩, Nat.lt_succ_self g⟩
        | false =>
          rw [m3] at l3
          obtain rfl : l = runS digB s a := l3
          conv => whnf
          refine ⟨fun _ => ?_, fun h => absurd rfl h⟩
          conv => whnf
          exact ⟨(), [0], [], Sub.mk' rfl (by repeat' (first | exact trivial | exact Or.inl (ti_succ (by assumption) (by assumption)) | exact Or.inl rfl | exact rfl | exact Nat.le_refl _ | apply And.intro)) (by repeat' (first | exact trivial | exact Or.inl (ti_succ (by assumption) (by assumption)) | exact Or.inl rfl | exact rfl | exact Nat.le_refl _ | apply And.intro)) rfl rfl, trivial⟩
      · rw [show decide (l < s.size) = false from decide_eq_false (by have q : ¬ (l : Int) < (s.size : Int) := of_decide_eq_false m1; omega)] at l3
        obtain rfl : l = runS digB s a := l3
        conv => whnf
        refine ⟨fun _ => ?_, fun h => absurd rfl h⟩
        conv => whnf
        exact ⟨(), [0], [], Sub.mk' rfl (by repeat' (first | exact trivial | exact Or.inl (ti_succ (by assumption) (by assumption)) | exact Or.inl rfl | exact rfl | exact Nat.le_refl _ | apply And.intro)) (by repeat' (first | exact trivial | exact Or.inl (ti_succ (by assumption) (by assumption)) | exact Or.inl rfl | exact rfl | exact Nat.le_refl _ | apply And.intro)) rfl rfl, trivial⟩
    rintro _ - -
    generalize runS digB s a = e at e1 e2
    have hk := rNumber (s.extract a e)
    generalize numS (s.extract a e) = nn at hk
    obtain ⟨na, nb⟩ := nn
    conv => whnf
    refine ⟨by show (0 : Int) ≤ (a : Int); omega, by show (a : Int) ≤ (e : Int); omega, by show (e : Int) ≤ (s.size : Int); omega, ?_⟩
    conv => whnf
    refine acall.pure _ (hk) rfl rfl fun _ => ?_
    conv => whnf
    cases nb with
    | false =>
      conv => whnf
      exact ⟨(by repeat' (first | exact trivial | exact Or.inl rfl | exact Or.inr ⟨rfl, _, _, rfl⟩ | exact rfl | exact Nat.le_refl _ | apply And.intro)), trivial⟩
    | true =>
    have fin : (decide (e < s.size) && letB (chI s e)) = false → True := fun _ => trivial
    conv => whnf
    refine csplit (fun h4 => ?_) (fun h4 => ?_)
    · have h4 : e < s.size := by have q : (e : Int) < (s.size : Int) := of_decide_eq_true h4; omega
      rw [decide_eq_true h4]
      conv => whnf
      refine ⟨by show (0 : Int) ≤ (e : Int); omega, by show (e : Int) < (s.size : Int); omega, fun b4 hb4 => ?_⟩
      rw [chI_at (show s[e]? = some b4 from hb4)]
      conv => whnf
      refine acall.pure _ (k78 b4.toNat) rfl rfl fun _ => ?_
      conv => whnf
      cases h5 : letB b4.toNat with
      | true =>
        conv => whnf
        exact ⟨(by repeat' (first | exact trivial | exact Or.inl rfl | exact Or.inr ⟨rfl, _, _, rfl⟩ | exact rfl | exact Nat.le_refl _ | apply And.intro)), trivial⟩
      | false =>
        conv => whnf
        refine ⟨by show (0 : Int) ≤ (a : Int); omega, by show (a : Int) ≤ (e : Int); omega, by show (e : Int) ≤ (s.size : Int); omega, ?_⟩
        conv => whnf
        exact ⟨(by repeat' (first | exact trivial | exact Or.inl rfl | exact Or.inr ⟨rfl, _, _, rfl⟩ | exact rfl | exact Nat.le_refl _ | apply And.intro)), trivial⟩
    · have h4 : ¬ e < s.size := by have q : ¬ (e : Int) < (s.size : Int) := of_decide_eq_false h4; omega
      rw [decide_eq_false h4]
      conv => whnf
      refine ⟨by show (0 : Int) ≤ (a : Int); omega, by show (a : Int) ≤ (e : Int); omega, by show (e : Int) ≤ (s.size : Int); omega, ?_⟩
      conv => whnf
      exact ⟨(by repeat' (first | exact trivial | exact Or.inl rfl | exact Or.inr ⟨rfl, _, _, rfl⟩ | exact rfl | exact Nat.le_refl _ | apply And.intro)), trivial⟩
  have h2 : digB b'.toNat = false := h2
  rw [h2, cond_false]
  have hw1 : IntKind.i64.wrap ((a : Int) + 1) = ((a + 1 : Nat) : Int) := by rw [w64 (by omega) (by omega)]; rfl
  have hw2 : IntKind.i64.wrap ((a : Int) + 2) = ((a + 2 : Nat) : Int) := by rw [w64 (by omega) (by omega)]; rfl
  have ht1 : (IntKind.i64.wrap ((a : Int) + 1)).toNat = a + 1 := by rw [hw1]; rfl
  have ht2 : (IntKind.i64.wrap ((a : Int) + 2)).toNat = a + 2 := by rw [hw2]; rfl
  have x1 : s.extract ((a : Int)).toNat (IntKind.i64.wrap ((a : Int) + 1)).toNat = s.extract a (a + 1) := by rw [ht1]; rfl
  have x2 : s.extract ((a : Int)).toNat (IntKind.i64.wrap ((a : Int) + 2)).toNat = s.extract a (a + 2) := by rw [ht2]; rfl
  have o1 : (0 : Int) ≤ (a : Int) ∧ (a : Int) ≤ IntKind.i64.wrap ((a : Int) + 1) ∧ IntKind.i64.wrap ((a : Int) + 1) ≤ (s.size : Int) := by rw [hw1]; omega
  have k1 : K 76 [.tr (ts (s.extract ((a : Int)).toNat (IntKind.i64.wrap ((a : Int) + 1)).toNat))] [] (.ret (.tr (tb (signB (s.extract a (a + 1)))))) [] := by rw [x1]; exact rSign _
  refine CutL.by (fun x : Bool => ⟨[(0, .tr (ts s)), (1, .tr (ti a)), (4, .ptr 0 0), (101, .tr (tb x))], [(0, tokZ)], 1⟩) (fun x => x = (decide (a + 2 ≤ s.size) && signB (s.extract a (a + 2)))) ?_ ?_
  · conv => whnf
    refine csplit (fun h3 => ?_) (fun h3 => ?_)
    · have h3' : a + 2 ≤ s.size := by have q : IntKind.i64.wrap ((a : Int) + 2) ≤ (s.size : Int) := of_decide_eq_true h3; rw [hw2] at q; omega
      have k2 : K 76 [.tr (ts (s.extract ((a : Int)).toNat (IntKind.i64.wrap ((a : Int) + 2)).toNat))] [] (.ret (.tr (tb (signB (s.extract a (a + 2)))))) [] := by rw [x2]; exact rSign _
      conv => whnf
      refine ⟨by show (0 : Int) ≤ (a : Int); omega, by show (a : Int) ≤ IntKind.i64.wrap ((a : Int) + 2); omega, by show IntKind.i64.wrap ((a : Int) + 2) ≤ (s.size : Int); omega, ?_⟩
      conv => whnf
      refine acall.pure _ (k2) rfl rfl fun _ => ?_
      conv => whnf
      exact ⟨_, [0], [], Sub.mk' rfl ⟨.inl rfl, .inl rfl, ⟨rfl, rfl⟩, .inl rfl, trivial⟩ (by repeat' (first | exact trivial | exact Or.inl (ti_succ (by assumption) (by assumption)) | exact Or.inl rfl | exact rfl | exact Nat.le_refl _ | apply And.intro)) rfl rfl, by rw [decide_eq_true h3']; rfl⟩
    · have h3' : ¬ a + 2 ≤ s.size := by have q : ¬ IntKind.i64.wrap ((a : Int) + 2) ≤ (s.size : Int) := of_decide_eq_false h3; rw [hw2] at q; omega
      conv => whnf
      exact ⟨false, [0], [], Sub.mk' rfl ⟨.inl rfl, .inl rfl, ⟨rfl, rfl⟩, .inl rfl, trivial⟩ (by repeat' (first | exact trivial | exact Or.inl (ti_succ (by assumption) (by assumption)) | exact Or.inl rfl | exact rfl | exact Nat.le_refl _ | apply And.intro)) rfl rfl, by rw [decide_eq_false h3']; rfl⟩
  intro x hx _
  rw [← hx]
  have hx' : x = true → a + 2 ≤ s.size := fun h => by rw [h] at hx; have := hx.symm; rw [Bool.and_eq_true, decide_eq_true_eq] at this; exact this.1
  cases x with
  | true =>
    have h3' := hx' rfl
    conv => whnf
    refine ⟨by show (0 : Int) ≤ (a : Int); omega, by show (a : Int) ≤ IntKind.i64.wrap ((a : Int) + 2); omega, by show IntKind.i64.wrap ((a : Int) + 2) ≤ (s.size : Int); omega, ?_⟩
    conv => whnf
    exact ⟨⟨⟨.inl rfl, .inl (congrArg ts x2), .inl rfl, .inl rfl, trivial⟩, .inl rfl, .inl rfl, trivial⟩, trivial⟩
  | false =>
  rw [cond_false]
  conv => whnf
  refine ⟨o1.1, o1.2.1, o1.2.2, ?_⟩
  conv => whnf
  refine acall.pure _ (k1) rfl rfl fun _ => ?_
  conv => whnf
  cases h4 : signB (s.extract a (a + 1)) with
  | true =>
    conv => whnf
    refine ⟨o1.1, o1.2.1, o1.2.2, ?_⟩
    conv => whnf
    exact ⟨⟨⟨.inl rfl, .inl (congrArg ts x1), .inl rfl, .inl rfl, trivial⟩, .inl rfl, .inl rfl, trivial⟩, trivial⟩
  | false =>
    conv => whnf
    exact ⟨(by repeat' (first | exact trivial | exact Or.inl rfl | exact Or.inr ⟨rfl, _, _, rfl⟩ | exact rfl | exact Nat.le_refl _ | apply And.intro)), trivial⟩
end Go.Proofs.YtbpcbhmdjphodaaGreat.am

namespace Go.Proofs.YtbpcbhmdjphodaaGreat.am
open Go Go.Proofs
theorem krows_app (out : List Tok) (d : Tok) : (out.map Tok.cells).take out.length ++ [d.cells] = (out ++ [d]).map Tok.cells := by
  rw [List.take_of_length_le (Nat.le_of_eq (List.length_map ..)), List.map_append]; rfl
theorem ksee (l : List Tok) : l.length ≤ (l.map Tok.cells).length ∧ toksT l = .lst 4 40 ((l.map Tok.cells).take l.length) :=
  ⟨Nat.le_of_eq (List.length_map ..).symm, congrArg (Tr.lst 4 40) (List.take_of_length_le (Nat.le_of_eq (List.length_map ..))).symm⟩
theorem oneF_rule (s : ByteArray) (a : Nat) : 0 ≤ (oneF s a).2.1 := by
  unfold oneF
  simp only [cond_eq_ite]
  repeat' split
  all_goals first
    | exact (by decide : (0 : Int) ≤ 0)
    | exact (by decide : (0 : Int) ≤ 1)
    | exact (by decide : (0 : Int) ≤ 2)
    | exact (by decide : (0 : Int) ≤ 3)
    | exact (by decide : (0 : Int) ≤ 4)
theorem oneF_more {s : ByteArray} {i : Nat} (hi : i < s.size) (h : decide ((oneF s i).2.1 > 0) = false) : 1 ≤ (oneF s i).1.text.size ∧ i + (oneF s i).1.text.size ≤ s.size :=
  oneF_ok hi (by have := oneF_rule s i; have := of_decide_eq_false h; omega)
theorem frontL_len (s : ByteArray) : ∀ (f : Nat) (out : List Tok) (i : Nat), out.length ≤ i → i ≤ s.size → (frontL s f out i).1.length ≤ s.size
  | 0, out, i, h1, h2 => Nat.le_trans h1 h2
  | f + 1, out, i, h1, h2 => by
    unfold frontL
    cases hd : decide (i < s.size) with
    | false => exact Nat.le_trans h1 h2
    | true =>
      have hi := of_decide_eq_true hd
      rw [cond_true]
      cases hr : decide ((oneF s i).2.1 > 0) with
      | true => exact Nat.le_trans h1 h2
      | false =>
        rw [cond_false]
        obtain ⟨e1, e2⟩ := oneF_more hi hr
        obtain ⟨g1, g2⟩ := skipN_le s (s.size + 1) (i + (oneF s i).1.text.size)
        exact frontL_len s f _ _ (by rw [List.length_append, List.length_singleton]; show out.length + 1 ≤ skipN _ _ _; omega) (g2 e2)
theorem rFront (s : ByteArray) (hs : s.size ≤ 65536) : K 32 [.tr (ts s)] [] (.ret (.tup [.tr (toksT (frontS s).1), .tr (ti (frontS s).2.1), .tr (ti (frontS s).2.2)])) [] := by
  refine Ctr.of hT hmix Tryz.func32 rfl (fun _ _ => by kernel_rfl) rfl fun hok => ?_
  clear hok
  generalize hG : frontS s = G
  obtain ⟨gl, ga, gb⟩ := G
  obtain ⟨k1, k2⟩ := skipN_le s (s.size + 1) 0
  have k2 := k2 (Nat.zero_le _)
  conv => whnf
  refine acall.pure _ (rSkip s 0 (Nat.zero_le _)) rfl rfl fun _ => ?_
  conv => whnf
  refine LoopL.by (fun x : Nat × List Tok × Nat => ⟨[(0, .tr (ts s)), (5, .sl 0 x.2.1.length), (6, .tr (ti x.2.2))], [(0, .vec 84 4 40 (x.2.1.map Tok.cells))], 1⟩)
    (fun x => s.size + 1 ≤ x.1 + x.2.2 ∧ x.2.1.length ≤ x.2.2 ∧ x.2.2 ≤ s.size ∧ frontL s x.1 x.2.1 x.2.2 = (gl, ga, gb)) (fun x => x.1)
    (s.size + 1, [], skipS s 0) [] [0] (Sub.mk' rfl ⟨.inl rfl, ⟨rfl, rfl, rfl, rfl⟩, .inl rfl, trivial⟩ ⟨⟨rfl, 84, 4, 40, rfl, by omega⟩, trivial⟩ rfl rfl) ⟨by show s.size + 1 ≤ s.size + 1 + skipS s 0; omega, Nat.zero_le _, k2, hG⟩ ?_
  rintro ⟨f, out, i⟩ ⟨j1, j2, j3, j4⟩ -
  have j1 : s.size + 1 ≤ f + i := j1
  have j2 : out.length ≤ i := j2
  have j3 : i ≤ s.size := j3
  obtain ⟨f, rfl⟩ : ∃ g, f = g + 1 := ⟨f - 1, by omega⟩
  have j4 : (bif decide (i < s.size) then (bif decide ((oneF s i).2.1 > 0) then (out, (oneF s i).2.1, (oneF s i).2.2) else frontL s f (out ++ [(oneF s i).1]) (skipS s (i + (oneF s i).1.text.size))) else (out, 0, 0)) = (gl, ga, gb) := j4
  have hol : (out.map Tok.cells).length = out.length := List.length_map ..
  conv => whnf
  refine csplit (fun hlt => ?_) (fun hge => ?_)
  · have hlt : i < s.size := by have q : (i : Int) < (s.size : Int) := of_decide_eq_true hlt; omega
    rw [decide_eq_true hlt, cond_true] at j4
    have hk := rOne s i hlt hs
    have hm := oneF_more hlt
    generalize oneF s i = o at hk hm j4
    obtain ⟨⟨tk, tx, tw, tp⟩, ru, pl⟩ := o
    conv => whnf
    refine acall.pure _ (hk) rfl rfl fun _ => ?_
    conv => whnf
    refine csplit (fun h1 => ?_) (fun h1 => ?_)
    · rw [show decide (ru > 0) = true from h1] at j4
      cases j4
      conv => whnf
      exact ⟨⟨⟨rfl, ksee _⟩, .inl rfl, .inl rfl, trivial⟩, trivial⟩
    · rw [show decide (ru > 0) = false from h1, cond_false] at j4
      obtain ⟨m1, m2⟩ := hm h1
      have m1 : 1 ≤ tx.size := m1
      have m2 : i + tx.size ≤ s.size := m2
      have hw : IntKind.i64.wrap ((i : Int) + (tx.size : Int)) = ((i + tx.size : Nat) : Int) := by rw [w64 (by omega) (by omega)]; rfl
      have hk2 : K 54 [.tr (ts s), .tr (ti (IntKind.i64.wrap ((i : Int) + (tx.size : Int))))] [] (.ret (.tr (ti (skipS s (i + tx.size))))) [] := by rw [hw]; exact rSkip s (i + tx.size) m2
      obtain ⟨g1, g2⟩ := skipN_le s (s.size + 1) (i + tx.size)
      have g2 := g2 m2
      have g1 : i + tx.size ≤ skipS s (i + tx.size) := g1
      have g2 : skipS s (i + tx.size) ≤ s.size := g2
      have j4 : frontL s f (out ++ [Tok.mk tk tx tw tp]) (skipS s (i + tx.size)) = (gl, ga, gb) := j4
      generalize skipS s (i + tx.size) = i2 at *
      conv => whnf
      refine ⟨rfl, rfl, rfl, Nat.le_of_eq hol.symm, by show (out.length + 1) * 40 ≤ 140737488351232; omega, fun q hq => ?_, ?_⟩
      · cases hq with
        | head => exact Nat.ne_of_beq_eq_false rfl
        | tail _ h => cases h
      conv => whnf
      refine acall.pure _ (hk2) rfl rfl fun _ => ?_
      conv => whnf
      exact ⟨(f, out ++ [Tok.mk tk tx tw tp], i2), [21], [], Sub.mk' rfl ⟨.inl rfl, ⟨rfl, by show out.length + 1 = (out ++ [_]).length; rw [List.length_append]; rfl⟩, .inl rfl, trivial⟩ ⟨⟨rfl, rfl, rfl, krows_app out (Tok.mk tk tx tw tp)⟩, trivial⟩ rfl rfl,
        ⟨by show s.size + 1 ≤ f + i2; omega, by show (out ++ [_]).length ≤ i2; rw [List.length_append, List.length_singleton]; omega, g2, j4⟩, Nat.lt_succ_self f⟩
  · rw [decide_eq_false (show ¬ i < s.size by have q : ¬ (i : Int) < (s.size : Int) := of_decide_eq_false hge; omega)] at j4
    cases j4
    conv => whnf
    refine ⟨fun _ => ?_, fun h => absurd rfl h⟩
    conv => whnf
    exact ⟨⟨⟨rfl, ksee _⟩, .inl rfl, .inl rfl, trivial⟩, trivial⟩
def scanF (s : ByteArray) : List Tok × Int × Flt := bif decide ((frontS s).2.1 > 0) then ([], 20, ⟨(frontS s).2.2, (frontS s).2.1⟩) else ((frontS s).1, 0, ⟨0, 0⟩)
theorem rScan (s : ByteArray) (hs : s.size ≤ 65536) : K 17 [.tr (ts s)] [] (.ret (.tup [.tr (toksT (scanF s).1), .tr (ti (scanF s).2.1), (scanF s).2.2.av])) [] := by
  refine Ctr.of hT hmix Tryz.func17 rfl (fun _ _ => by kernel_rfl) rfl fun hok => ?_
  clear hok
  have hk := rFront s hs
  unfold scanF
  generalize frontS s = G at hk
  obtain ⟨gl, ga, gb⟩ := G
  conv => whnf
  refine csplit (fun h0 => ?_) (fun h0 => ?_)
  · have q : (s.size : Int) > 65536 := of_decide_eq_true h0
    exact absurd q (by omega)
  conv => whnf
  refine acall.pure _ (hk) rfl rfl fun _ => ?_
  conv => whnf
  refine csplit (fun h1 => ?_) (fun h1 => ?_)
  · rw [show decide (ga > 0) = true from h1]
    conv => whnf
    exact ⟨⟨.inr ⟨rfl, _, _, rfl⟩, .inl rfl, ⟨.inl rfl, .inl rfl, trivial⟩, trivial⟩, trivial⟩
  · rw [show decide (ga > 0) = false from h1]
    conv => whnf
    exact ⟨⟨.inl rfl, .inl rfl, ⟨.inl rfl, .inl rfl, trivial⟩, trivial⟩, trivial⟩
theorem scan_len (s : ByteArray) : (scanF s).1.length ≤ s.size := by
  unfold scanF
  cases decide ((frontS s).2.1 > 0) with
  | true => exact Nat.zero_le _
  | false =>
    obtain ⟨k1, k2⟩ := skipN_le s (s.size + 1) 0
    exact frontL_len s _ [] _ (Nat.zero_le _) (k2 (Nat.zero_le _))
theorem rBegunBad (s : ByteArray) (h : 65536 < s.size ∨ (scanF s).2.1 ≠ 0) : ∃ (why : Int) (f : Flt), why ≠ 0 ∧ K 7 [.tr (ts s)] [] (.ret (.tup [.tr (.v (.pointer none)), .tr (ti why), f.av])) [] := by
  by_cases hs : 65536 < s.size
  · refine ⟨4, ⟨0, 0⟩, by decide, ?_⟩
    refine Ctr.of hT hmix Tryz.func7 rfl (fun _ _ => by kernel_rfl) rfl fun hok => ?_
    clear hok
    conv => whnf
    rw [show decide ((s.size : Int) > 65536) = true from decide_eq_true (by omega)]
    conv => whnf
    exact ⟨⟨.inl rfl, .inl rfl, ⟨.inl rfl, .inl rfl, trivial⟩, trivial⟩, trivial⟩
  · have h := h.resolve_left hs
    have hk := rScan s (by omega)
    generalize scanF s = G at hk h
    obtain ⟨gl, gw, fa, fr⟩ := G
    have h : gw ≠ 0 := h
    refine ⟨30, ⟨fa, 1⟩, by decide, ?_⟩
    refine Ctr.of hT hmix Tryz.func7 rfl (fun _ _ => by kernel_rfl) rfl fun hok => ?_
    clear hok
    conv => whnf
    rw [show decide ((s.size : Int) > 65536) = false from decide_eq_false (by omega)]
    conv => whnf
    refine acall.pure _ (hk) rfl rfl fun _ => ?_
    conv => whnf
    refine csplit (fun h1 => ?_) (fun h1 => ?_)
    · conv => whnf
      refine ⟨by kernel_rfl, fun _ => ?_⟩
      conv => whnf
      exact ⟨⟨.inl rfl, .inl rfl, ⟨.inl rfl, .inl rfl, trivial⟩, trivial⟩, trivial⟩
    · have h1 : (gw != 0) = false := h1
      exact absurd (by simpa using h1) h
theorem rBegunOk (s : ByteArray) (hs : s.size ≤ 65536) (h : (scanF s).2.1 = 0) : K 7 [.tr (ts s)] [] (.ret (.tup [.ptr 0 0, .tr (ti 0), (Flt.mk 0 0).av])) [some (rdB ⟨(scanF s).1, 0, s.size, 0, 0⟩)] := by
  have hk := rScan s hs
  generalize scanF s = G at hk h
  obtain ⟨gl, gw, fa, fr⟩ := G
  have h : gw = 0 := h
  subst h
  refine Ctr.new [] hT hmix Tryz.func7 rfl (fun _ _ => by kernel_rfl) rfl fun hok => ?_
  clear hok
  conv => whnf
  rw [show decide ((s.size : Int) > 65536) = false from decide_eq_false (by omega)]
  conv => whnf
  refine acall.pure _ (hk) rfl rfl fun _ => ?_
  conv => whnf
  exact ⟨[22], rfl, rfl, ⟨⟨rfl, rfl⟩, .inl rfl, ⟨.inl rfl, .inl rfl, trivial⟩, trivial⟩, ⟨rfl, .inl rfl, .inl rfl, .inl rfl, .inl rfl, .inl rfl, trivial⟩, trivial⟩
theorem rParse (s : ByteArray) : ∃ (p : Prg) (why : Int) (f : Flt), K 4 [.tr (ts s)] [] (.ret (.tup [p.av, .tr (ti why), f.av])) [] := by
  by_cases hb : 65536 < s.size ∨ (scanF s).2.1 ≠ 0
  · obtain ⟨why, ⟨fa, fr⟩, hw, hk⟩ := rBegunBad s hb
    refine ⟨⟨[], [], []⟩, why, ⟨fa, fr⟩, ?_⟩
    refine Ctr.of hT hmix Tryz.func4 rfl (fun _ _ => by kernel_rfl) rfl fun hok => ?_
    clear hok
    conv => whnf
    refine acall.pure _ (hk) rfl rfl fun _ => ?_
    conv => whnf
    refine csplit (fun h1 => ?_) (fun h1 => ?_)
    · conv => whnf
      refine ⟨by kernel_rfl, fun _ => ?_⟩
      conv => whnf
      exact ⟨⟨⟨.inr ⟨rfl, _, _, rfl⟩, .inr ⟨rfl, _, _, rfl⟩, .inr ⟨rfl, _, _, rfl⟩, trivial⟩, .inl rfl, ⟨.inl rfl, .inl rfl, trivial⟩, trivial⟩, trivial⟩
    · have h1 : (why != 0) = false := h1
      exact absurd (by simpa using h1) hw
  · have hs : s.size ≤ 65536 := by
      refine Nat.le_of_not_lt fun h => hb (.inl h)
    have hw : (scanF s).2.1 = 0 := by
      refine Classical.byContradiction fun h => hb (.inr h)
    have hk := rBegunOk s hs hw
    have hl := scan_len s
    have hp := rProgram ⟨(scanF s).1, 0, s.size, 0, 0⟩ (Nat.le_trans hl hs) (Nat.zero_le _)
    generalize programL _ [] [] _ = G at hp
    obtain ⟨⟨g1, g2, g3⟩, r⟩ := G
    cases ho : r.ok with
    | true =>
      refine ⟨⟨g1, g2, g3⟩, 0, ⟨0, 0⟩, ?_⟩
      refine Ctr.of hT hmix Tryz.func4 rfl (fun _ _ => by kernel_rfl) rfl fun hok => ?_
      clear hok
      have h9 := rOk r
      rw [ho] at h9
      conv => whnf
      refine acall.new [] [] _ _ _ _ hk rfl rfl rfl rfl (by repeat' (first | exact trivial | exact Or.inl (ti_succ (by assumption) (by assumption)) | exact Or.inl rfl | exact rfl | exact Nat.le_refl _ | apply And.intro)) (by repeat' (first | exact trivial | exact Or.inl (ti_succ (by assumption) (by assumption)) | exact Or.inl rfl | exact rfl | exact Nat.le_refl _ | apply And.intro)) rfl rfl fun _ => ?_
      conv => whnf
      refine acall.gen [4] [] _ _ _ _ hp rfl rfl rfl rfl (by repeat' (first | exact trivial | exact Or.inl (ti_succ (by assumption) (by assumption)) | exact Or.inl rfl | exact rfl | exact Nat.le_refl _ | apply And.intro)) (by repeat' (first | exact trivial | exact Or.inl (ti_succ (by assumption) (by assumption)) | exact Or.inl rfl | exact rfl | exact Nat.le_refl _ | apply And.intro)) rfl rfl fun _ => ?_
      conv => whnf
      refine acall.gen [4] [] _ _ _ _ h9 rfl rfl rfl rfl (by repeat' (first | exact trivial | exact Or.inl (ti_succ (by assumption) (by assumption)) | exact Or.inl rfl | exact rfl | exact Nat.le_refl _ | apply And.intro)) (by repeat' (first | exact trivial | exact Or.inl (ti_succ (by assumption) (by assumption)) | exact Or.inl rfl | exact rfl | exact Nat.le_refl _ | apply And.intro)) rfl rfl fun _ => ?_
      conv => whnf
      exact ⟨⟨(by repeat' (first | exact trivial | exact Or.inl (ti_succ (by assumption) (by assumption)) | exact Or.inl rfl | exact rfl | exact Nat.le_refl _ | apply And.intro)), .inl rfl, ⟨.inl rfl, .inl rfl, trivial⟩, trivial⟩, trivial⟩
    | false =>
      refine ⟨⟨[], [], []⟩, 30, ⟨r.at_, r.rule⟩, ?_⟩
      refine Ctr.of hT hmix Tryz.func4 rfl (fun _ _ => by kernel_rfl) rfl fun hok => ?_
      clear hok
      have h9 := rOk r
      rw [ho] at h9
      conv => whnf
      refine acall.new [] [] _ _ _ _ hk rfl rfl rfl rfl (by repeat' (first | exact trivial | exact Or.inl (ti_succ (by assumption) (by assumption)) | exact Or.inl rfl | exact rfl | exact Nat.le_refl _ | apply And.intro)) (by repeat' (first | exact trivial | exact Or.inl (ti_succ (by assumption) (by assumption)) | exact Or.inl rfl | exact rfl | exact Nat.le_refl _ | apply And.intro)) rfl rfl fun _ => ?_
      conv => whnf
      refine acall.gen [4] [] _ _ _ _ hp rfl rfl rfl rfl (by repeat' (first | exact trivial | exact Or.inl (ti_succ (by assumption) (by assumption)) | exact Or.inl rfl | exact rfl | exact Nat.le_refl _ | apply And.intro)) (by repeat' (first | exact trivial | exact Or.inl (ti_succ (by assumption) (by assumption)) | exact Or.inl rfl | exact rfl | exact Nat.le_refl _ | apply And.intro)) rfl rfl fun _ => ?_
      conv => whnf
      refine acall.gen [4] [] _ _ _ _ h9 rfl rfl rfl rfl (by repeat' (first | exact trivial | exact Or.inl (ti_succ (by assumption) (by assumption)) | exact Or.inl rfl | exact rfl | exact Nat.le_refl _ | apply And.intro)) (by repeat' (first | exact trivial | exact Or.inl (ti_succ (by assumption) (by assumption)) | exact Or.inl rfl | exact rfl | exact Nat.le_refl _ | apply And.intro)) rfl rfl fun _ => ?_
      conv => whnf
      refine ⟨by kernel_rfl, fun _ => ?_⟩
      conv => whnf
      exact ⟨⟨⟨.inr ⟨rfl, _, _, rfl⟩, .inr ⟨rfl, _, _, rfl⟩, .inr ⟨rfl, _, _, rfl⟩, trivial⟩, .inl rfl, ⟨.inl rfl, .inl rfl, trivial⟩, trivial⟩, trivial⟩
theorem kTexts (s : ByteArray) : K 3 [.tr (ts s)] [] (.ret (.tr (tb true))) [] := by
  obtain ⟨p, why, ⟨fa, fr⟩, hk⟩ := rParse s
  refine Ctr.of hT hmix Tryz.func3 rfl (fun _ _ => by kernel_rfl) rfl fun hok => ?_
  clear hok
  conv => whnf
  refine acall.pure _ (hk) rfl rfl fun _ => ?_
  conv => whnf
  refine csplit (fun h1 => ?_) (fun h1 => ?_)
  · conv => whnf
    refine acall.pure _ (k_lives) rfl rfl fun _ => ?_
    conv => whnf
    exact ⟨Or.inl rfl, trivial⟩
  · conv => whnf
    refine acall.pure _ (kFaults p) rfl rfl fun _ => ?_
    conv => whnf
    exact ⟨Or.inl rfl, trivial⟩
end Go.Proofs.YtbpcbhmdjphodaaGreat.am

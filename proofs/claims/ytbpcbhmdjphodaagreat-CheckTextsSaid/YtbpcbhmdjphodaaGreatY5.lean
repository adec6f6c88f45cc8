/- Plain: what the reference's reader computes: tokens, places, faults. No program of the seat. Contracts: the reference's reader: small steps. Contracts: the reference's operators and signs. Plain: what the reference's reader computes: expressions. Contracts: the reference's reader: expressions. Plain: what the reference's reader computes: statements. Contracts: the reference's reader: statements. Contracts: the reference's reader: blocks. -/
import Derived.Test.YtbpcbhmdjphodaaGreatY1
import Derived.Test.YtbpcbhmdjphodaaGreatZ4
set_option linter.all false

namespace Go.Proofs.YtbpcbhmdjphodaaGreat.am
open Go
structure Tok where
  kind : Int
  text : ByteArray
  word : Int
  at_ : Int
def Tok.cells (t : Tok) : List Tr := [tu t.kind, ts t.text, ti t.word, ti t.at_]
abbrev toksT (l : List Tok) : Tr := .lst 4 40 (l.map Tok.cells)
def Tok.av (t : Tok) : AV := .agg (t.cells.map .tr)
structure Rd where
  l : List Tok
  i : Nat
  end_ : Int
  at_ : Int
  rule : Int
def Rd.here (r : Rd) : Tok := match r.l[r.i]? with
  | some t => t
  | none => ⟨0, ⟨#[]⟩, 0, r.end_⟩
def Rd.ok (r : Rd) : Bool := r.rule == 0
def Rd.fail (r : Rd) (k : Int) : Rd := bif r.ok then ⟨r.l, r.i, r.end_, r.here.at_, k⟩ else r
def Rd.is (r : Rd) (s : ByteArray) : Bool := (r.here.kind == 2 || r.here.kind == 4) && seq r.here.text s
def Rd.step (r : Rd) : Rd := ⟨r.l, r.i + 1, r.end_, r.at_, r.rule⟩
def Rd.takes (r : Rd) (s : ByteArray) : Bool := r.ok && r.is s
def Rd.take (r : Rd) (s : ByteArray) : Rd := bif r.takes s then r.step else r
def Rd.want (r : Rd) (s : ByteArray) : Rd := bif r.takes s then r.step else r.fail 2
def Rd.named (r : Rd) : Bool := r.ok && r.here.kind == 1
def Rd.name (r : Rd) : Rd := bif r.named then r.step else r.fail 2
def Rd.nameS (r : Rd) : ByteArray := bif r.named then r.here.text else ⟨#[]⟩
def Rd.nameA (r : Rd) : Int := bif r.named then r.here.at_ else 0
/-- on from one reader to a later one -/
structure Goes (r r' : Rd) : Prop where
  l : r'.l = r.l
  i : r.i ≤ r'.i
  n : r.i ≤ r.l.length → r'.i ≤ r.l.length
  bad : r.ok = false → r' = r
theorem Goes.refl (r : Rd) : Goes r r := ⟨rfl, Nat.le_refl _, fun h => h, fun _ => rfl⟩
theorem Goes.trans {a b c : Rd} (h : Goes a b) (k : Goes b c) : Goes a c :=
  ⟨k.l.trans h.l, Nat.le_trans h.i k.i, fun q => by have := k.n (by rw [h.l]; exact h.n q); rw [h.l] at this; exact this, fun q => by rw [h.bad q] at k; rw [h.bad q] at *; exact k.bad q⟩
end Go.Proofs.YtbpcbhmdjphodaaGreat.am

namespace Go.Proofs.YtbpcbhmdjphodaaGreat.am
open Go Go.Proofs
abbrev rdB (r : Rd) : Blk := .cells 40 [.tr (toksT r.l), .tr (ti r.i), .tr (ti r.end_), .tr (ti r.at_), .tr (ti r.rule)]
theorem rOk (r : Rd) : K 9 [.ptr 0 0] [rdB r] (.ret (.tr (tb r.ok))) [some (rdB r)] := by
  refine Ctr.of hT hmix Tryz.func9 rfl (fun _ _ => by kernel_rfl) rfl fun hok => ?_
  clear hok
  conv => whnf
  exact ⟨Or.inl rfl, (by repeat' (first | exact trivial | exact Or.inl (ti_succ (by assumption) (by assumption)) | exact Or.inl rfl | exact rfl | exact Nat.le_refl _ | apply And.intro))⟩
theorem rHere (r : Rd) : K 35 [.ptr 0 0] [rdB r] (.ret r.here.av) [some (rdB r)] := by
  refine Ctr.of hT hmix Tryz.func35 rfl (fun _ _ => by kernel_rfl) rfl fun hok => ?_
  have hl := ((hok.cells 0 rfl) _ (.head _)).tr.lst.2.1
  rw [List.length_map] at hl
  clear hok
  obtain ⟨l, i, en, a, ru⟩ := r
  have hl : l.length ≤ 9223372036854775807 := hl
  cases hd : l[i]? with
  | some t =>
    have hi := (List.getElem?_eq_some_iff.1 hd).1
    have hE : (Rd.mk l i en a ru).here = t := by unfold Rd.here; rw [hd]
    rw [hE]
    conv => whnf
    rw [List.length_map]
    rw [show decide ((i : Int) < (l.length : Int)) = true from decide_eq_true (by omega)]
    refine ⟨by kernel_rfl, fun _ => ?_⟩
    conv => whnf
    refine ⟨rfl, by show (0 : Int) ≤ (i : Int); omega, by show (i : Int) < ((l.map Tok.cells).length : Int); rw [List.length_map]; omega, fun row hrow => ?_⟩
    obtain ⟨t', ht, rfl⟩ := map_get hrow
    replace ht : l[i]? = some t' := ht
    rw [hd] at ht
    obtain rfl := Option.some.inj ht
    clear hrow
    obtain ⟨k, tx, w, p⟩ := t
    conv => whnf
    refine ⟨by kernel_rfl, fun _ => ?_⟩
    conv => whnf
    exact ⟨(by repeat' (first | exact trivial | exact Or.inl (ti_succ (by assumption) (by assumption)) | exact Or.inl rfl | exact rfl | exact Nat.le_refl _ | apply And.intro)), (by repeat' (first | exact trivial | exact Or.inl (ti_succ (by assumption) (by assumption)) | exact Or.inl rfl | exact rfl | exact Nat.le_refl _ | apply And.intro))⟩
  | none =>
    have hi := List.getElem?_eq_none_iff.1 hd
    have hE : (Rd.mk l i en a ru).here = ⟨0, ⟨#[]⟩, 0, en⟩ := by unfold Rd.here; rw [hd]
    rw [hE]
    conv => whnf
    rw [List.length_map]
    rw [show decide ((i : Int) < (l.length : Int)) = false from decide_eq_false (by omega)]
    refine ⟨by kernel_rfl, fun _ => ?_⟩
    conv => whnf
    exact ⟨(by repeat' (first | exact trivial | exact Or.inl (ti_succ (by assumption) (by assumption)) | exact Or.inl rfl | exact rfl | exact Nat.le_refl _ | apply And.intro)), (by repeat' (first | exact trivial | exact Or.inl (ti_succ (by assumption) (by assumption)) | exact Or.inl rfl | exact rfl | exact Nat.le_refl _ | apply And.intro))⟩
theorem rFail (r : Rd) (k : Int) : K 36 [.ptr 0 0, .tr (ti k)] [rdB r] (.ret (.tup [])) [some (rdB (r.fail k))] := by
  refine Ctr.of hT hmix Tryz.func36 rfl (fun _ _ => by kernel_rfl) rfl fun hok => ?_
  clear hok
  have hh := rHere r
  unfold Rd.fail
  generalize r.here = t at hh
  obtain ⟨tk, tx, tw, tp⟩ := t
  conv => whnf
  refine acall.gen [0] [] _ _ _ _ (rOk r) rfl rfl rfl rfl (by repeat' (first | exact trivial | exact Or.inl (ti_succ (by assumption) (by assumption)) | exact Or.inl rfl | exact rfl | exact Nat.le_refl _ | apply And.intro)) (by repeat' (first | exact trivial | exact Or.inl (ti_succ (by assumption) (by assumption)) | exact Or.inl rfl | exact rfl | exact Nat.le_refl _ | apply And.intro)) rfl rfl fun _ => ?_
  conv => whnf
  refine csplit (fun h => ?_) (fun h => ?_)
  · conv => whnf
    refine acall.gen [0] [] _ _ _ _ (hh) rfl rfl rfl rfl (by repeat' (first | exact trivial | exact Or.inl (ti_succ (by assumption) (by assumption)) | exact Or.inl rfl | exact rfl | exact Nat.le_refl _ | apply And.intro)) (by repeat' (first | exact trivial | exact Or.inl (ti_succ (by assumption) (by assumption)) | exact Or.inl rfl | exact rfl | exact Nat.le_refl _ | apply And.intro)) rfl rfl fun _ => ?_
    conv => whnf
    have h : r.ok = true := h
    rw [h]
    exact ⟨trivial, (by repeat' (first | exact trivial | exact Or.inl (ti_succ (by assumption) (by assumption)) | exact Or.inl rfl | exact rfl | exact Nat.le_refl _ | apply And.intro))⟩
  · have h : r.ok = false := h
    rw [h]
    conv => whnf
    exact ⟨trivial, (by repeat' (first | exact trivial | exact Or.inl (ti_succ (by assumption) (by assumption)) | exact Or.inl rfl | exact rfl | exact Nat.le_refl _ | apply And.intro))⟩
theorem rIs (r : Rd) (s : ByteArray) : K 33 [.ptr 0 0, .tr (ts s)] [rdB r] (.ret (.tr (tb (r.is s)))) [some (rdB r)] := by
  refine Ctr.of hT hmix Tryz.func33 rfl (fun _ _ => by kernel_rfl) rfl fun hok => ?_
  clear hok
  have hh := rHere r
  have hE : r.is s = ((r.here.kind == 2 || r.here.kind == 4) && seq r.here.text s) := rfl
  rw [hE]
  generalize r.here = t at hh
  obtain ⟨tk, tx, tw, tp⟩ := t
  conv => whnf
  refine acall.gen [0] [] _ _ _ _ (hh) rfl rfl rfl rfl (by repeat' (first | exact trivial | exact Or.inl (ti_succ (by assumption) (by assumption)) | exact Or.inl rfl | exact rfl | exact Nat.le_refl _ | apply And.intro)) (by repeat' (first | exact trivial | exact Or.inl (ti_succ (by assumption) (by assumption)) | exact Or.inl rfl | exact rfl | exact Nat.le_refl _ | apply And.intro)) rfl rfl fun _ => ?_
  conv => whnf
  refine csplit (fun h1 => ?_) (fun h1 => ?_)
  · conv => whnf
    have h1 : (tk == 2) = true := h1
    exact ⟨Or.inl (congrArg tb (by rw [h1]; rfl)), (by repeat' (first | exact trivial | exact Or.inl (ti_succ (by assumption) (by assumption)) | exact Or.inl rfl | exact rfl | exact Nat.le_refl _ | apply And.intro))⟩
  · conv => whnf
    have h1 : (tk == 2) = false := h1
    refine csplit (fun h2 => ?_) (fun h2 => ?_)
    · conv => whnf
      have h2 : (tk == 4) = true := h2
      exact ⟨Or.inl (congrArg tb (by rw [h1, h2]; rfl)), (by repeat' (first | exact trivial | exact Or.inl (ti_succ (by assumption) (by assumption)) | exact Or.inl rfl | exact rfl | exact Nat.le_refl _ | apply And.intro))⟩
    · conv => whnf
      have h2 : (tk == 4) = false := h2
      exact ⟨Or.inl (congrArg tb (by rw [h1, h2]; rfl)), (by repeat' (first | exact trivial | exact Or.inl (ti_succ (by assumption) (by assumption)) | exact Or.inl rfl | exact rfl | exact Nat.le_refl _ | apply And.intro))⟩
theorem here_none {r : Rd} (h : r.l.length ≤ r.i) : r.here = ⟨0, ⟨#[]⟩, 0, r.end_⟩ := by
  unfold Rd.here; rw [List.getElem?_eq_none h]
theorem takes_lt {r : Rd} {s : ByteArray} (h : r.takes s = true) : r.i < r.l.length := by
  refine Nat.lt_of_not_le fun hn => ?_
  unfold Rd.takes Rd.is at h
  rw [here_none hn] at h
  simp at h
theorem named_lt {r : Rd} (h : r.named = true) : r.i < r.l.length := by
  refine Nat.lt_of_not_le fun hn => ?_
  unfold Rd.named at h
  rw [here_none hn] at h
  simp at h
theorem rTake (r : Rd) (s : ByteArray) : K 18 [.ptr 0 0, .tr (ts s)] [rdB r] (.ret (.tr (tb (r.takes s)))) [some (rdB (r.take s))] := by
  refine Ctr.of hT hmix Tryz.func18 rfl (fun _ _ => by kernel_rfl) rfl fun hok => ?_
  have hl := ((hok.cells 0 rfl) _ (.head _)).tr.lst.2.1
  rw [List.length_map] at hl
  clear hok
  unfold Rd.take
  conv => whnf
  refine acall.gen [0] [] _ _ _ _ (rOk r) rfl rfl rfl rfl (by repeat' (first | exact trivial | exact Or.inl (ti_succ (by assumption) (by assumption)) | exact Or.inl rfl | exact rfl | exact Nat.le_refl _ | apply And.intro)) (by repeat' (first | exact trivial | exact Or.inl (ti_succ (by assumption) (by assumption)) | exact Or.inl rfl | exact rfl | exact Nat.le_refl _ | apply And.intro)) rfl rfl fun _ => ?_
  conv => whnf
  refine csplit (fun h => ?_) (fun h => ?_)
  · have h : r.ok = true := h
    conv => whnf
    refine acall.gen [0] [] _ _ _ _ (rIs r s) rfl rfl rfl rfl (by repeat' (first | exact trivial | exact Or.inl (ti_succ (by assumption) (by assumption)) | exact Or.inl rfl | exact rfl | exact Nat.le_refl _ | apply And.intro)) (by repeat' (first | exact trivial | exact Or.inl (ti_succ (by assumption) (by assumption)) | exact Or.inl rfl | exact rfl | exact Nat.le_refl _ | apply And.intro)) rfl rfl fun _ => ?_
    conv => whnf
    refine csplit (fun h2 => ?_) (fun h2 => ?_)
    · have h2 : r.is s = true := h2
      have ht : r.takes s = true := by unfold Rd.takes; rw [h, h2]; rfl
      have hi := takes_lt ht
      rw [ht]
      conv => whnf
      exact ⟨Or.inl rfl, ⟨rfl, .inl rfl, .inl (ti_succ hi hl), .inl rfl, .inl rfl, .inl rfl, trivial⟩, trivial⟩
    · have h2 : r.is s = false := h2
      have ht : r.takes s = false := by unfold Rd.takes; rw [h, h2]; rfl
      rw [ht]
      conv => whnf
      exact ⟨Or.inl rfl, (by repeat' (first | exact trivial | exact Or.inl (ti_succ (by assumption) (by assumption)) | exact Or.inl rfl | exact rfl | exact Nat.le_refl _ | apply And.intro))⟩
  · have h : r.ok = false := h
    have ht : r.takes s = false := by unfold Rd.takes; rw [h]; rfl
    rw [ht]
    conv => whnf
    exact ⟨Or.inl rfl, (by repeat' (first | exact trivial | exact Or.inl (ti_succ (by assumption) (by assumption)) | exact Or.inl rfl | exact rfl | exact Nat.le_refl _ | apply And.intro))⟩
theorem rWant (r : Rd) (s : ByteArray) : K 37 [.ptr 0 0, .tr (ts s)] [rdB r] (.ret (.tup [])) [some (rdB (r.want s))] := by
  refine Ctr.of hT hmix Tryz.func37 rfl (fun _ _ => by kernel_rfl) rfl fun hok => ?_
  clear hok
  have ht := rTake r s
  unfold Rd.want
  unfold Rd.take at ht
  conv => whnf
  refine acall.gen [0] [] _ _ _ _ (ht) rfl rfl rfl rfl (by repeat' (first | exact trivial | exact Or.inl (ti_succ (by assumption) (by assumption)) | exact Or.inl rfl | exact rfl | exact Nat.le_refl _ | apply And.intro)) (by repeat' (first | exact trivial | exact Or.inl (ti_succ (by assumption) (by assumption)) | exact Or.inl rfl | exact rfl | exact Nat.le_refl _ | apply And.intro)) rfl rfl fun _ => ?_
  conv => whnf
  cases h : r.takes s with
  | true =>
    conv => whnf
    exact ⟨trivial, (by repeat' (first | exact trivial | exact Or.inl (ti_succ (by assumption) (by assumption)) | exact Or.inl rfl | exact rfl | exact Nat.le_refl _ | apply And.intro))⟩
  | false =>
    conv => whnf
    refine acall.gen [0] [] _ _ _ _ (rFail r 2) rfl rfl rfl rfl (by repeat' (first | exact trivial | exact Or.inl (ti_succ (by assumption) (by assumption)) | exact Or.inl rfl | exact rfl | exact Nat.le_refl _ | apply And.intro)) ⟨⟨rfl, .inl rfl, .inl rfl, .inl rfl, .inl rfl, .inl rfl, trivial⟩, trivial⟩ rfl rfl fun _ => ?_
    conv => whnf
    exact ⟨trivial, (by repeat' (first | exact trivial | exact Or.inl (ti_succ (by assumption) (by assumption)) | exact Or.inl rfl | exact rfl | exact Nat.le_refl _ | apply And.intro))⟩
theorem rName (r : Rd) : K 34 [.ptr 0 0] [rdB r] (.ret (.tup [.tr (ts r.nameS), .tr (ti r.nameA)])) [some (rdB r.name)] := by
  refine Ctr.of hT hmix Tryz.func34 rfl (fun _ _ => by kernel_rfl) rfl fun hok => ?_
  have hl := ((hok.cells 0 rfl) _ (.head _)).tr.lst.2.1
  rw [List.length_map] at hl
  clear hok
  have hh := rHere r
  have hlt := named_lt (r := r)
  have hE : r.named = (r.ok && r.here.kind == 1) := rfl
  unfold Rd.name Rd.nameS Rd.nameA
  generalize r.here = t at hh hE
  obtain ⟨tk, tx, tw, tp⟩ := t
  have hE : r.named = (r.ok && tk == 1) := hE
  have bad : r.named = false → r.named = false := id
  conv => whnf
  refine acall.gen [0] [] _ _ _ _ (hh) rfl rfl rfl rfl (by repeat' (first | exact trivial | exact Or.inl (ti_succ (by assumption) (by assumption)) | exact Or.inl rfl | exact rfl | exact Nat.le_refl _ | apply And.intro)) (by repeat' (first | exact trivial | exact Or.inl (ti_succ (by assumption) (by assumption)) | exact Or.inl rfl | exact rfl | exact Nat.le_refl _ | apply And.intro)) rfl rfl fun _ => ?_
  conv => whnf
  refine acall.gen [0] [] _ _ _ _ (rOk r) rfl rfl rfl rfl (by repeat' (first | exact trivial | exact Or.inl (ti_succ (by assumption) (by assumption)) | exact Or.inl rfl | exact rfl | exact Nat.le_refl _ | apply And.intro)) (by repeat' (first | exact trivial | exact Or.inl (ti_succ (by assumption) (by assumption)) | exact Or.inl rfl | exact rfl | exact Nat.le_refl _ | apply And.intro)) rfl rfl fun _ => ?_
  conv => whnf
  refine csplit (fun h => ?_) (fun h => ?_)
  · conv => whnf
    have h : r.ok = false := by revert h; cases r.ok <;> simp
    rw [h] at hE
    rw [show r.named = false from hE]
    refine acall.gen [0] [] _ _ _ _ (rFail r 2) rfl rfl rfl rfl (by repeat' (first | exact trivial | exact Or.inl (ti_succ (by assumption) (by assumption)) | exact Or.inl rfl | exact rfl | exact Nat.le_refl _ | apply And.intro)) (by repeat' (first | exact trivial | exact Or.inl (ti_succ (by assumption) (by assumption)) | exact Or.inl rfl | exact rfl | exact Nat.le_refl _ | apply And.intro)) rfl rfl fun _ => ?_
    conv => whnf
    (repeat' (first | exact trivial | exact Or.inl rfl | exact rfl | (refine Or.inl (congrArg _ ?_); simp only [] <;> rfl) | apply And.intro))
  · have h : r.ok = true := by revert h; cases r.ok <;> simp
    rw [h, Bool.true_and] at hE
    conv => whnf
    refine csplit (fun h2 => ?_) (fun h2 => ?_)
    · conv => whnf
      have h2 : (tk == 1) = false := by simpa using h2
      rw [h2] at hE
      rw [hE]
      refine acall.gen [0] [] _ _ _ _ (rFail r 2) rfl rfl rfl rfl (by repeat' (first | exact trivial | exact Or.inl (ti_succ (by assumption) (by assumption)) | exact Or.inl rfl | exact rfl | exact Nat.le_refl _ | apply And.intro)) (by repeat' (first | exact trivial | exact Or.inl (ti_succ (by assumption) (by assumption)) | exact Or.inl rfl | exact rfl | exact Nat.le_refl _ | apply And.intro)) rfl rfl fun _ => ?_
      conv => whnf
      (repeat' (first | exact trivial | exact Or.inl rfl | exact rfl | (refine Or.inl (congrArg _ ?_); simp only [] <;> rfl) | apply And.intro))
    · have h2 : (tk == 1) = true := by simpa using h2
      rw [h2] at hE
      have hi := hlt hE
      rw [hE]
      conv => whnf
      refine ⟨by kernel_rfl, fun _ => ?_⟩
      conv => whnf
      exact ⟨⟨Or.inl rfl, Or.inl rfl, trivial⟩, ⟨rfl, .inl rfl, .inl (ti_succ hi hl), .inl rfl, .inl rfl, .inl rfl, trivial⟩, trivial⟩
end Go.Proofs.YtbpcbhmdjphodaaGreat.am

namespace Go.Proofs.YtbpcbhmdjphodaaGreat.am
open Go Go.Proofs
theorem one_some {α : Type} {x t : α} (h : some x = some t) : t = x := (Option.some.inj h).symm
def signB (s : ByteArray) : Bool := seq s ⟨#[40]⟩ || seq s ⟨#[41]⟩ || seq s ⟨#[123]⟩ || seq s ⟨#[125]⟩ || seq s ⟨#[44]⟩ || seq s ⟨#[59]⟩ || seq s ⟨#[61]⟩ || seq s ⟨#[43]⟩ || seq s ⟨#[45]⟩ || seq s ⟨#[42]⟩ || seq s ⟨#[47]⟩ || seq s ⟨#[37]⟩ || seq s ⟨#[38]⟩ || seq s ⟨#[124]⟩ || seq s ⟨#[94]⟩ || seq s ⟨#[33]⟩ || seq s ⟨#[60]⟩ || seq s ⟨#[62]⟩ || seq s ⟨#[61, 61]⟩ || seq s ⟨#[33, 61]⟩ || seq s ⟨#[60, 61]⟩ || seq s ⟨#[62, 61]⟩ || seq s ⟨#[60, 60]⟩ || seq s ⟨#[62, 62]⟩
theorem rSign (s : ByteArray) : K 76 [.tr (ts s)] [] (.ret (.tr (tb (signB s)))) [] := by
  refine Ctr.of hT hmix Tryz.func76 rfl (fun _ _ => by kernel_rfl) rfl fun hok => ?_
  conv => whnf
  (repeat' (refine csplit (fun _ => ?_) (fun _ => ?_) <;> conv => whnf)) <;> refine ⟨Or.inl (congrArg tb ?_), trivial⟩ <;> first | (simp only [signB, seq, *] <;> rfl) | simp_all
def blankB (c : Int) : Bool := c == 32 || c == 9 || c == 10 || c == 13
theorem rBlank (c : Int) : K 71 [.tr (tu c)] [] (.ret (.tr (tb (blankB c)))) [] := by
  refine Ctr.of hT hmix Tryz.func71 rfl (fun _ _ => by kernel_rfl) rfl fun hok => ?_
  conv => whnf
  (repeat' (refine csplit (fun _ => ?_) (fun _ => ?_) <;> conv => whnf)) <;> refine ⟨Or.inl (congrArg tb ?_), trivial⟩ <;> (simp only [blankB, *] <;> rfl)
def showT : List ByteArray := [⟨#[]⟩, ⟨#[43]⟩, ⟨#[45]⟩, ⟨#[42]⟩, ⟨#[47]⟩, ⟨#[37]⟩, ⟨#[38]⟩, ⟨#[124]⟩, ⟨#[94]⟩, ⟨#[60, 60]⟩, ⟨#[62, 62]⟩, ⟨#[61, 61]⟩, ⟨#[33, 61]⟩, ⟨#[60]⟩, ⟨#[60, 61]⟩, ⟨#[62]⟩, ⟨#[62, 61]⟩, ⟨#[45]⟩, ⟨#[33]⟩]
def showS (op : Int) : ByteArray := bif decide (op ≥ 19) then ⟨#[]⟩ else (showT[op.toNat]?).getD ⟨#[]⟩
def levelT : List Int := [0, 7, 7, 8, 8, 8, 3, 1, 2, 6, 6, 4, 4, 5, 5, 5, 5, 9, 9]
def levelI (op : Int) : Int := bif decide (op ≥ 19) then 0 else (levelT[op.toNat]?).getD 0
theorem rShow (op : Int) : K 98 [.tr (tu op)] [] (.ret (.tr (ts (showS op)))) [] := by
  refine Ctr.of hT hmix Tryz.func98 rfl (fun _ _ => by kernel_rfl) rfl fun hok => ?_
  have h8 := (hok.slot 0 rfl).tr.u8
  clear hok
  conv => whnf
  refine csplit (fun h => ?_) (fun h => ?_)
  · conv => whnf
    exact ⟨Or.inl (congrArg ts (by unfold showS; rw [show decide (op ≥ 19) = true from h]; rfl)), trivial⟩
  · have h' : op < 19 := by have := of_decide_eq_false h; omega
    conv => whnf
    refine ⟨rfl, by omega, by omega, ?_⟩
    conv => whnf
    refine ⟨rfl, by show op.toNat < 19; omega, fun row hrow => ?_⟩
    obtain ⟨x, hx, rfl⟩ := map_get (f := fun s => [ts s]) (l := showT) hrow
    refine ⟨Nat.le_refl 1, fun t ht => ?_⟩
    obtain rfl := one_some (x := ts x) ht
    conv => whnf
    exact ⟨Or.inl (congrArg ts (by unfold showS; rw [show decide (op ≥ 19) = false from h, hx]; rfl)), trivial⟩
theorem rLevel (op : Int) : K 88 [.tr (tu op)] [] (.ret (.tr (ti (levelI op)))) [] := by
  refine Ctr.of hT hmix Tryz.func88 rfl (fun _ _ => by kernel_rfl) rfl fun hok => ?_
  have h8 := (hok.slot 0 rfl).tr.u8
  clear hok
  conv => whnf
  refine csplit (fun h => ?_) (fun h => ?_)
  · conv => whnf
    exact ⟨Or.inl (congrArg ti (by unfold levelI; rw [show decide (op ≥ 19) = true from h]; rfl)), trivial⟩
  · have h' : op < 19 := by have := of_decide_eq_false h; omega
    conv => whnf
    refine ⟨rfl, by omega, by omega, ?_⟩
    conv => whnf
    refine ⟨rfl, by show op.toNat < 19; omega, fun row hrow => ?_⟩
    obtain ⟨x, hx, rfl⟩ := map_get (f := fun s => [ti s]) (l := levelT) hrow
    refine ⟨Nat.le_refl 1, fun t ht => ?_⟩
    obtain rfl := one_some (x := ti x) ht
    conv => whnf
    exact ⟨Or.inl (congrArg ti (by unfold levelI; rw [show decide (op ≥ 19) = false from h, hx]; rfl)), trivial⟩
def findL (s : ByteArray) : Nat → Int → Int × Bool
  | 0, _ => (0, false)
  | f + 1, op => bif seq (showS op) s then (op, true) else findL s f (op + 1)
def findO (s : ByteArray) : Int × Bool := findL s 16 1
theorem rFind (s : ByteArray) : K 87 [.tr (ts s)] [] (.ret (.tup [.tr (tu (findO s).1), .tr (tb (findO s).2)])) [] := by
  refine Ctr.of hT hmix Tryz.func87 rfl (fun _ _ => by kernel_rfl) rfl fun hok => ?_
  clear hok
  conv => whnf
  refine LoopL.by (fun i : Nat => ⟨[(0, .tr (ts s)), (4, .tr (tu (1 + i)))], [], 0⟩)
    (fun i => i ≤ 16 ∧ findO s = findL s (16 - i) (1 + i)) (fun i => 17 - i) 0 [] [] (Sub.mk' rfl (by repeat' (first | exact trivial | exact Or.inl (ti_succ (by assumption) (by assumption)) | exact Or.inl rfl | exact rfl | exact Nat.le_refl _ | apply And.intro)) trivial rfl rfl) ⟨by omega, rfl⟩ ?_
  rintro i ⟨hi, hf⟩ -
  conv => whnf
  refine csplit (fun hlt => ?_) (fun hge => ?_)
  · have hlt : i < 16 := by have := of_decide_eq_true hlt; omega
    obtain ⟨k, hk⟩ : ∃ k, 16 - i = k + 1 := ⟨15 - i, by omega⟩
    rw [hk] at hf
    have hf : findO s = bif seq (showS (1 + i)) s then ((1 + i : Int), true) else findL s k (1 + i + 1) := hf
    conv => whnf
    refine acall.pure _ (rShow (1 + i)) rfl rfl fun _ => ?_
    conv => whnf
    refine csplit (fun h => ?_) (fun h => ?_)
    · conv => whnf
      have h : seq (showS (1 + i)) s = true := h
      rw [hf, h]
      exact ⟨⟨Or.inl rfl, Or.inl rfl, trivial⟩, trivial⟩
    · have h : seq (showS (1 + i)) s = false := h
      rw [h] at hf
      conv => whnf
      refine ⟨i + 1, [], [], Sub.mk' rfl ⟨.inl rfl, .inl (congrArg tu ?_), trivial⟩ trivial rfl rfl, ⟨by omega, ?_⟩, by omega⟩
      · show IntKind.u8.wrap ((1 : Int) + i + 1) = 1 + ((i + 1 : Nat) : Int)
        rw [wu8 (by omega) (by omega)]; omega
      · rw [hf, show 16 - (i + 1) = k by omega, show (1 : Int) + ((i + 1 : Nat) : Int) = 1 + i + 1 by omega]; rfl
  · have hge : i = 16 := by have := of_decide_eq_false hge; omega
    subst hge
    conv => whnf
    refine ⟨fun _ => ?_, fun h => absurd rfl h⟩
    conv => whnf
    rw [hf]
    exact ⟨⟨Or.inl rfl, Or.inl rfl, trivial⟩, trivial⟩
end Go.Proofs.YtbpcbhmdjphodaaGreat.am

namespace Go.Proofs.YtbpcbhmdjphodaaGreat.am
open Go
theorem here_lt {r : Rd} (h : r.here.kind ≠ 0) : r.i < r.l.length := by
  refine Nat.lt_of_not_le fun hn => ?_
  rw [here_none hn] at h
  exact h rfl
theorem step_goes {r : Rd} (h : r.ok = true) (hi : r.i < r.l.length) : Goes r r.step :=
  ⟨rfl, Nat.le_succ _, fun _ => hi, fun q => by rw [h] at q; cases q⟩
theorem fail_l (r : Rd) (k : Int) : (r.fail k).l = r.l ∧ (r.fail k).i = r.i := by
  unfold Rd.fail
  cases r.ok <;> exact ⟨rfl, rfl⟩
theorem fail_goes (r : Rd) (k : Int) : Goes r (r.fail k) := by
  obtain ⟨h1, h2⟩ := fail_l r k
  refine ⟨h1, Nat.le_of_eq h2.symm, fun h => by rw [h2]; exact h, fun q => ?_⟩
  unfold Rd.fail; rw [q]; rfl
theorem takes_ok {r : Rd} {s : ByteArray} (h : r.takes s = true) : r.ok = true := by
  unfold Rd.takes at h; exact (Bool.and_eq_true _ _ ▸ h).1
theorem take_goes (r : Rd) (s : ByteArray) : Goes r (r.take s) := by
  unfold Rd.take
  cases h : r.takes s with
  | true => exact step_goes (takes_ok h) (takes_lt h)
  | false => exact .refl r
theorem want_goes (r : Rd) (s : ByteArray) : Goes r (r.want s) := by
  unfold Rd.want
  cases h : r.takes s with
  | true => exact step_goes (takes_ok h) (takes_lt h)
  | false => exact fail_goes r 2
theorem named_ok {r : Rd} (h : r.named = true) : r.ok = true := by
  unfold Rd.named at h; exact (Bool.and_eq_true _ _ ▸ h).1
theorem name_goes (r : Rd) : Goes r r.name := by
  unfold Rd.name
  cases h : r.named with
  | true => exact step_goes (named_ok h) (named_lt h)
  | false => exact fail_goes r 2
abbrev ex0 : Expr := .mk 0 0 0 ⟨#[]⟩ [] 0
/-- no operator of such a level stands here -/
def Rd.stops (r : Rd) (lv : Int) : Bool := (r.here.kind != 4) || !(findO r.here.text).2 || decide (levelI (findO r.here.text).1 < lv)
def Rd.next (r : Rd) : Int := IntKind.i64.wrap (levelI (findO r.here.text).1 + 1)
def exprLoop (sub : Rd → Int → Expr × Rd) (lv : Int) : Nat → Expr → Rd → Expr × Rd
  | 0, e, r => (e, r)
  | f + 1, e, r => bif r.ok && !r.stops lv then exprLoop sub lv f (.mk 4 (findO r.here.text).1 0 ⟨#[]⟩ [e, (sub r.step r.next).1] r.here.at_) (sub r.step r.next).2 else (e, r)
def Rd.deeps (r : Rd) (deep : Int) : Bool := (r.is ⟨#[45]⟩ || r.is ⟨#[33]⟩ || r.is ⟨#[40]⟩) && decide (deep ≥ 64)
def Rd.dive (r : Rd) (deep : Int) : Rd := bif r.deeps deep then r.fail 3 else r
def unaryF (X U : Rd → Int → Expr × Rd) (t : Tok) (r : Rd) (deep : Int) : Expr × Rd :=
  bif !r.ok then (ex0, r)
  else bif t.kind == 3 then (.mk 1 0 t.word ⟨#[]⟩ [] t.at_, r.step)
  else bif t.kind == 1 then (.mk 2 0 0 t.text [] t.at_, r.step)
  else bif r.takes ⟨#[40]⟩ then ((X r.step (IntKind.i64.wrap (deep + 1))).1, (X r.step (IntKind.i64.wrap (deep + 1))).2.want ⟨#[41]⟩)
  else bif r.takes ⟨#[45]⟩ then (.mk 3 17 0 ⟨#[]⟩ [(U r.step (IntKind.i64.wrap (deep + 1))).1] t.at_, (U r.step (IntKind.i64.wrap (deep + 1))).2)
  else bif r.takes ⟨#[33]⟩ then (.mk 3 18 0 ⟨#[]⟩ [(U r.step (IntKind.i64.wrap (deep + 1))).1] t.at_, (U r.step (IntKind.i64.wrap (deep + 1))).2)
  else (ex0, r.fail 2)
mutual
def exprG : Nat → Rd → Int → Int → Expr × Rd
  | 0, r, _, _ => (ex0, r)
  | n + 1, r, lv, deep => exprLoop (fun r lv => exprG n r lv deep) lv (r.l.length + 1) (unG n r deep).1 (unG n r deep).2
def unG : Nat → Rd → Int → Expr × Rd
  | 0, r, _ => (ex0, r)
  | n + 1, r, deep => unaryF (fun r d => exprG n r 1 d) (fun r d => unG n r d) r.here (r.dive deep) deep
end
theorem exprLoop_goes {sub : Rd → Int → Expr × Rd} (h : ∀ r lv, Goes r (sub r lv).2) {lv : Int} : ∀ (f : Nat) (e : Expr) (r : Rd), Goes r (exprLoop sub lv f e r).2
  | 0, e, r => .refl r
  | f + 1, e, r => by
    unfold exprLoop
    cases hc : (r.ok && !r.stops lv) with
    | false => exact .refl r
    | true =>
      rw [Bool.and_eq_true] at hc
      have hk : r.here.kind ≠ 0 := fun e => by
        have := hc.2
        unfold Rd.stops at this
        rw [e] at this
        exact absurd this (by simp)
      exact ((step_goes hc.1 (here_lt hk)).trans (h r.step r.next)).trans (exprLoop_goes h f _ _)
theorem dive_goes (r : Rd) (deep : Int) : Goes r (r.dive deep) := by
  unfold Rd.dive
  cases r.deeps deep with
  | true => exact fail_goes r 3
  | false => exact .refl r
theorem dive_l (r : Rd) (deep : Int) : (r.dive deep).l = r.l ∧ (r.dive deep).i = r.i := by
  unfold Rd.dive
  cases r.deeps deep with
  | true => exact fail_l r 3
  | false => exact ⟨rfl, rfl⟩
theorem unaryF_goes {X U : Rd → Int → Expr × Rd} (hX : ∀ r d, Goes r (X r d).2) (hU : ∀ r d, Goes r (U r d).2) {t : Tok} {r : Rd} {deep : Int} (ht : t.kind ≠ 0 → r.i < r.l.length) : Goes r (unaryF X U t r deep).2 := by
  unfold unaryF
  cases h1 : r.ok with
  | false => exact .refl r
  | true =>
  rw [Bool.not_true, cond_false]
  cases h2 : (t.kind == 3) with
  | true => exact step_goes h1 (ht (by rw [show t.kind = 3 by simpa using h2]; decide))
  | false =>
  rw [cond_false]
  cases h3 : (t.kind == 1) with
  | true => exact step_goes h1 (ht (by rw [show t.kind = 1 by simpa using h3]; decide))
  | false =>
  rw [cond_false]
  cases h4 : r.takes ⟨#[40]⟩ with
  | true => exact ((step_goes h1 (takes_lt h4)).trans (hX _ _)).trans (want_goes _ _)
  | false =>
  rw [cond_false]
  cases h5 : r.takes ⟨#[45]⟩ with
  | true => exact (step_goes h1 (takes_lt h5)).trans (hU _ _)
  | false =>
  rw [cond_false]
  cases h6 : r.takes ⟨#[33]⟩ with
  | true => exact (step_goes h1 (takes_lt h6)).trans (hU _ _)
  | false => exact fail_goes r 2
theorem ex_goes : ∀ n : Nat, (∀ r lv deep, Goes r (exprG n r lv deep).2) ∧ ∀ r deep, Goes r (unG n r deep).2
  | 0 => ⟨fun r _ _ => .refl r, fun r _ => .refl r⟩
  | n + 1 => by
    obtain ⟨h1, h2⟩ := ex_goes n
    refine ⟨fun r lv deep => ?_, fun r deep => ?_⟩
    · unfold exprG
      exact (h2 r deep).trans (exprLoop_goes (fun r lv => h1 r lv deep) _ _ _)
    · unfold unG
      exact (dive_goes r deep).trans (unaryF_goes (fun r d => h1 r 1 d) h2 fun h => by rw [(dive_l r deep).1, (dive_l r deep).2]; exact here_lt h)
end Go.Proofs.YtbpcbhmdjphodaaGreat.am

namespace Go.Proofs.YtbpcbhmdjphodaaGreat.am
open Go Go.Proofs
abbrev exZ : Blk := .cells 62 [.tr (tu 0), .tr (tu 0), .tr (ti 0), .tr (ts ⟨#[]⟩), .tr tnil, .tr (ti 0)]
theorem sl1 {a : List Tr} {e : Expr} (h : a = e.cells) : (1 : Nat) ≤ [a].length ∧ exprsT [e] = .lst 6 64 ([a].take 1) := ⟨Nat.le_refl 1, by rw [h]; rfl⟩
def ExK (n : Nat) : Prop := ∀ (r : Rd) (lv deep : Int), r.l.length ≤ 65536 → r.i ≤ r.l.length → 2 * (r.l.length - r.i) + 2 ≤ n → K 79 [.ptr 0 0, .tr (ti lv), .tr (ti deep)] [rdB r] (.ret (exprG n r lv deep).1.av) [some (rdB (exprG n r lv deep).2)]
def UnK (n : Nat) : Prop := ∀ (r : Rd) (deep : Int), r.l.length ≤ 65536 → r.i ≤ r.l.length → 2 * (r.l.length - r.i) + 1 ≤ n → K 86 [.ptr 0 0, .tr (ti deep)] [rdB r] (.ret (unG n r deep).1.av) [some (rdB (unG n r deep).2)]
theorem rUnary {n : Nat} (hX : ExK n) (hU : UnK n) : UnK (n + 1) := by
  intro r deep hL hi hn
  refine Ctr.cut [4] hT hmix Tryz.func86 rfl (fun _ _ => by kernel_rfl) rfl fun hok => ?_
  clear hok
  have hh := rHere r
  have hkind := here_lt (r := r)
  have hD := dive_l r deep
  have hE0 : unG (n + 1) r deep = unaryF (fun r d => exprG n r 1 d) (fun r d => unG n r d) r.here (r.dive deep) deep := rfl
  have hdv : r.dive deep = bif r.deeps deep then r.fail 3 else r := rfl
  have hdp : r.deeps deep = ((r.is ⟨#[45]⟩ || r.is ⟨#[33]⟩ || r.is ⟨#[40]⟩) && decide (deep ≥ 64)) := rfl
  generalize r.here = t at hh hE0 hkind
  generalize r.dive deep = r1 at hE0 hD hdv
  obtain ⟨hD1, hD2⟩ := hD
  obtain ⟨tk, tx, tw, tp⟩ := t
  have hkind : tk ≠ 0 → r.i < r.l.length := hkind
  conv => whnf
  refine acall.gen [0] [] _ _ _ _ (hh) rfl rfl rfl rfl (by repeat' (first | exact trivial | exact Or.inl (ti_succ (by assumption) (by assumption)) | exact Or.inl rfl | exact rfl | exact Nat.le_refl _ | apply And.intro)) (by repeat' (first | exact trivial | exact Or.inl (ti_succ (by assumption) (by assumption)) | exact Or.inl rfl | exact rfl | exact Nat.le_refl _ | apply And.intro)) rfl rfl fun _ => ?_
  conv => whnf
  refine CutL.by (fun _ : Unit => ⟨[(0, .ptr 0 0), (1, .tr (ti deep)), (4, .ptr 1 0), (5, .ptr 2 0)], [(0, rdB r1), (1, exZ), (2, .cells 84 [.tr (tu tk), .tr (ts tx), .tr (ti tw), .tr (ti tp)])], 3⟩) (fun _ => True) ?_ ?_
  · conv => whnf
    have fin : r.deeps deep = false → r1 = r := fun h => by rw [hdv, h]; rfl
    have bad : r.deeps deep = true → r1 = r.fail 3 := fun h => by rw [hdv, h]; rfl
    refine acall.gen [0] [] _ _ _ _ (rIs r ⟨#[45]⟩) rfl rfl rfl rfl (by repeat' (first | exact trivial | exact Or.inl (ti_succ (by assumption) (by assumption)) | exact Or.inl rfl | exact rfl | exact Nat.le_refl _ | apply And.intro)) (by repeat' (first | exact trivial | exact Or.inl (ti_succ (by assumption) (by assumption)) | exact Or.inl rfl | exact rfl | exact Nat.le_refl _ | apply And.intro)) rfl rfl fun _ => ?_
    conv => whnf
    refine csplit (fun ha => ?_) (fun ha => ?_)
    · conv => whnf
      refine csplit (fun hd => ?_) (fun hd => ?_)
      · rw [bad (by rw [hdp, show r.is ⟨#[45]⟩ = true from ha, show decide (deep ≥ 64) = true from hd]; rfl)]
        conv => whnf
        refine acall.gen [0] [] _ _ _ _ (rFail r 3) rfl rfl rfl rfl (by repeat' (first | exact trivial | exact Or.inl (ti_succ (by assumption) (by assumption)) | exact Or.inl rfl | exact rfl | exact Nat.le_refl _ | apply And.intro)) (by repeat' (first | exact trivial | exact Or.inl (ti_succ (by assumption) (by assumption)) | exact Or.inl rfl | exact rfl | exact Nat.le_refl _ | apply And.intro)) rfl rfl fun _ => ?_
        conv => whnf
        exact ⟨(), [0, 1, 4], [], Sub.mk' rfl (by repeat' (first | exact trivial | exact Or.inl (ti_succ (by assumption) (by assumption)) | exact Or.inl rfl | exact rfl | exact Nat.le_refl _ | apply And.intro)) (by repeat' (first | exact trivial | exact Or.inl (ti_succ (by assumption) (by assumption)) | exact Or.inl rfl | exact rfl | exact Nat.le_refl _ | apply And.intro)) rfl rfl, trivial⟩
      · rw [fin (by rw [hdp, show r.is ⟨#[45]⟩ = true from ha, show decide (deep ≥ 64) = false from hd]; simp)]
        conv => whnf
        exact ⟨(), [0, 1, 4], [], Sub.mk' rfl (by repeat' (first | exact trivial | exact Or.inl (ti_succ (by assumption) (by assumption)) | exact Or.inl rfl | exact rfl | exact Nat.le_refl _ | apply And.intro)) (by repeat' (first | exact trivial | exact Or.inl (ti_succ (by assumption) (by assumption)) | exact Or.inl rfl | exact rfl | exact Nat.le_refl _ | apply And.intro)) rfl rfl, trivial⟩
    conv => whnf
    refine acall.gen [0] [] _ _ _ _ (rIs r ⟨#[33]⟩) rfl rfl rfl rfl (by repeat' (first | exact trivial | exact Or.inl (ti_succ (by assumption) (by assumption)) | exact Or.inl rfl | exact rfl | exact Nat.le_refl _ | apply And.intro)) (by repeat' (first | exact trivial | exact Or.inl (ti_succ (by assumption) (by assumption)) | exact Or.inl rfl | exact rfl | exact Nat.le_refl _ | apply And.intro)) rfl rfl fun _ => ?_
    conv => whnf
    refine csplit (fun hb => ?_) (fun hb => ?_)
    · conv => whnf
      refine csplit (fun hd => ?_) (fun hd => ?_)
      · rw [bad (by rw [hdp, show r.is ⟨#[45]⟩ = false from ha, show r.is ⟨#[33]⟩ = true from hb, show decide (deep ≥ 64) = true from hd]; rfl)]
        conv => whnf
        refine acall.gen [0] [] _ _ _ _ (rFail r 3) rfl rfl rfl rfl (by repeat' (first | exact trivial | exact Or.inl (ti_succ (by assumption) (by assumption)) | exact Or.inl rfl | exact rfl | exact Nat.le_refl _ | apply And.intro)) (by repeat' (first | exact trivial | exact Or.inl (ti_succ (by assumption) (by assumption)) | exact Or.inl rfl | exact rfl | exact Nat.le_refl _ | apply And.intro)) rfl rfl fun _ => ?_
        conv => whnf
        exact ⟨(), [0, 1, 4], [], Sub.mk' rfl (by repeat' (first | exact trivial | exact Or.inl (ti_succ (by assumption) (by assumption)) | exact Or.inl rfl | exact rfl | exact Nat.le_refl _ | apply And.intro)) (by repeat' (first | exact trivial | exact Or.inl (ti_succ (by assumption) (by assumption)) | exact Or.inl rfl | exact rfl | exact Nat.le_refl _ | apply And.intro)) rfl rfl, trivial⟩
      · rw [fin (by rw [hdp, show r.is ⟨#[45]⟩ = false from ha, show r.is ⟨#[33]⟩ = true from hb, show decide (deep ≥ 64) = false from hd]; simp)]
        conv => whnf
        exact ⟨(), [0, 1, 4], [], Sub.mk' rfl (by repeat' (first | exact trivial | exact Or.inl (ti_succ (by assumption) (by assumption)) | exact Or.inl rfl | exact rfl | exact Nat.le_refl _ | apply And.intro)) (by repeat' (first | exact trivial | exact Or.inl (ti_succ (by assumption) (by assumption)) | exact Or.inl rfl | exact rfl | exact Nat.le_refl _ | apply And.intro)) rfl rfl, trivial⟩
    conv => whnf
    refine acall.gen [0] [] _ _ _ _ (rIs r ⟨#[40]⟩) rfl rfl rfl rfl (by repeat' (first | exact trivial | exact Or.inl (ti_succ (by assumption) (by assumption)) | exact Or.inl rfl | exact rfl | exact Nat.le_refl _ | apply And.intro)) (by repeat' (first | exact trivial | exact Or.inl (ti_succ (by assumption) (by assumption)) | exact Or.inl rfl | exact rfl | exact Nat.le_refl _ | apply And.intro)) rfl rfl fun _ => ?_
    conv => whnf
    refine csplit (fun hc => ?_) (fun hc => ?_)
    · conv => whnf
      refine csplit (fun hd => ?_) (fun hd => ?_)
      · rw [bad (by rw [hdp, show r.is ⟨#[45]⟩ = false from ha, show r.is ⟨#[33]⟩ = false from hb, show r.is ⟨#[40]⟩ = true from hc, show decide (deep ≥ 64) = true from hd]; rfl)]
        conv => whnf
        refine acall.gen [0] [] _ _ _ _ (rFail r 3) rfl rfl rfl rfl (by repeat' (first | exact trivial | exact Or.inl (ti_succ (by assumption) (by assumption)) | exact Or.inl rfl | exact rfl | exact Nat.le_refl _ | apply And.intro)) (by repeat' (first | exact trivial | exact Or.inl (ti_succ (by assumption) (by assumption)) | exact Or.inl rfl | exact rfl | exact Nat.le_refl _ | apply And.intro)) rfl rfl fun _ => ?_
        conv => whnf
        exact ⟨(), [0, 1, 4], [], Sub.mk' rfl (by repeat' (first | exact trivial | exact Or.inl (ti_succ (by assumption) (by assumption)) | exact Or.inl rfl | exact rfl | exact Nat.le_refl _ | apply And.intro)) (by repeat' (first | exact trivial | exact Or.inl (ti_succ (by assumption) (by assumption)) | exact Or.inl rfl | exact rfl | exact Nat.le_refl _ | apply And.intro)) rfl rfl, trivial⟩
      · rw [fin (by rw [hdp, show r.is ⟨#[45]⟩ = false from ha, show r.is ⟨#[33]⟩ = false from hb, show r.is ⟨#[40]⟩ = true from hc, show decide (deep ≥ 64) = false from hd]; simp)]
        conv => whnf
        exact ⟨(), [0, 1, 4], [], Sub.mk' rfl (by repeat' (first | exact trivial | exact Or.inl (ti_succ (by assumption) (by assumption)) | exact Or.inl rfl | exact rfl | exact Nat.le_refl _ | apply And.intro)) (by repeat' (first | exact trivial | exact Or.inl (ti_succ (by assumption) (by assumption)) | exact Or.inl rfl | exact rfl | exact Nat.le_refl _ | apply And.intro)) rfl rfl, trivial⟩
    rw [fin (by rw [hdp, show r.is ⟨#[45]⟩ = false from ha, show r.is ⟨#[33]⟩ = false from hb, show r.is ⟨#[40]⟩ = false from hc]; rfl)]
    conv => whnf
    exact ⟨(), [0, 1, 4], [], Sub.mk' rfl (by repeat' (first | exact trivial | exact Or.inl (ti_succ (by assumption) (by assumption)) | exact Or.inl rfl | exact rfl | exact Nat.le_refl _ | apply And.intro)) (by repeat' (first | exact trivial | exact Or.inl (ti_succ (by assumption) (by assumption)) | exact Or.inl rfl | exact rfl | exact Nat.le_refl _ | apply And.intro)) rfl rfl, trivial⟩
  rintro _ - -
  rw [hE0]
  clear hE0 hdv hdp hh
  conv => whnf
  refine acall.gen [0] [] _ _ _ _ (rOk r1) rfl rfl rfl rfl (by repeat' (first | exact trivial | exact Or.inl (ti_succ (by assumption) (by assumption)) | exact Or.inl rfl | exact rfl | exact Nat.le_refl _ | apply And.intro)) (by repeat' (first | exact trivial | exact Or.inl (ti_succ (by assumption) (by assumption)) | exact Or.inl rfl | exact rfl | exact Nat.le_refl _ | apply And.intro)) rfl rfl fun _ => ?_
  conv => whnf
  cases h1 : r1.ok with
  | false =>
    have hE : unaryF (fun r d => exprG n r 1 d) (fun r d => unG n r d) ⟨tk, tx, tw, tp⟩ r1 deep = (ex0, r1) := by unfold unaryF; rw [h1]; rfl
    rw [hE]
    conv => whnf
    exact ⟨⟨.inl rfl, .inl rfl, .inl rfl, .inl rfl, .inr ⟨rfl, _, _, rfl⟩, .inl rfl, trivial⟩, (by repeat' (first | exact trivial | exact Or.inl (ti_succ (by assumption) (by assumption)) | exact Or.inl rfl | exact rfl | exact Nat.le_refl _ | apply And.intro))⟩
  | true =>
  conv => whnf
  refine csplit (fun h2 => ?_) (fun h2 => ?_)
  · have h2 : (tk == 3) = true := h2
    have hlt := hkind (by rw [show tk = 3 by simpa using h2]; decide)
    have hE : unaryF (fun r d => exprG n r 1 d) (fun r d => unG n r d) ⟨tk, tx, tw, tp⟩ r1 deep = (.mk 1 0 tw ⟨#[]⟩ [] tp, r1.step) := by unfold unaryF; rw [h1, h2]; rfl
    rw [hE]
    conv => whnf
    exact ⟨⟨.inl rfl, .inl rfl, .inl rfl, .inl rfl, .inr ⟨rfl, _, _, rfl⟩, .inl rfl, trivial⟩, ⟨rfl, .inl rfl, .inl (ti_succ (show r1.i < r1.l.length by rw [hD1, hD2]; exact hlt) (by rw [hD1]; omega)), .inl rfl, .inl rfl, .inl rfl, trivial⟩, trivial⟩
  have h2 : (tk == 3) = false := h2
  conv => whnf
  refine csplit (fun h3 => ?_) (fun h3 => ?_)
  · have h3 : (tk == 1) = true := h3
    have hlt := hkind (by rw [show tk = 1 by simpa using h3]; decide)
    have hE : unaryF (fun r d => exprG n r 1 d) (fun r d => unG n r d) ⟨tk, tx, tw, tp⟩ r1 deep = (.mk 2 0 0 tx [] tp, r1.step) := by unfold unaryF; rw [h1, h2, h3]; rfl
    rw [hE]
    conv => whnf
    exact ⟨⟨.inl rfl, .inl rfl, .inl rfl, .inl rfl, .inr ⟨rfl, _, _, rfl⟩, .inl rfl, trivial⟩, ⟨rfl, .inl rfl, .inl (ti_succ (show r1.i < r1.l.length by rw [hD1, hD2]; exact hlt) (by rw [hD1]; omega)), .inl rfl, .inl rfl, .inl rfl, trivial⟩, trivial⟩
  have h3 : (tk == 1) = false := h3
  have hfuel : r1.i < r1.l.length → 2 * (r1.step.l.length - r1.step.i) + 2 ≤ n ∧ r1.step.i ≤ r1.step.l.length ∧ r1.step.l.length ≤ 65536 := fun h => by
    show 2 * (r1.l.length - (r1.i + 1)) + 2 ≤ n ∧ r1.i + 1 ≤ r1.l.length ∧ r1.l.length ≤ 65536
    rw [hD1] at h ⊢
    rw [hD2] at h ⊢
    omega
  conv => whnf
  refine acall.gen [0] [] _ _ _ _ (rTake r1 ⟨#[40]⟩) rfl rfl rfl rfl (by repeat' (first | exact trivial | exact Or.inl (ti_succ (by assumption) (by assumption)) | exact Or.inl rfl | exact rfl | exact Nat.le_refl _ | apply And.intro)) (by repeat' (first | exact trivial | exact Or.inl (ti_succ (by assumption) (by assumption)) | exact Or.inl rfl | exact rfl | exact Nat.le_refl _ | apply And.intro)) rfl rfl fun _ => ?_
  conv => whnf
  cases h4 : r1.takes ⟨#[40]⟩ with
  | true =>
    obtain ⟨f1, f2, f3⟩ := hfuel (takes_lt h4)
    have hE : unaryF (fun r d => exprG n r 1 d) (fun r d => unG n r d) ⟨tk, tx, tw, tp⟩ r1 deep = ((exprG n r1.step 1 (IntKind.i64.wrap (deep + 1))).1, (exprG n r1.step 1 (IntKind.i64.wrap (deep + 1))).2.want ⟨#[41]⟩) := by unfold unaryF; rw [h1, h2, h3, h4]; rfl
    rw [hE]
    have hk := hX r1.step 1 (IntKind.i64.wrap (deep + 1)) f3 f2 f1
    have ht : r1.take ⟨#[40]⟩ = r1.step := by unfold Rd.take; rw [h4]; rfl
    rw [ht]
    generalize exprG n r1.step 1 (IntKind.i64.wrap (deep + 1)) = x at hk
    obtain ⟨⟨a1, a2, a3, a4, a5, a6⟩, r2⟩ := x
    conv => whnf
    refine acall.gen [0] [] _ _ _ _ (hk) rfl rfl rfl rfl (by repeat' (first | exact trivial | exact Or.inl (ti_succ (by assumption) (by assumption)) | exact Or.inl rfl | exact rfl | exact Nat.le_refl _ | apply And.intro)) (by repeat' (first | exact trivial | exact Or.inl (ti_succ (by assumption) (by assumption)) | exact Or.inl rfl | exact rfl | exact Nat.le_refl _ | apply And.intro)) rfl rfl fun _ => ?_
    conv => whnf
    refine acall.gen [0] [] _ _ _ _ (rWant r2 ⟨#[41]⟩) rfl rfl rfl rfl (by repeat' (first | exact trivial | exact Or.inl (ti_succ (by assumption) (by assumption)) | exact Or.inl rfl | exact rfl | exact Nat.le_refl _ | apply And.intro)) (by repeat' (first | exact trivial | exact Or.inl (ti_succ (by assumption) (by assumption)) | exact Or.inl rfl | exact rfl | exact Nat.le_refl _ | apply And.intro)) rfl rfl fun _ => ?_
    conv => whnf
    exact ⟨(by repeat' (first | exact trivial | exact Or.inl (ti_succ (by assumption) (by assumption)) | exact Or.inl rfl | exact rfl | exact Nat.le_refl _ | apply And.intro)), (by repeat' (first | exact trivial | exact Or.inl (ti_succ (by assumption) (by assumption)) | exact Or.inl rfl | exact rfl | exact Nat.le_refl _ | apply And.intro))⟩
  | false =>
  have ht4 : r1.take ⟨#[40]⟩ = r1 := by unfold Rd.take; rw [h4]; rfl
  rw [ht4]
  conv => whnf
  refine acall.gen [0] [] _ _ _ _ (rTake r1 ⟨#[45]⟩) rfl rfl rfl rfl (by repeat' (first | exact trivial | exact Or.inl (ti_succ (by assumption) (by assumption)) | exact Or.inl rfl | exact rfl | exact Nat.le_refl _ | apply And.intro)) (by repeat' (first | exact trivial | exact Or.inl (ti_succ (by assumption) (by assumption)) | exact Or.inl rfl | exact rfl | exact Nat.le_refl _ | apply And.intro)) rfl rfl fun _ => ?_
  conv => whnf
  cases h5 : r1.takes ⟨#[45]⟩ with
  | true =>
    obtain ⟨f1, f2, f3⟩ := hfuel (takes_lt h5)
    have hE : unaryF (fun r d => exprG n r 1 d) (fun r d => unG n r d) ⟨tk, tx, tw, tp⟩ r1 deep = (.mk 3 17 0 ⟨#[]⟩ [(unG n r1.step (IntKind.i64.wrap (deep + 1))).1] tp, (unG n r1.step (IntKind.i64.wrap (deep + 1))).2) := by unfold unaryF; rw [h1, h2, h3, h4, h5]; rfl
    rw [hE]
    have hk := hU r1.step (IntKind.i64.wrap (deep + 1)) f3 f2 (by omega)
    have ht : r1.take ⟨#[45]⟩ = r1.step := by unfold Rd.take; rw [h5]; rfl
    rw [ht]
    generalize unG n r1.step (IntKind.i64.wrap (deep + 1)) = x at hk
    obtain ⟨⟨a1, a2, a3, a4, a5, a6⟩, r2⟩ := x
    conv => whnf
    refine acall.gen [0] [] _ _ _ _ (hk) rfl rfl rfl rfl (by repeat' (first | exact trivial | exact Or.inl (ti_succ (by assumption) (by assumption)) | exact Or.inl rfl | exact rfl | exact Nat.le_refl _ | apply And.intro)) (by repeat' (first | exact trivial | exact Or.inl (ti_succ (by assumption) (by assumption)) | exact Or.inl rfl | exact rfl | exact Nat.le_refl _ | apply And.intro)) rfl rfl fun _ => ?_
    conv => whnf
    exact ⟨⟨.inl rfl, .inl rfl, .inl rfl, .inl rfl, ⟨rfl, Nat.le_refl 1, rfl⟩, .inl rfl, trivial⟩, (by repeat' (first | exact trivial | exact Or.inl (ti_succ (by assumption) (by assumption)) | exact Or.inl rfl | exact rfl | exact Nat.le_refl _ | apply And.intro))⟩
  | false =>
  have ht5 : r1.take ⟨#[45]⟩ = r1 := by unfold Rd.take; rw [h5]; rfl
  rw [ht5]
  conv => whnf
  refine acall.gen [0] [] _ _ _ _ (rTake r1 ⟨#[33]⟩) rfl rfl rfl rfl (by repeat' (first | exact trivial | exact Or.inl (ti_succ (by assumption) (by assumption)) | exact Or.inl rfl | exact rfl | exact Nat.le_refl _ | apply And.intro)) (by repeat' (first | exact trivial | exact Or.inl (ti_succ (by assumption) (by assumption)) | exact Or.inl rfl | exact rfl | exact Nat.le_refl _ | apply And.intro)) rfl rfl fun _ => ?_
  conv => whnf
  cases h6 : r1.takes ⟨#[33]⟩ with
  | true =>
    obtain ⟨f1, f2, f3⟩ := hfuel (takes_lt h6)
    have hE : unaryF (fun r d => exprG n r 1 d) (fun r d => unG n r d) ⟨tk, tx, tw, tp⟩ r1 deep = (.mk 3 18 0 ⟨#[]⟩ [(unG n r1.step (IntKind.i64.wrap (deep + 1))).1] tp, (unG n r1.step (IntKind.i64.wrap (deep + 1))).2) := by unfold unaryF; rw [h1, h2, h3, h4, h5, h6]; rfl
    rw [hE]
    have hk := hU r1.step (IntKind.i64.wrap (deep + 1)) f3 f2 (by omega)
    have ht : r1.take ⟨#[33]⟩ = r1.step := by unfold Rd.take; rw [h6]; rfl
    rw [ht]
    generalize unG n r1.step (IntKind.i64.wrap (deep + 1)) = x at hk
    obtain ⟨⟨a1, a2, a3, a4, a5, a6⟩, r2⟩ := x
    conv => whnf
    refine acall.gen [0] [] _ _ _ _ (hk) rfl rfl rfl rfl (by repeat' (first | exact trivial | exact Or.inl (ti_succ (by assumption) (by assumption)) | exact Or.inl rfl | exact rfl | exact Nat.le_refl _ | apply And.intro)) (by repeat' (first | exact trivial | exact Or.inl (ti_succ (by assumption) (by assumption)) | exact Or.inl rfl | exact rfl | exact Nat.le_refl _ | apply And.intro)) rfl rfl fun _ => ?_
    conv => whnf
    exact ⟨⟨.inl rfl, .inl rfl, .inl rfl, .inl rfl, ⟨rfl, Nat.le_refl 1, rfl⟩, .inl rfl, trivial⟩, (by repeat' (first | exact trivial | exact Or.inl (ti_succ (by assumption) (by assumption)) | exact Or.inl rfl | exact rfl | exact Nat.le_refl _ | apply And.intro))⟩
  | false =>
  have ht6 : r1.take ⟨#[33]⟩ = r1 := by unfold Rd.take; rw [h6]; rfl
  rw [ht6]
  have hE : unaryF (fun r d => exprG n r 1 d) (fun r d => unG n r d) ⟨tk, tx, tw, tp⟩ r1 deep = (ex0, r1.fail 2) := by unfold unaryF; rw [h1, h2, h3, h4, h5, h6]; rfl
  rw [hE]
  conv => whnf
  refine acall.gen [0] [] _ _ _ _ (rFail r1 2) rfl rfl rfl rfl (by repeat' (first | exact trivial | exact Or.inl (ti_succ (by assumption) (by assumption)) | exact Or.inl rfl | exact rfl | exact Nat.le_refl _ | apply And.intro)) (by repeat' (first | exact trivial | exact Or.inl (ti_succ (by assumption) (by assumption)) | exact Or.inl rfl | exact rfl | exact Nat.le_refl _ | apply And.intro)) rfl rfl fun _ => ?_
  conv => whnf
  exact ⟨⟨.inl rfl, .inl rfl, .inl rfl, .inl rfl, .inr ⟨rfl, _, _, rfl⟩, .inl rfl, trivial⟩, (by repeat' (first | exact trivial | exact Or.inl (ti_succ (by assumption) (by assumption)) | exact Or.inl rfl | exact rfl | exact Nat.le_refl _ | apply And.intro))⟩
theorem rExpr {n : Nat} (hX : ExK n) (hU : UnK n) : ExK (n + 1) := by
  intro r lv deep hL hi hn
  refine Ctr.of hT hmix Tryz.func79 rfl (fun _ _ => by kernel_rfl) rfl fun hok => ?_
  clear hok
  have hE0 : exprG (n + 1) r lv deep = exprLoop (fun r lv => exprG n r lv deep) lv (r.l.length + 1) (unG n r deep).1 (unG n r deep).2 := rfl
  have hk := hU r deep hL hi (by omega)
  have hg := (ex_goes n).2 r deep
  generalize unG n r deep = u at hE0 hk hg
  obtain ⟨⟨a1, a2, a3, a4, a5, a6⟩, r1⟩ := u
  have hgl : r1.l = r.l := hg.l
  have hgi : r.i ≤ r1.i := hg.i
  have hgn : r1.i ≤ r.l.length := hg.n hi
  clear hg
  conv => whnf
  refine acall.gen [0] [] _ _ _ _ (hk) rfl rfl rfl rfl (by repeat' (first | exact trivial | exact Or.inl (ti_succ (by assumption) (by assumption)) | exact Or.inl rfl | exact rfl | exact Nat.le_refl _ | apply And.intro)) (by repeat' (first | exact trivial | exact Or.inl (ti_succ (by assumption) (by assumption)) | exact Or.inl rfl | exact rfl | exact Nat.le_refl _ | apply And.intro)) rfl rfl fun _ => ?_
  conv => whnf
  refine LoopL.by (fun x : Nat × Expr × Rd => ⟨[(0, .ptr 0 0), (1, .tr (ti lv)), (2, .tr (ti deep)), (6, .ptr 1 0), (7, .ptr 2 0)], [(0, rdB x.2.2), (1, exZ), (2, .cells 62 (x.2.1.cells.map .tr))], 3⟩)
    (fun x => r.l.length + 1 ≤ x.1 + x.2.2.i ∧ x.2.2.l = r.l ∧ r.i ≤ x.2.2.i ∧ x.2.2.i ≤ r.l.length ∧ exprG (n + 1) r lv deep = exprLoop (fun r lv => exprG n r lv deep) lv x.1 x.2.1 x.2.2) (fun x => x.1)
    (r.l.length + 1, .mk a1 a2 a3 a4 a5 a6, r1) [0, 1, 5] [] (Sub.mk' rfl (by repeat' (first | exact trivial | exact Or.inl (ti_succ (by assumption) (by assumption)) | exact Or.inl rfl | exact rfl | exact Nat.le_refl _ | apply And.intro)) (by repeat' (first | exact trivial | exact Or.inl (ti_succ (by assumption) (by assumption)) | exact Or.inl rfl | exact rfl | exact Nat.le_refl _ | apply And.intro)) rfl rfl) ⟨by show r.l.length + 1 ≤ r.l.length + 1 + r1.i; omega, hgl, hgi, hgn, hE0⟩ ?_
  rintro ⟨f, ⟨b1, b2, b3, b4, b5, b6⟩, r2⟩ ⟨i1, i2, i3, i4, i5⟩ -
  have i1 : r.l.length + 1 ≤ f + r2.i := i1
  have i2 : r2.l = r.l := i2
  have i3 : r.i ≤ r2.i := i3
  have i4 : r2.i ≤ r.l.length := i4
  obtain ⟨f, rfl⟩ : ∃ g, f = g + 1 := ⟨f - 1, by omega⟩
  have i5 : exprG (n + 1) r lv deep = bif r2.ok && !r2.stops lv then exprLoop (fun r lv => exprG n r lv deep) lv f (.mk 4 (findO r2.here.text).1 0 ⟨#[]⟩ [.mk b1 b2 b3 b4 b5 b6, (exprG n r2.step r2.next deep).1] r2.here.at_) (exprG n r2.step r2.next deep).2 else (.mk b1 b2 b3 b4 b5 b6, r2) := i5
  conv => whnf
  refine acall.gen [0] [] _ _ _ _ (rOk r2) rfl rfl rfl rfl (by repeat' (first | exact trivial | exact Or.inl (ti_succ (by assumption) (by assumption)) | exact Or.inl rfl | exact rfl | exact Nat.le_refl _ | apply And.intro)) (by repeat' (first | exact trivial | exact Or.inl (ti_succ (by assumption) (by assumption)) | exact Or.inl rfl | exact rfl | exact Nat.le_refl _ | apply And.intro)) rfl rfl fun _ => ?_
  conv => whnf
  cases h1 : r2.ok with
  | false =>
    rw [h1] at i5
    rw [show exprG (n + 1) r lv deep = (.mk b1 b2 b3 b4 b5 b6, r2) from i5]
    conv => whnf
    refine ⟨fun _ => ?_, fun h => absurd rfl h⟩
    conv => whnf
    exact ⟨(by repeat' (first | exact trivial | exact Or.inl (ti_succ (by assumption) (by assumption)) | exact Or.inl rfl | exact rfl | exact Nat.le_refl _ | apply And.intro)), (by repeat' (first | exact trivial | exact Or.inl (ti_succ (by assumption) (by assumption)) | exact Or.inl rfl | exact rfl | exact Nat.le_refl _ | apply And.intro))⟩
  | true =>
  rw [h1, Bool.true_and] at i5
  have hh := rHere r2
  have hlt := here_lt (r := r2)
  have hst : r2.stops lv = ((r2.here.kind != 4) || !(findO r2.here.text).2 || decide (levelI (findO r2.here.text).1 < lv)) := rfl
  have hnx : r2.next = IntKind.i64.wrap (levelI (findO r2.here.text).1 + 1) := rfl
  generalize r2.here = t at hh hlt hst hnx i5
  obtain ⟨tk, tx, tw, tp⟩ := t
  have hf := rFind tx
  have hst : r2.stops lv = ((tk != 4) || !(findO tx).2 || decide (levelI (findO tx).1 < lv)) := hst
  have hnx : r2.next = IntKind.i64.wrap (levelI (findO tx).1 + 1) := hnx
  have i5 : exprG (n + 1) r lv deep = bif !r2.stops lv then exprLoop (fun r lv => exprG n r lv deep) lv f (.mk 4 (findO tx).1 0 ⟨#[]⟩ [.mk b1 b2 b3 b4 b5 b6, (exprG n r2.step r2.next deep).1] tp) (exprG n r2.step r2.next deep).2 else (.mk b1 b2 b3 b4 b5 b6, r2) := i5
  generalize findO tx = o at hf hst hnx i5
  obtain ⟨op, is⟩ := o
  have stop : r2.stops lv = true → exprG (n + 1) r lv deep = (.mk b1 b2 b3 b4 b5 b6, r2) := fun h => by rw [h] at i5; exact i5
  have hst : r2.stops lv = ((tk != 4) || !is || decide (levelI op < lv)) := hst
  have hnx : r2.next = IntKind.i64.wrap (levelI op + 1) := hnx
  conv => whnf
  refine acall.gen [0] [] _ _ _ _ (hh) rfl rfl rfl rfl (by repeat' (first | exact trivial | exact Or.inl (ti_succ (by assumption) (by assumption)) | exact Or.inl rfl | exact rfl | exact Nat.le_refl _ | apply And.intro)) (by repeat' (first | exact trivial | exact Or.inl (ti_succ (by assumption) (by assumption)) | exact Or.inl rfl | exact rfl | exact Nat.le_refl _ | apply And.intro)) rfl rfl fun _ => ?_
  conv => whnf
  refine acall.pure _ (hf) rfl rfl fun _ => ?_
  conv => whnf
  refine csplit (fun h2 => ?_) (fun h2 => ?_)
  · rw [stop (by rw [hst, show (tk != 4) = true from h2]; rfl)]
    conv => whnf
    refine ⟨fun h => absurd h (by decide), fun _ => ?_⟩
    conv => whnf
    refine ⟨fun _ => ?_, fun h => absurd rfl h⟩
    conv => whnf
    exact ⟨(by repeat' (first | exact trivial | exact Or.inl (ti_succ (by assumption) (by assumption)) | exact Or.inl rfl | exact rfl | exact Nat.le_refl _ | apply And.intro)), (by repeat' (first | exact trivial | exact Or.inl (ti_succ (by assumption) (by assumption)) | exact Or.inl rfl | exact rfl | exact Nat.le_refl _ | apply And.intro))⟩
  have h2 : (tk != 4) = false := h2
  conv => whnf
  refine csplit (fun h3 => ?_) (fun h3 => ?_)
  · rw [stop (by rw [hst, show (!is) = true from h3]; simp)]
    conv => whnf
    refine ⟨fun h => absurd h (by decide), fun _ => ?_⟩
    conv => whnf
    refine ⟨fun _ => ?_, fun h => absurd rfl h⟩
    conv => whnf
    exact ⟨(by repeat' (first | exact trivial | exact Or.inl (ti_succ (by assumption) (by assumption)) | exact Or.inl rfl | exact rfl | exact Nat.le_refl _ | apply And.intro)), (by repeat' (first | exact trivial | exact Or.inl (ti_succ (by assumption) (by assumption)) | exact Or.inl rfl | exact rfl | exact Nat.le_refl _ | apply And.intro))⟩
  have h3 : (!is) = false := h3
  conv => whnf
  refine acall.pure _ (rLevel op) rfl rfl fun _ => ?_
  conv => whnf
  refine csplit (fun h4 => ?_) (fun h4 => ?_)
  · rw [stop (by rw [hst, show decide (levelI op < lv) = true from h4]; simp)]
    conv => whnf
    refine ⟨fun h => absurd h (by decide), fun _ => ?_⟩
    conv => whnf
    refine ⟨fun _ => ?_, fun h => absurd rfl h⟩
    conv => whnf
    exact ⟨(by repeat' (first | exact trivial | exact Or.inl (ti_succ (by assumption) (by assumption)) | exact Or.inl rfl | exact rfl | exact Nat.le_refl _ | apply And.intro)), (by repeat' (first | exact trivial | exact Or.inl (ti_succ (by assumption) (by assumption)) | exact Or.inl rfl | exact rfl | exact Nat.le_refl _ | apply And.intro))⟩
  have h4 : decide (levelI op < lv) = false := h4
  rw [show r2.stops lv = false by rw [hst, h2, h3, h4]; rfl] at i5
  have hlt2 : r2.i < r2.l.length := hlt (by show tk ≠ 0; rw [show tk = 4 by simpa using h2]; decide)
  rw [i2] at hlt2
  have hk2 := hX r2.step r2.next deep (by show r2.l.length ≤ 65536; rw [i2]; exact hL) (by show r2.i + 1 ≤ r2.l.length; rw [i2]; omega) (by show 2 * (r2.l.length - (r2.i + 1)) + 2 ≤ n; rw [i2]; omega)
  have hg2 := (ex_goes n).1 r2.step r2.next deep
  rw [hnx] at hk2 hg2 i5
  generalize exprG n r2.step (IntKind.i64.wrap (levelI op + 1)) deep = u at hk2 hg2 i5
  obtain ⟨⟨c1, c2, c3, c4, c5, c6⟩, r3⟩ := u
  have g1 : r3.l = r2.l := hg2.l
  have g2 : r2.i + 1 ≤ r3.i := hg2.i
  have g3 : r3.i ≤ r2.l.length := hg2.n (by show r2.i + 1 ≤ r2.l.length; rw [i2]; omega)
  rw [i2] at g1 g3
  conv => whnf
  refine acall.pure _ (rLevel op) rfl rfl fun _ => ?_
  conv => whnf
  refine acall.gen [0] [] _ _ _ _ hk2 rfl rfl rfl rfl (by repeat' (first | exact trivial | exact Or.inl (ti_succ (by assumption) (by assumption)) | exact Or.inl rfl | exact rfl | exact Nat.le_refl _ | apply And.intro)) ⟨⟨rfl, .inl rfl, .inl (ti_succ hlt2 (by omega)), .inl rfl, .inl rfl, .inl rfl, trivial⟩, trivial⟩ rfl rfl fun _ => ?_
  conv => whnf
  exact ⟨(f, .mk 4 op 0 ⟨#[]⟩ [.mk b1 b2 b3 b4 b5 b6, .mk c1 c2 c3 c4 c5 c6] tp, r3), [0, 1, 2], [], Sub.mk' rfl (by repeat' (first | exact trivial | exact Or.inl (ti_succ (by assumption) (by assumption)) | exact Or.inl rfl | exact rfl | exact Nat.le_refl _ | apply And.intro)) ⟨(by repeat' (first | exact trivial | exact Or.inl (ti_succ (by assumption) (by assumption)) | exact Or.inl rfl | exact rfl | exact Nat.le_refl _ | apply And.intro)), (by repeat' (first | exact trivial | exact Or.inl (ti_succ (by assumption) (by assumption)) | exact Or.inl rfl | exact rfl | exact Nat.le_refl _ | apply And.intro)), ⟨rfl, .inl rfl, .inl rfl, .inl rfl, .inl rfl, ⟨rfl, Nat.le_refl 2, rfl⟩, .inl rfl, trivial⟩, trivial⟩ rfl rfl, ⟨by show r.l.length + 1 ≤ f + r3.i; omega, g1, by show r.i ≤ r3.i; omega, g3, i5⟩, Nat.lt_succ_self f⟩
theorem rEx : ∀ n : Nat, ExK n ∧ UnK n
  | 0 => ⟨fun r lv deep _ _ h => by omega, fun r deep _ _ h => by omega⟩
  | n + 1 => ⟨rExpr (rEx n).1 (rEx n).2, rUnary (rEx n).1 (rEx n).2⟩
end Go.Proofs.YtbpcbhmdjphodaaGreat.am

namespace Go.Proofs.YtbpcbhmdjphodaaGreat.am
open Go
def Rd.ex (r : Rd) : Expr × Rd := exprG (2 * r.l.length + 2) r 1 0
theorem rex_goes (r : Rd) : Goes r r.ex.2 := (ex_goes _).1 r 1 0
def Rd.round (r : Rd) : List Expr × Rd := ([(r.want ⟨#[40]⟩).ex.1], (r.want ⟨#[40]⟩).ex.2.want ⟨#[41]⟩)
theorem round_goes (r : Rd) : Goes r r.round.2 := ((want_goes r _).trans (rex_goes _)).trans (want_goes _ _)
abbrev wSwap : ByteArray := ⟨#[115, 119, 97, 112]⟩
def Rd.eq (r : Rd) : Rd := r.name.want ⟨#[61]⟩
def Rd.sw1 (r : Rd) : Rd := r.eq.step.want ⟨#[40]⟩
def Rd.sw2 (r : Rd) : Rd := r.sw1.name.want ⟨#[44]⟩
def Rd.assign (r : Rd) (a : Int) : Stmt × Rd :=
  bif r.eq.takes wSwap then (.mk 2 r.nameS r.sw1.nameS [r.sw2.ex.1] [] [] a, (r.sw2.ex.2.want ⟨#[41]⟩).want ⟨#[59]⟩)
  else (.mk 1 r.nameS ⟨#[]⟩ [r.eq.ex.1] [] [] a, r.eq.ex.2.want ⟨#[59]⟩)
theorem eq_goes (r : Rd) : Goes r.name r.eq := want_goes _ _
theorem assign_goes (r : Rd) (a : Int) : Goes r.name (r.assign a).2 := by
  unfold Rd.assign
  cases h : r.eq.takes wSwap with
  | true => exact ((((((((eq_goes r).trans (step_goes (takes_ok h) (takes_lt h))).trans (want_goes _ _)).trans (name_goes _)).trans (want_goes _ _)).trans (rex_goes _)).trans (want_goes _ _)).trans (want_goes _ _))
  | false => exact ((eq_goes r).trans (rex_goes _)).trans (want_goes _ _)
def Rd.blk0 (r : Rd) (deep : Int) : Rd := bif r.ok && r.is ⟨#[123]⟩ && decide (deep ≥ 64) then r.fail 3 else r
def blockF (S : Rd → Int → List Stmt × Rd) (r : Rd) (deep : Int) : List Stmt × Rd := S ((r.blk0 deep).want ⟨#[123]⟩) (IntKind.i64.wrap (deep + 1))
theorem blk0_goes (r : Rd) (deep : Int) : Goes r (r.blk0 deep) := by
  unfold Rd.blk0
  cases (r.ok && r.is ⟨#[123]⟩ && decide (deep ≥ 64)) with
  | true => exact fail_goes r 3
  | false => exact .refl r
theorem blockF_goes {S : Rd → Int → List Stmt × Rd} (h : ∀ r d, Goes r (S r d).2) (r : Rd) (deep : Int) : Goes r (blockF S r deep).2 := ((blk0_goes r deep).trans (want_goes _ _)).trans (h _ _)
abbrev wIf : ByteArray := ⟨#[105, 102]⟩
abbrev wElse : ByteArray := ⟨#[101, 108, 115, 101]⟩
abbrev wWhile : ByteArray := ⟨#[119, 104, 105, 108, 101]⟩
abbrev wLock : ByteArray := ⟨#[108, 111, 99, 107]⟩
abbrev wPrint : ByteArray := ⟨#[112, 114, 105, 110, 116]⟩
abbrev wSkip : ByteArray := ⟨#[115, 107, 105, 112]⟩
def stF (B : Rd → List Stmt × Rd) (a : Int) (r : Rd) : Stmt × Rd :=
  bif r.takes wIf then
    (bif (B r.step.round.2).2.takes wElse then (.mk 3 ⟨#[]⟩ ⟨#[]⟩ r.step.round.1 (B r.step.round.2).1 (B (B r.step.round.2).2.step).1 a, (B (B r.step.round.2).2.step).2)
    else (.mk 3 ⟨#[]⟩ ⟨#[]⟩ r.step.round.1 (B r.step.round.2).1 [] a, (B r.step.round.2).2))
  else bif r.takes wWhile then (.mk 4 ⟨#[]⟩ ⟨#[]⟩ r.step.round.1 (B r.step.round.2).1 [] a, (B r.step.round.2).2)
  else bif r.takes wLock then (.mk 5 r.step.nameS ⟨#[]⟩ [] (B r.step.name).1 [] a, (B r.step.name).2)
  else bif r.takes wPrint then (.mk 6 ⟨#[]⟩ ⟨#[]⟩ [r.step.ex.1] [] [] a, r.step.ex.2.want ⟨#[59]⟩)
  else bif r.takes wSkip then (.mk 7 ⟨#[]⟩ ⟨#[]⟩ [] [] [] a, r.step.want ⟨#[59]⟩)
  else r.assign a
/-- it goes over something, or there is a fault -/
def Eats (r r' : Rd) : Prop := Goes r r' ∧ (r'.ok = true → r.i < r'.i)
theorem eats_step {r r' : Rd} {s : ByteArray} (h : r.takes s = true) (k : Goes r.step r') : Eats r r' :=
  ⟨(step_goes (takes_ok h) (takes_lt h)).trans k, fun _ => k.i⟩
theorem stF_eats {B : Rd → List Stmt × Rd} (hB : ∀ r, Goes r (B r).2) (a : Int) (r : Rd) : Eats r (stF B a r).2 := by
  unfold stF
  cases h1 : r.takes wIf with
  | true =>
    rw [cond_true]
    have g := (round_goes r.step).trans (hB r.step.round.2)
    cases h2 : (B r.step.round.2).2.takes wElse with
    | true => exact eats_step h1 ((g.trans (step_goes (takes_ok h2) (takes_lt h2))).trans (hB _))
    | false => exact eats_step h1 g
  | false =>
  rw [cond_false]
  cases h2 : r.takes wWhile with
  | true => exact eats_step h2 ((round_goes r.step).trans (hB r.step.round.2))
  | false =>
  rw [cond_false]
  cases h3 : r.takes wLock with
  | true => exact eats_step h3 ((name_goes r.step).trans (hB _))
  | false =>
  rw [cond_false]
  cases h4 : r.takes wPrint with
  | true => exact eats_step h4 ((rex_goes r.step).trans (want_goes _ _))
  | false =>
  rw [cond_false]
  cases h5 : r.takes wSkip with
  | true => exact eats_step h5 (want_goes _ _)
  | false =>
  rw [cond_false]
  have g := assign_goes r a
  refine ⟨(name_goes r).trans g, fun hk => ?_⟩
  cases hn : r.named with
  | true =>
    have hs : r.name = r.step := by unfold Rd.name; rw [hn]; rfl
    rw [hs] at g
    exact g.i
  | false =>
    have hb : r.name.ok = false := by
      unfold Rd.name
      rw [hn]
      show (r.fail 2).ok = false
      unfold Rd.fail
      cases ho : r.ok with
      | true => rfl
      | false => exact ho
    rw [g.bad hb, hb] at hk
    cases hk
def stmtsLoop (sub : Rd → Stmt × Rd) : Nat → Rd → List Stmt × Rd
  | 0, r => ([], r)
  | f + 1, r => bif r.ok && !r.takes ⟨#[125]⟩ then ((sub r).1 :: (stmtsLoop sub f (sub r).2).1, (stmtsLoop sub f (sub r).2).2) else ([], r.take ⟨#[125]⟩)
theorem stmtsLoop_goes {sub : Rd → Stmt × Rd} (h : ∀ r, Goes r (sub r).2) : ∀ (f : Nat) (r : Rd), Goes r (stmtsLoop sub f r).2
  | 0, r => .refl r
  | f + 1, r => by
    unfold stmtsLoop
    cases (r.ok && !r.takes ⟨#[125]⟩) with
    | false => exact take_goes r _
    | true => exact (h r).trans (stmtsLoop_goes h f _)
mutual
def stG : Nat → Rd → Int → Stmt × Rd
  | 0, r, _ => (.mk 0 ⟨#[]⟩ ⟨#[]⟩ [] [] [] 0, r)
  | n + 1, r, deep => stF (fun r => blockF (fun r d => ssG n r d) r deep) r.here.at_ r
def ssG : Nat → Rd → Int → List Stmt × Rd
  | 0, r, _ => ([], r)
  | n + 1, r, deep => stmtsLoop (fun r => stG n r deep) (r.l.length + 1) r
end
theorem st_goes : ∀ n : Nat, (∀ r deep, Goes r (stG n r deep).2) ∧ ∀ r deep, Goes r (ssG n r deep).2
  | 0 => ⟨fun r _ => .refl r, fun r _ => .refl r⟩
  | n + 1 => by
    obtain ⟨h1, h2⟩ := st_goes n
    refine ⟨fun r deep => ?_, fun r deep => ?_⟩
    · unfold stG
      exact (stF_eats (fun r => blockF_goes h2 r deep) _ r).1
    · unfold ssG
      exact stmtsLoop_goes (fun r => h1 r deep) _ r
theorem st_eats (n : Nat) (r : Rd) (deep : Int) : Eats r (stG (n + 1) r deep).2 := by
  unfold stG
  exact stF_eats (fun r => blockF_goes (st_goes n).2 r deep) _ r
end Go.Proofs.YtbpcbhmdjphodaaGreat.am

namespace Go.Proofs.YtbpcbhmdjphodaaGreat.am
open Go Go.Proofs
theorem rEx0 (r : Rd) (hL : r.l.length ≤ 65536) (hi : r.i ≤ r.l.length) : K 79 [.ptr 0 0, .tr (ti 1), .tr (ti 0)] [rdB r] (.ret r.ex.1.av) [some (rdB r.ex.2)] :=
  (rEx (2 * r.l.length + 2)).1 r 1 0 hL hi (by omega)
/-- bounds go on -/
theorem Goes.lim {r r' : Rd} (h : Goes r r') (hL : r.l.length ≤ 65536) (hi : r.i ≤ r.l.length) : r'.l.length ≤ 65536 ∧ r'.i ≤ r'.l.length := by
  rw [h.l]; exact ⟨hL, h.n hi⟩
theorem rRound (r : Rd) (hL : r.l.length ≤ 65536) (hi : r.i ≤ r.l.length) : K 77 [.ptr 0 0] [rdB r] (.ret (.tr (exprsT r.round.1))) [some (rdB r.round.2)] := by
  refine Ctr.of hT hmix Tryz.func77 rfl (fun _ _ => by kernel_rfl) rfl fun hok => ?_
  clear hok
  obtain ⟨h1, h2⟩ := (want_goes r ⟨#[40]⟩).lim hL hi
  have hk := rEx0 (r.want ⟨#[40]⟩) h1 h2
  unfold Rd.round
  generalize (r.want ⟨#[40]⟩).ex = x at hk
  obtain ⟨⟨a1, a2, a3, a4, a5, a6⟩, r2⟩ := x
  conv => whnf
  refine acall.gen [0] [] _ _ _ _ (rWant r ⟨#[40]⟩) rfl rfl rfl rfl (by repeat' (first | exact trivial | exact Or.inl (ti_succ (by assumption) (by assumption)) | exact Or.inl rfl | exact rfl | exact Nat.le_refl _ | apply And.intro)) (by repeat' (first | exact trivial | exact Or.inl (ti_succ (by assumption) (by assumption)) | exact Or.inl rfl | exact rfl | exact Nat.le_refl _ | apply And.intro)) rfl rfl fun _ => ?_
  conv => whnf
  refine acall.gen [0] [] _ _ _ _ (hk) rfl rfl rfl rfl (by repeat' (first | exact trivial | exact Or.inl (ti_succ (by assumption) (by assumption)) | exact Or.inl rfl | exact rfl | exact Nat.le_refl _ | apply And.intro)) (by repeat' (first | exact trivial | exact Or.inl (ti_succ (by assumption) (by assumption)) | exact Or.inl rfl | exact rfl | exact Nat.le_refl _ | apply And.intro)) rfl rfl fun _ => ?_
  conv => whnf
  refine acall.gen [0] [] _ _ _ _ (rWant r2 ⟨#[41]⟩) rfl rfl rfl rfl (by repeat' (first | exact trivial | exact Or.inl (ti_succ (by assumption) (by assumption)) | exact Or.inl rfl | exact rfl | exact Nat.le_refl _ | apply And.intro)) (by repeat' (first | exact trivial | exact Or.inl (ti_succ (by assumption) (by assumption)) | exact Or.inl rfl | exact rfl | exact Nat.le_refl _ | apply And.intro)) rfl rfl fun _ => ?_
  conv => whnf
  exact ⟨⟨rfl, Nat.le_refl 1, rfl⟩, (by repeat' (first | exact trivial | exact Or.inl (ti_succ (by assumption) (by assumption)) | exact Or.inl rfl | exact rfl | exact Nat.le_refl _ | apply And.intro))⟩
theorem rAssign (r : Rd) (a : Int) (hL : r.l.length ≤ 65536) (hi : r.i ≤ r.l.length) : K 80 [.ptr 0 0, (Stmt.mk 0 ⟨#[]⟩ ⟨#[]⟩ [] [] [] a).av] [rdB r] (.ret (r.assign a).1.av) [some (rdB (r.assign a).2)] := by
  refine Ctr.of hT hmix Tryz.func80 rfl (fun _ _ => by kernel_rfl) rfl fun hok => ?_
  clear hok
  have g0 := (name_goes r).trans (eq_goes r)
  have hn := rName r
  have hw := rWant r.name ⟨#[61]⟩
  have ht := rTake r.eq wSwap
  unfold Rd.assign
  have e0 : r.name.want ⟨#[61]⟩ = r.eq := rfl
  rw [e0] at hw
  cases h : r.eq.takes wSwap with
  | true =>
    rw [cond_true]
    have hs : r.eq.take wSwap = r.eq.step := by unfold Rd.take; rw [h]; rfl
    rw [h, hs] at ht
    have g1 := g0.trans (step_goes (takes_ok h) (takes_lt h))
    have hw2 := rWant r.eq.step ⟨#[40]⟩
    rw [show r.eq.step.want ⟨#[40]⟩ = r.sw1 from rfl] at hw2
    have g2 := g1.trans (want_goes r.eq.step ⟨#[40]⟩)
    have hn2 := rName r.sw1
    have hw3 := rWant r.sw1.name ⟨#[44]⟩
    rw [show r.sw1.name.want ⟨#[44]⟩ = r.sw2 from rfl] at hw3
    have g3 := (g2.trans (name_goes r.sw1)).trans (want_goes r.sw1.name ⟨#[44]⟩)
    obtain ⟨l1, l2⟩ := g3.lim hL hi
    have hk := rEx0 r.sw2 l1 l2
    generalize r.sw2.ex = x at hk
    obtain ⟨⟨a1, a2, a3, a4, a5, a6⟩, r2⟩ := x
    conv => whnf
    refine acall.gen [0] [] _ _ _ _ (hn) rfl rfl rfl rfl (by repeat' (first | exact trivial | exact Or.inl (ti_succ (by assumption) (by assumption)) | exact Or.inl rfl | exact rfl | exact Nat.le_refl _ | apply And.intro)) (by repeat' (first | exact trivial | exact Or.inl (ti_succ (by assumption) (by assumption)) | exact Or.inl rfl | exact rfl | exact Nat.le_refl _ | apply And.intro)) rfl rfl fun _ => ?_
    conv => whnf
    refine acall.gen [0] [] _ _ _ _ (hw) rfl rfl rfl rfl (by repeat' (first | exact trivial | exact Or.inl (ti_succ (by assumption) (by assumption)) | exact Or.inl rfl | exact rfl | exact Nat.le_refl _ | apply And.intro)) (by repeat' (first | exact trivial | exact Or.inl (ti_succ (by assumption) (by assumption)) | exact Or.inl rfl | exact rfl | exact Nat.le_refl _ | apply And.intro)) rfl rfl fun _ => ?_
    conv => whnf
    refine acall.gen [0] [] _ _ _ _ (ht) rfl rfl rfl rfl (by repeat' (first | exact trivial | exact Or.inl (ti_succ (by assumption) (by assumption)) | exact Or.inl rfl | exact rfl | exact Nat.le_refl _ | apply And.intro)) (by repeat' (first | exact trivial | exact Or.inl (ti_succ (by assumption) (by assumption)) | exact Or.inl rfl | exact rfl | exact Nat.le_refl _ | apply And.intro)) rfl rfl fun _ => ?_
    conv => whnf
    refine acall.gen [0] [] _ _ _ _ (hw2) rfl rfl rfl rfl (by repeat' (first | exact trivial | exact Or.inl (ti_succ (by assumption) (by assumption)) | exact Or.inl rfl | exact rfl | exact Nat.le_refl _ | apply And.intro)) (by repeat' (first | exact trivial | exact Or.inl (ti_succ (by assumption) (by assumption)) | exact Or.inl rfl | exact rfl | exact Nat.le_refl _ | apply And.intro)) rfl rfl fun _ => ?_
    conv => whnf
    refine acall.gen [0] [] _ _ _ _ (hn2) rfl rfl rfl rfl (by repeat' (first | exact trivial | exact Or.inl (ti_succ (by assumption) (by assumption)) | exact Or.inl rfl | exact rfl | exact Nat.le_refl _ | apply And.intro)) (by repeat' (first | exact trivial | exact Or.inl (ti_succ (by assumption) (by assumption)) | exact Or.inl rfl | exact rfl | exact Nat.le_refl _ | apply And.intro)) rfl rfl fun _ => ?_
    conv => whnf
    refine acall.gen [0] [] _ _ _ _ (hw3) rfl rfl rfl rfl (by repeat' (first | exact trivial | exact Or.inl (ti_succ (by assumption) (by assumption)) | exact Or.inl rfl | exact rfl | exact Nat.le_refl _ | apply And.intro)) (by repeat' (first | exact trivial | exact Or.inl (ti_succ (by assumption) (by assumption)) | exact Or.inl rfl | exact rfl | exact Nat.le_refl _ | apply And.intro)) rfl rfl fun _ => ?_
    conv => whnf
    refine acall.gen [0] [] _ _ _ _ (hk) rfl rfl rfl rfl (by repeat' (first | exact trivial | exact Or.inl (ti_succ (by assumption) (by assumption)) | exact Or.inl rfl | exact rfl | exact Nat.le_refl _ | apply And.intro)) (by repeat' (first | exact trivial | exact Or.inl (ti_succ (by assumption) (by assumption)) | exact Or.inl rfl | exact rfl | exact Nat.le_refl _ | apply And.intro)) rfl rfl fun _ => ?_
    conv => whnf
    refine acall.gen [0] [] _ _ _ _ (rWant r2 ⟨#[41]⟩) rfl rfl rfl rfl (by repeat' (first | exact trivial | exact Or.inl (ti_succ (by assumption) (by assumption)) | exact Or.inl rfl | exact rfl | exact Nat.le_refl _ | apply And.intro)) (by repeat' (first | exact trivial | exact Or.inl (ti_succ (by assumption) (by assumption)) | exact Or.inl rfl | exact rfl | exact Nat.le_refl _ | apply And.intro)) rfl rfl fun _ => ?_
    conv => whnf
    refine acall.gen [0] [] _ _ _ _ (rWant (r2.want ⟨#[41]⟩) ⟨#[59]⟩) rfl rfl rfl rfl (by repeat' (first | exact trivial | exact Or.inl (ti_succ (by assumption) (by assumption)) | exact Or.inl rfl | exact rfl | exact Nat.le_refl _ | apply And.intro)) (by repeat' (first | exact trivial | exact Or.inl (ti_succ (by assumption) (by assumption)) | exact Or.inl rfl | exact rfl | exact Nat.le_refl _ | apply And.intro)) rfl rfl fun _ => ?_
    conv => whnf
    exact ⟨(by repeat' (first | exact trivial | exact Or.inl rfl | exact Or.inr ⟨rfl, _, _, rfl⟩ | exact rfl | exact Nat.le_refl _ | apply And.intro)), (by repeat' (first | exact trivial | exact Or.inl (ti_succ (by assumption) (by assumption)) | exact Or.inl rfl | exact rfl | exact Nat.le_refl _ | apply And.intro))⟩
  | false =>
    rw [cond_false]
    have hs : r.eq.take wSwap = r.eq := by unfold Rd.take; rw [h]; rfl
    rw [h, hs] at ht
    obtain ⟨l1, l2⟩ := g0.lim hL hi
    have hk := rEx0 r.eq l1 l2
    generalize r.eq.ex = x at hk
    obtain ⟨⟨a1, a2, a3, a4, a5, a6⟩, r2⟩ := x
    conv => whnf
    refine acall.gen [0] [] _ _ _ _ (hn) rfl rfl rfl rfl (by repeat' (first | exact trivial | exact Or.inl (ti_succ (by assumption) (by assumption)) | exact Or.inl rfl | exact rfl | exact Nat.le_refl _ | apply And.intro)) (by repeat' (first | exact trivial | exact Or.inl (ti_succ (by assumption) (by assumption)) | exact Or.inl rfl | exact rfl | exact Nat.le_refl _ | apply And.intro)) rfl rfl fun _ => ?_
    conv => whnf
    refine acall.gen [0] [] _ _ _ _ (hw) rfl rfl rfl rfl (by repeat' (first | exact trivial | exact Or.inl (ti_succ (by assumption) (by assumption)) | exact Or.inl rfl | exact rfl | exact Nat.le_refl _ | apply And.intro)) (by repeat' (first | exact trivial | exact Or.inl (ti_succ (by assumption) (by assumption)) | exact Or.inl rfl | exact rfl | exact Nat.le_refl _ | apply And.intro)) rfl rfl fun _ => ?_
    conv => whnf
    refine acall.gen [0] [] _ _ _ _ (ht) rfl rfl rfl rfl (by repeat' (first | exact trivial | exact Or.inl (ti_succ (by assumption) (by assumption)) | exact Or.inl rfl | exact rfl | exact Nat.le_refl _ | apply And.intro)) (by repeat' (first | exact trivial | exact Or.inl (ti_succ (by assumption) (by assumption)) | exact Or.inl rfl | exact rfl | exact Nat.le_refl _ | apply And.intro)) rfl rfl fun _ => ?_
    conv => whnf
    refine acall.gen [0] [] _ _ _ _ (hk) rfl rfl rfl rfl (by repeat' (first | exact trivial | exact Or.inl (ti_succ (by assumption) (by assumption)) | exact Or.inl rfl | exact rfl | exact Nat.le_refl _ | apply And.intro)) (by repeat' (first | exact trivial | exact Or.inl (ti_succ (by assumption) (by assumption)) | exact Or.inl rfl | exact rfl | exact Nat.le_refl _ | apply And.intro)) rfl rfl fun _ => ?_
    conv => whnf
    refine acall.gen [0] [] _ _ _ _ (rWant r2 ⟨#[59]⟩) rfl rfl rfl rfl (by repeat' (first | exact trivial | exact Or.inl (ti_succ (by assumption) (by assumption)) | exact Or.inl rfl | exact rfl | exact Nat.le_refl _ | apply And.intro)) (by repeat' (first | exact trivial | exact Or.inl (ti_succ (by assumption) (by assumption)) | exact Or.inl rfl | exact rfl | exact Nat.le_refl _ | apply And.intro)) rfl rfl fun _ => ?_
    conv => whnf
    exact ⟨(by repeat' (first | exact trivial | exact Or.inl rfl | exact Or.inr ⟨rfl, _, _, rfl⟩ | exact rfl | exact Nat.le_refl _ | apply And.intro)), (by repeat' (first | exact trivial | exact Or.inl (ti_succ (by assumption) (by assumption)) | exact Or.inl rfl | exact rfl | exact Nat.le_refl _ | apply And.intro))⟩
end Go.Proofs.YtbpcbhmdjphodaaGreat.am

namespace Go.Proofs.YtbpcbhmdjphodaaGreat.am
open Go Go.Proofs
def StK (n : Nat) : Prop := ∀ (r : Rd) (deep : Int), r.l.length ≤ 65536 → r.i ≤ r.l.length → 2 * (r.l.length - r.i) + 1 ≤ n → K 56 [.ptr 0 0, .tr (ti deep)] [rdB r] (.ret (stG n r deep).1.av) [some (rdB (stG n r deep).2)]
def SsK (n : Nat) : Prop := ∀ (r : Rd) (deep : Int), r.l.length ≤ 65536 → r.i ≤ r.l.length → 2 * (r.l.length - r.i) + 2 ≤ n → K 38 [.ptr 0 0, .tr (ti deep)] [rdB r] (.ret (.tr (stmtsT (ssG n r deep).1))) [some (rdB (ssG n r deep).2)]
theorem rBlock {n : Nat} (hS : SsK n) (r : Rd) (deep : Int) (hL : r.l.length ≤ 65536) (hi : r.i ≤ r.l.length) (hn : 2 * (r.l.length - r.i) + 2 ≤ n) :
    K 78 [.ptr 0 0, .tr (ti deep)] [rdB r] (.ret (.tr (stmtsT (blockF (fun r d => ssG n r d) r deep).1))) [some (rdB (blockF (fun r d => ssG n r d) r deep).2)] := by
  refine Ctr.cut [3] hT hmix Tryz.func78 rfl (fun _ _ => by kernel_rfl) rfl fun hok => ?_
  clear hok
  have g := (blk0_goes r deep).trans (want_goes (r.blk0 deep) ⟨#[123]⟩)
  obtain ⟨l1, l2⟩ := g.lim hL hi
  have hk := hS ((r.blk0 deep).want ⟨#[123]⟩) (IntKind.i64.wrap (deep + 1)) l1 l2 (by have h1 := g.i; have h2 := g.l; rw [h2]; omega)
  have hE : blockF (fun r d => ssG n r d) r deep = ssG n ((r.blk0 deep).want ⟨#[123]⟩) (IntKind.i64.wrap (deep + 1)) := rfl
  rw [hE]
  generalize ssG n ((r.blk0 deep).want ⟨#[123]⟩) (IntKind.i64.wrap (deep + 1)) = x at hk
  obtain ⟨b, r2⟩ := x
  have hb : r.blk0 deep = bif r.ok && r.is ⟨#[123]⟩ && decide (deep ≥ 64) then r.fail 3 else r := rfl
  have hw := rWant (r.blk0 deep) ⟨#[123]⟩
  clear g hE
  generalize r.blk0 deep = r1 at *
  conv => whnf
  refine CutL.by (fun _ : Unit => ⟨[(0, .ptr 0 0), (1, .tr (ti deep))], [(0, rdB r1)], 1⟩) (fun _ => True) ?_ ?_
  · conv => whnf
    refine acall.gen [0] [] _ _ _ _ (rOk r) rfl rfl rfl rfl (by repeat' (first | exact trivial | exact Or.inl (ti_succ (by assumption) (by assumption)) | exact Or.inl rfl | exact rfl | exact Nat.le_refl _ | apply And.intro)) (by repeat' (first | exact trivial | exact Or.inl (ti_succ (by assumption) (by assumption)) | exact Or.inl rfl | exact rfl | exact Nat.le_refl _ | apply And.intro)) rfl rfl fun _ => ?_
    conv => whnf
    cases h1 : r.ok with
    | false =>
      rw [h1] at hb
      rw [show r1 = r from hb]
      conv => whnf
      exact ⟨(), [0], [], Sub.mk' rfl (by repeat' (first | exact trivial | exact Or.inl (ti_succ (by assumption) (by assumption)) | exact Or.inl rfl | exact rfl | exact Nat.le_refl _ | apply And.intro)) (by repeat' (first | exact trivial | exact Or.inl (ti_succ (by assumption) (by assumption)) | exact Or.inl rfl | exact rfl | exact Nat.le_refl _ | apply And.intro)) rfl rfl, trivial⟩
    | true =>
    conv => whnf
    refine acall.gen [0] [] _ _ _ _ (rIs r ⟨#[123]⟩) rfl rfl rfl rfl (by repeat' (first | exact trivial | exact Or.inl (ti_succ (by assumption) (by assumption)) | exact Or.inl rfl | exact rfl | exact Nat.le_refl _ | apply And.intro)) (by repeat' (first | exact trivial | exact Or.inl (ti_succ (by assumption) (by assumption)) | exact Or.inl rfl | exact rfl | exact Nat.le_refl _ | apply And.intro)) rfl rfl fun _ => ?_
    conv => whnf
    cases h2 : r.is ⟨#[123]⟩ with
    | false =>
      rw [h1, h2] at hb
      rw [show r1 = r from hb]
      conv => whnf
      exact ⟨(), [0], [], Sub.mk' rfl (by repeat' (first | exact trivial | exact Or.inl (ti_succ (by assumption) (by assumption)) | exact Or.inl rfl | exact rfl | exact Nat.le_refl _ | apply And.intro)) (by repeat' (first | exact trivial | exact Or.inl (ti_succ (by assumption) (by assumption)) | exact Or.inl rfl | exact rfl | exact Nat.le_refl _ | apply And.intro)) rfl rfl, trivial⟩
    | true =>
    conv => whnf
    refine csplit (fun h3 => ?_) (fun h3 => ?_)
    · rw [h1, h2, show decide (deep ≥ 64) = true from h3] at hb
      rw [show r1 = r.fail 3 from hb]
      conv => whnf
      refine acall.gen [0] [] _ _ _ _ (rFail r 3) rfl rfl rfl rfl (by repeat' (first | exact trivial | exact Or.inl (ti_succ (by assumption) (by assumption)) | exact Or.inl rfl | exact rfl | exact Nat.le_refl _ | apply And.intro)) (by repeat' (first | exact trivial | exact Or.inl (ti_succ (by assumption) (by assumption)) | exact Or.inl rfl | exact rfl | exact Nat.le_refl _ | apply And.intro)) rfl rfl fun _ => ?_
      conv => whnf
      exact ⟨(), [0], [], Sub.mk' rfl (by repeat' (first | exact trivial | exact Or.inl (ti_succ (by assumption) (by assumption)) | exact Or.inl rfl | exact rfl | exact Nat.le_refl _ | apply And.intro)) (by repeat' (first | exact trivial | exact Or.inl (ti_succ (by assumption) (by assumption)) | exact Or.inl rfl | exact rfl | exact Nat.le_refl _ | apply And.intro)) rfl rfl, trivial⟩
    · rw [h1, h2, show decide (deep ≥ 64) = false from h3] at hb
      rw [show r1 = r from hb]
      conv => whnf
      exact ⟨(), [0], [], Sub.mk' rfl (by repeat' (first | exact trivial | exact Or.inl (ti_succ (by assumption) (by assumption)) | exact Or.inl rfl | exact rfl | exact Nat.le_refl _ | apply And.intro)) (by repeat' (first | exact trivial | exact Or.inl (ti_succ (by assumption) (by assumption)) | exact Or.inl rfl | exact rfl | exact Nat.le_refl _ | apply And.intro)) rfl rfl, trivial⟩
  rintro _ - -
  conv => whnf
  refine acall.gen [0] [] _ _ _ _ (hw) rfl rfl rfl rfl (by repeat' (first | exact trivial | exact Or.inl (ti_succ (by assumption) (by assumption)) | exact Or.inl rfl | exact rfl | exact Nat.le_refl _ | apply And.intro)) (by repeat' (first | exact trivial | exact Or.inl (ti_succ (by assumption) (by assumption)) | exact Or.inl rfl | exact rfl | exact Nat.le_refl _ | apply And.intro)) rfl rfl fun _ => ?_
  conv => whnf
  refine acall.gen [0] [] _ _ _ _ (hk) rfl rfl rfl rfl (by repeat' (first | exact trivial | exact Or.inl (ti_succ (by assumption) (by assumption)) | exact Or.inl rfl | exact rfl | exact Nat.le_refl _ | apply And.intro)) (by repeat' (first | exact trivial | exact Or.inl (ti_succ (by assumption) (by assumption)) | exact Or.inl rfl | exact rfl | exact Nat.le_refl _ | apply And.intro)) rfl rfl fun _ => ?_
  conv => whnf
  exact ⟨Or.inl rfl, (by repeat' (first | exact trivial | exact Or.inl (ti_succ (by assumption) (by assumption)) | exact Or.inl rfl | exact rfl | exact Nat.le_refl _ | apply And.intro))⟩
theorem rStmt {n : Nat} (hS : SsK n) : StK (n + 1) := by
  intro r deep hL hi hn
  refine Ctr.of hT hmix Tryz.func56 rfl (fun _ _ => by kernel_rfl) rfl fun hok => ?_
  clear hok
  have hh := rHere r
  have hE0 : stG (n + 1) r deep = stF (fun r => blockF (fun r d => ssG n r d) r deep) r.here.at_ r := rfl
  rw [hE0]
  generalize r.here = t at hh
  obtain ⟨tk, tx, tw, a⟩ := t
  clear hE0
  have hB := fun (r' : Rd) (hg : Goes r.step r') (hlt : r.i < r.l.length) => rBlock hS r' deep (by rw [hg.l]; exact hL) (by rw [hg.l]; exact hg.n hlt) (by rw [hg.l]; have : r.i + 1 ≤ r'.i := hg.i; show 2 * (r.l.length - r'.i) + 2 ≤ n; omega)
  have hBg := fun (r' : Rd) => blockF_goes (st_goes n).2 r' deep
  generalize hBB : (fun r => blockF (fun r d => ssG n r d) r deep) = B
  have hB : ∀ r', Goes r.step r' → r.i < r.l.length → K 78 [.ptr 0 0, .tr (ti deep)] [rdB r'] (.ret (.tr (stmtsT (B r').1))) [some (rdB (B r').2)] := fun r' h1 h2 => by rw [← hBB]; exact hB r' h1 h2
  have hBg : ∀ r', Goes r' (B r').2 := fun r' => by rw [← hBB]; exact hBg r'
  clear hBB
  have hstep : r.i < r.l.length → r.step.l.length ≤ 65536 ∧ r.step.i ≤ r.step.l.length := fun h => ⟨hL, h⟩
  unfold stF
  conv => whnf
  refine acall.gen [0] [] _ _ _ _ (hh) rfl rfl rfl rfl (by repeat' (first | exact trivial | exact Or.inl (ti_succ (by assumption) (by assumption)) | exact Or.inl rfl | exact rfl | exact Nat.le_refl _ | apply And.intro)) (by repeat' (first | exact trivial | exact Or.inl (ti_succ (by assumption) (by assumption)) | exact Or.inl rfl | exact rfl | exact Nat.le_refl _ | apply And.intro)) rfl rfl fun _ => ?_
  conv => whnf
  refine acall.gen [0] [] _ _ _ _ (rTake r wIf) rfl rfl rfl rfl (by repeat' (first | exact trivial | exact Or.inl (ti_succ (by assumption) (by assumption)) | exact Or.inl rfl | exact rfl | exact Nat.le_refl _ | apply And.intro)) (by repeat' (first | exact trivial | exact Or.inl (ti_succ (by assumption) (by assumption)) | exact Or.inl rfl | exact rfl | exact Nat.le_refl _ | apply And.intro)) rfl rfl fun _ => ?_
  conv => whnf
  cases h1 : r.takes wIf with
  | true =>
    have hlt := takes_lt h1
    obtain ⟨l1, l2⟩ := hstep hlt
    have hs : r.take wIf = r.step := by unfold Rd.take; rw [h1]; rfl
    rw [hs, cond_true]
    have hk := rRound r.step l1 l2
    have g1 := round_goes r.step
    generalize r.step.round = x at hk g1
    obtain ⟨e, r2⟩ := x
    have g1 : Goes r.step r2 := g1
    have hb := hB r2 g1 hlt
    have g2 := g1.trans (hBg r2)
    show _
    dsimp only at *
    generalize B r2 = y at hb g2
    obtain ⟨b, r3⟩ := y
    dsimp only at *
    have ht := rTake r3 wElse
    cases h2 : r3.takes wElse with
    | true =>
      have hs2 : r3.take wElse = r3.step := by unfold Rd.take; rw [h2]; rfl
      rw [h2, hs2] at ht
      have g3 := g2.trans (step_goes (takes_ok h2) (takes_lt h2))
      have hb2 := hB r3.step g3 hlt
      rw [cond_true]
      generalize B r3.step = z at hb2
      obtain ⟨c, r4⟩ := z
      conv => whnf
      refine acall.gen [0] [] _ _ _ _ (hk) rfl rfl rfl rfl (by repeat' (first | exact trivial | exact Or.inl (ti_succ (by assumption) (by assumption)) | exact Or.inl rfl | exact rfl | exact Nat.le_refl _ | apply And.intro)) (by repeat' (first | exact trivial | exact Or.inl (ti_succ (by assumption) (by assumption)) | exact Or.inl rfl | exact rfl | exact Nat.le_refl _ | apply And.intro)) rfl rfl fun _ => ?_
      conv => whnf
      refine acall.gen [0] [] _ _ _ _ (hb) rfl rfl rfl rfl (by repeat' (first | exact trivial | exact Or.inl (ti_succ (by assumption) (by assumption)) | exact Or.inl rfl | exact rfl | exact Nat.le_refl _ | apply And.intro)) (by repeat' (first | exact trivial | exact Or.inl (ti_succ (by assumption) (by assumption)) | exact Or.inl rfl | exact rfl | exact Nat.le_refl _ | apply And.intro)) rfl rfl fun _ => ?_
      conv => whnf
      refine acall.gen [0] [] _ _ _ _ (ht) rfl rfl rfl rfl (by repeat' (first | exact trivial | exact Or.inl (ti_succ (by assumption) (by assumption)) | exact Or.inl rfl | exact rfl | exact Nat.le_refl _ | apply And.intro)) (by repeat' (first | exact trivial | exact Or.inl (ti_succ (by assumption) (by assumption)) | exact Or.inl rfl | exact rfl | exact Nat.le_refl _ | apply And.intro)) rfl rfl fun _ => ?_
      conv => whnf
      refine acall.gen [0] [] _ _ _ _ (hb2) rfl rfl rfl rfl (by repeat' (first | exact trivial | exact Or.inl (ti_succ (by assumption) (by assumption)) | exact Or.inl rfl | exact rfl | exact Nat.le_refl _ | apply And.intro)) (by repeat' (first | exact trivial | exact Or.inl (ti_succ (by assumption) (by assumption)) | exact Or.inl rfl | exact rfl | exact Nat.le_refl _ | apply And.intro)) rfl rfl fun _ => ?_
      conv => whnf
      exact ⟨(by repeat' (first | exact trivial | exact Or.inl rfl | exact Or.inr ⟨rfl, _, _, rfl⟩ | exact rfl | exact Nat.le_refl _ | apply And.intro)), (by repeat' (first | exact trivial | exact Or.inl (ti_succ (by assumption) (by assumption)) | exact Or.inl rfl | exact rfl | exact Nat.le_refl _ | apply And.intro))⟩
    | false =>
      have hs2 : r3.take wElse = r3 := by unfold Rd.take; rw [h2]; rfl
      rw [h2, hs2] at ht
      rw [cond_false]
      conv => whnf
      refine acall.gen [0] [] _ _ _ _ (hk) rfl rfl rfl rfl (by repeat' (first | exact trivial | exact Or.inl (ti_succ (by assumption) (by assumption)) | exact Or.inl rfl | exact rfl | exact Nat.le_refl _ | apply And.intro)) (by repeat' (first | exact trivial | exact Or.inl (ti_succ (by assumption) (by assumption)) | exact Or.inl rfl | exact rfl | exact Nat.le_refl _ | apply And.intro)) rfl rfl fun _ => ?_
      conv => whnf
      refine acall.gen [0] [] _ _ _ _ (hb) rfl rfl rfl rfl (by repeat' (first | exact trivial | exact Or.inl (ti_succ (by assumption) (by assumption)) | exact Or.inl rfl | exact rfl | exact Nat.le_refl _ | apply And.intro)) (by repeat' (first | exact trivial | exact Or.inl (ti_succ (by assumption) (by assumption)) | exact Or.inl rfl | exact rfl | exact Nat.le_refl _ | apply And.intro)) rfl rfl fun _ => ?_
      conv => whnf
      refine acall.gen [0] [] _ _ _ _ (ht) rfl rfl rfl rfl (by repeat' (first | exact trivial | exact Or.inl (ti_succ (by assumption) (by assumption)) | exact Or.inl rfl | exact rfl | exact Nat.le_refl _ | apply And.intro)) (by repeat' (first | exact trivial | exact Or.inl (ti_succ (by assumption) (by assumption)) | exact Or.inl rfl | exact rfl | exact Nat.le_refl _ | apply And.intro)) rfl rfl fun _ => ?_
      conv => whnf
      exact ⟨(by repeat' (first | exact trivial | exact Or.inl rfl | exact Or.inr ⟨rfl, _, _, rfl⟩ | exact rfl | exact Nat.le_refl _ | apply And.intro)), (by repeat' (first | exact trivial | exact Or.inl (ti_succ (by assumption) (by assumption)) | exact Or.inl rfl | exact rfl | exact Nat.le_refl _ | apply And.intro))⟩
  | false =>
  have hs1 : r.take wIf = r := by unfold Rd.take; rw [h1]; rfl
  rw [hs1, cond_false]
  conv => whnf
  refine acall.gen [0] [] _ _ _ _ (rTake r wWhile) rfl rfl rfl rfl (by repeat' (first | exact trivial | exact Or.inl (ti_succ (by assumption) (by assumption)) | exact Or.inl rfl | exact rfl | exact Nat.le_refl _ | apply And.intro)) (by repeat' (first | exact trivial | exact Or.inl (ti_succ (by assumption) (by assumption)) | exact Or.inl rfl | exact rfl | exact Nat.le_refl _ | apply And.intro)) rfl rfl fun _ => ?_
  conv => whnf
  cases h2 : r.takes wWhile with
  | true =>
    have hlt := takes_lt h2
    obtain ⟨l1, l2⟩ := hstep hlt
    have hs : r.take wWhile = r.step := by unfold Rd.take; rw [h2]; rfl
    rw [hs, cond_true]
    have hk := rRound r.step l1 l2
    have g1 := round_goes r.step
    generalize r.step.round = x at hk g1
    obtain ⟨e, r2⟩ := x
    have g1 : Goes r.step r2 := g1
    have hb := hB r2 g1 hlt
    dsimp only at *
    generalize B r2 = y at hb
    obtain ⟨b, r3⟩ := y
    conv => whnf
    refine acall.gen [0] [] _ _ _ _ (hk) rfl rfl rfl rfl (by repeat' (first | exact trivial | exact Or.inl (ti_succ (by assumption) (by assumption)) | exact Or.inl rfl | exact rfl | exact Nat.le_refl _ | apply And.intro)) (by repeat' (first | exact trivial | exact Or.inl (ti_succ (by assumption) (by assumption)) | exact Or.inl rfl | exact rfl | exact Nat.le_refl _ | apply And.intro)) rfl rfl fun _ => ?_
    conv => whnf
    refine acall.gen [0] [] _ _ _ _ (hb) rfl rfl rfl rfl (by repeat' (first | exact trivial | exact Or.inl (ti_succ (by assumption) (by assumption)) | exact Or.inl rfl | exact rfl | exact Nat.le_refl _ | apply And.intro)) (by repeat' (first | exact trivial | exact Or.inl (ti_succ (by assumption) (by assumption)) | exact Or.inl rfl | exact rfl | exact Nat.le_refl _ | apply And.intro)) rfl rfl fun _ => ?_
    conv => whnf
    exact ⟨(by repeat' (first | exact trivial | exact Or.inl rfl | exact Or.inr ⟨rfl, _, _, rfl⟩ | exact rfl | exact Nat.le_refl _ | apply And.intro)), (by repeat' (first | exact trivial | exact Or.inl (ti_succ (by assumption) (by assumption)) | exact Or.inl rfl | exact rfl | exact Nat.le_refl _ | apply And.intro))⟩
  | false =>
  have hs2 : r.take wWhile = r := by unfold Rd.take; rw [h2]; rfl
  rw [hs2, cond_false]
  conv => whnf
  refine acall.gen [0] [] _ _ _ _ (rTake r wLock) rfl rfl rfl rfl (by repeat' (first | exact trivial | exact Or.inl (ti_succ (by assumption) (by assumption)) | exact Or.inl rfl | exact rfl | exact Nat.le_refl _ | apply And.intro)) (by repeat' (first | exact trivial | exact Or.inl (ti_succ (by assumption) (by assumption)) | exact Or.inl rfl | exact rfl | exact Nat.le_refl _ | apply And.intro)) rfl rfl fun _ => ?_
  conv => whnf
  cases h3 : r.takes wLock with
  | true =>
    have hlt := takes_lt h3
    have hs : r.take wLock = r.step := by unfold Rd.take; rw [h3]; rfl
    rw [hs, cond_true]
    have hb := hB r.step.name (name_goes _) hlt
    generalize B r.step.name = y at hb
    obtain ⟨b, r3⟩ := y
    conv => whnf
    refine acall.gen [0] [] _ _ _ _ (rName r.step) rfl rfl rfl rfl (by repeat' (first | exact trivial | exact Or.inl (ti_succ (by assumption) (by assumption)) | exact Or.inl rfl | exact rfl | exact Nat.le_refl _ | apply And.intro)) (by repeat' (first | exact trivial | exact Or.inl (ti_succ (by assumption) (by assumption)) | exact Or.inl rfl | exact rfl | exact Nat.le_refl _ | apply And.intro)) rfl rfl fun _ => ?_
    conv => whnf
    refine acall.gen [0] [] _ _ _ _ (hb) rfl rfl rfl rfl (by repeat' (first | exact trivial | exact Or.inl (ti_succ (by assumption) (by assumption)) | exact Or.inl rfl | exact rfl | exact Nat.le_refl _ | apply And.intro)) (by repeat' (first | exact trivial | exact Or.inl (ti_succ (by assumption) (by assumption)) | exact Or.inl rfl | exact rfl | exact Nat.le_refl _ | apply And.intro)) rfl rfl fun _ => ?_
    conv => whnf
    exact ⟨(by repeat' (first | exact trivial | exact Or.inl rfl | exact Or.inr ⟨rfl, _, _, rfl⟩ | exact rfl | exact Nat.le_refl _ | apply And.intro)), (by repeat' (first | exact trivial | exact Or.inl (ti_succ (by assumption) (by assumption)) | exact Or.inl rfl | exact rfl | exact Nat.le_refl _ | apply And.intro))⟩
  | false =>
  have hs3 : r.take wLock = r := by unfold Rd.take; rw [h3]; rfl
  rw [hs3, cond_false]
  conv => whnf
  refine acall.gen [0] [] _ _ _ _ (rTake r wPrint) rfl rfl rfl rfl (by repeat' (first | exact trivial | exact Or.inl (ti_succ (by assumption) (by assumption)) | exact Or.inl rfl | exact rfl | exact Nat.le_refl _ | apply And.intro)) (by repeat' (first | exact trivial | exact Or.inl (ti_succ (by assumption) (by assumption)) | exact Or.inl rfl | exact rfl | exact Nat.le_refl _ | apply And.intro)) rfl rfl fun _ => ?_
  conv => whnf
  cases h4 : r.takes wPrint with
  | true =>
    have hlt := takes_lt h4
    obtain ⟨l1, l2⟩ := hstep hlt
    have hs : r.take wPrint = r.step := by unfold Rd.take; rw [h4]; rfl
    rw [hs, cond_true]
    have hk := rEx0 r.step l1 l2
    generalize r.step.ex = x at hk
    obtain ⟨⟨a1, a2, a3, a4, a5, a6⟩, r2⟩ := x
    conv => whnf
    refine acall.gen [0] [] _ _ _ _ (hk) rfl rfl rfl rfl (by repeat' (first | exact trivial | exact Or.inl (ti_succ (by assumption) (by assumption)) | exact Or.inl rfl | exact rfl | exact Nat.le_refl _ | apply And.intro)) (by repeat' (first | exact trivial | exact Or.inl (ti_succ (by assumption) (by assumption)) | exact Or.inl rfl | exact rfl | exact Nat.le_refl _ | apply And.intro)) rfl rfl fun _ => ?_
    conv => whnf
    refine acall.gen [0] [] _ _ _ _ (rWant r2 ⟨#[59]⟩) rfl rfl rfl rfl (by repeat' (first | exact trivial | exact Or.inl (ti_succ (by assumption) (by assumption)) | exact Or.inl rfl | exact rfl | exact Nat.le_refl _ | apply And.intro)) (by repeat' (first | exact trivial | exact Or.inl (ti_succ (by assumption) (by assumption)) | exact Or.inl rfl | exact rfl | exact Nat.le_refl _ | apply And.intro)) rfl rfl fun _ => ?_
    conv => whnf
    exact ⟨(by repeat' (first | exact trivial | exact Or.inl rfl | exact Or.inr ⟨rfl, _, _, rfl⟩ | exact rfl | exact Nat.le_refl _ | apply And.intro)), (by repeat' (first | exact trivial | exact Or.inl (ti_succ (by assumption) (by assumption)) | exact Or.inl rfl | exact rfl | exact Nat.le_refl _ | apply And.intro))⟩
  | false =>
  have hs4 : r.take wPrint = r := by unfold Rd.take; rw [h4]; rfl
  rw [hs4, cond_false]
  conv => whnf
  refine acall.gen [0] [] _ _ _ _ (rTake r wSkip) rfl rfl rfl rfl (by repeat' (first | exact trivial | exact Or.inl (ti_succ (by assumption) (by assumption)) | exact Or.inl rfl | exact rfl | exact Nat.le_refl _ | apply And.intro)) (by repeat' (first | exact trivial | exact Or.inl (ti_succ (by assumption) (by assumption)) | exact Or.inl rfl | exact rfl | exact Nat.le_refl _ | apply And.intro)) rfl rfl fun _ => ?_
  conv => whnf
  cases h5 : r.takes wSkip with
  | true =>
    have hs : r.take wSkip = r.step := by unfold Rd.take; rw [h5]; rfl
    rw [hs, cond_true]
    conv => whnf
    refine acall.gen [0] [] _ _ _ _ (rWant r.step ⟨#[59]⟩) rfl rfl rfl rfl (by repeat' (first | exact trivial | exact Or.inl (ti_succ (by assumption) (by assumption)) | exact Or.inl rfl | exact rfl | exact Nat.le_refl _ | apply And.intro)) (by repeat' (first | exact trivial | exact Or.inl (ti_succ (by assumption) (by assumption)) | exact Or.inl rfl | exact rfl | exact Nat.le_refl _ | apply And.intro)) rfl rfl fun _ => ?_
    conv => whnf
    exact ⟨(by repeat' (first | exact trivial | exact Or.inl rfl | exact Or.inr ⟨rfl, _, _, rfl⟩ | exact rfl | exact Nat.le_refl _ | apply And.intro)), (by repeat' (first | exact trivial | exact Or.inl (ti_succ (by assumption) (by assumption)) | exact Or.inl rfl | exact rfl | exact Nat.le_refl _ | apply And.intro))⟩
  | false =>
  have hs5 : r.take wSkip = r := by unfold Rd.take; rw [h5]; rfl
  rw [hs5, cond_false]
  have hk := rAssign r a hL hi
  generalize r.assign a = x at hk
  obtain ⟨⟨a1, a2, a3, a4, a5, a6, a7⟩, r2⟩ := x
  conv => whnf
  refine acall.gen [0] [] _ _ _ _ hk rfl rfl rfl rfl ⟨⟨rfl, rfl⟩, (by repeat' (first | exact trivial | exact Or.inl rfl | exact Or.inr ⟨rfl, _, _, rfl⟩ | exact rfl | exact Nat.le_refl _ | apply And.intro)), trivial⟩ (by repeat' (first | exact trivial | exact Or.inl (ti_succ (by assumption) (by assumption)) | exact Or.inl rfl | exact rfl | exact Nat.le_refl _ | apply And.intro)) rfl rfl fun _ => ?_
  conv => whnf
  exact ⟨(by repeat' (first | exact trivial | exact Or.inl rfl | exact Or.inr ⟨rfl, _, _, rfl⟩ | exact rfl | exact Nat.le_refl _ | apply And.intro)), (by repeat' (first | exact trivial | exact Or.inl (ti_succ (by assumption) (by assumption)) | exact Or.inl rfl | exact rfl | exact Nat.le_refl _ | apply And.intro))⟩
theorem srows_app (out : List Stmt) (s : Stmt) : (Stmt.rows out).take out.length ++ [s.cells] = Stmt.rows (out ++ [s]) := by
  rw [List.take_of_length_le (Nat.le_of_eq (srows_len out)), Stmt.rows_eq, Stmt.rows_eq, List.map_append]; rfl
theorem rStmts {n : Nat} (hS : StK n) : SsK (n + 1) := by
  intro r deep hL hi hn
  refine Ctr.of hT hmix Tryz.func38 rfl (fun _ _ => by kernel_rfl) rfl fun hok => ?_
  clear hok
  obtain ⟨n, rfl⟩ : ∃ m, n = m + 1 := ⟨n - 1, by omega⟩
  have hE0 : ssG (n + 2) r deep = stmtsLoop (fun r => stG (n + 1) r deep) (r.l.length + 1) r := rfl
  conv => whnf
  refine LoopL.by (fun x : Nat × List Stmt × Rd => ⟨[(0, .ptr 0 0), (1, .tr (ti deep)), (5, .sl 1 x.2.1.length)], [(0, rdB x.2.2), (1, .vec 50 7 120 (Stmt.rows x.2.1))], 2⟩)
    (fun x => (x.2.2.ok = true → r.l.length + 1 ≤ x.1 + x.2.2.i ∧ x.2.1.length ≤ x.2.2.i) ∧ x.2.2.l = r.l ∧ r.i ≤ x.2.2.i ∧ x.2.2.i ≤ r.l.length ∧ ssG (n + 2) r deep = (x.2.1 ++ (stmtsLoop (fun r => stG (n + 1) r deep) x.1 x.2.2).1, (stmtsLoop (fun r => stG (n + 1) r deep) x.1 x.2.2).2)) (fun x => x.1)
    (r.l.length + 1, [], r) [0] [1] (Sub.mk' rfl ⟨⟨rfl, rfl⟩, .inl rfl, ⟨rfl, rfl, rfl, rfl⟩, trivial⟩ ⟨(by repeat' (first | exact trivial | exact Or.inl (ti_succ (by assumption) (by assumption)) | exact Or.inl rfl | exact rfl | exact Nat.le_refl _ | apply And.intro)), ⟨rfl, 50, 7, 120, rfl, by omega⟩, trivial⟩ rfl rfl) ⟨fun _ => ⟨by show r.l.length + 1 ≤ r.l.length + 1 + r.i; omega, Nat.zero_le _⟩, rfl, Nat.le_refl _, hi, hE0⟩ ?_
  rintro ⟨f, out, r2⟩ ⟨i1, i2, i3, i4, i5⟩ -
  have i1 : r2.ok = true → r.l.length + 1 ≤ f + r2.i ∧ out.length ≤ r2.i := i1
  have i2 : r2.l = r.l := i2
  have i3 : r.i ≤ r2.i := i3
  have i4 : r2.i ≤ r.l.length := i4
  have i5 : ssG (n + 2) r deep = (out ++ (stmtsLoop (fun r => stG (n + 1) r deep) f r2).1, (stmtsLoop (fun r => stG (n + 1) r deep) f r2).2) := i5
  have hol : (Stmt.rows out).length = out.length := srows_len out
  conv => whnf
  refine acall.gen [0] [] _ _ _ _ (rOk r2) rfl rfl rfl rfl (by repeat' (first | exact trivial | exact Or.inl (ti_succ (by assumption) (by assumption)) | exact Or.inl rfl | exact rfl | exact Nat.le_refl _ | apply And.intro)) (by repeat' (first | exact trivial | exact Or.inl (ti_succ (by assumption) (by assumption)) | exact Or.inl rfl | exact rfl | exact Nat.le_refl _ | apply And.intro)) rfl rfl fun _ => ?_
  conv => whnf
  cases h1 : r2.ok with
  | false =>
    have ht : r2.take ⟨#[125]⟩ = r2 := by unfold Rd.take Rd.takes; rw [h1]; rfl
    have hl0 : stmtsLoop (fun r => stG (n + 1) r deep) f r2 = ([], r2) := by
      cases f with
      | zero => rfl
      | succ f => unfold stmtsLoop; rw [h1, ht]; rfl
    rw [hl0] at i5
    rw [show ssG (n + 2) r deep = (out, r2) from i5.trans (by rw [List.append_nil])]
    conv => whnf
    refine ⟨fun _ => ?_, fun h => absurd rfl h⟩
    conv => whnf
    exact ⟨⟨rfl, Nat.le_of_eq hol.symm, congrArg (Tr.lst 7 120) (List.take_of_length_le (Nat.le_of_eq hol)).symm⟩, (by repeat' (first | exact trivial | exact Or.inl (ti_succ (by assumption) (by assumption)) | exact Or.inl rfl | exact rfl | exact Nat.le_refl _ | apply And.intro))⟩
  | true =>
  obtain ⟨i1, i6⟩ := i1 h1
  obtain ⟨f, rfl⟩ : ∃ g, f = g + 1 := ⟨f - 1, by omega⟩
  have hE : stmtsLoop (fun r => stG (n + 1) r deep) (f + 1) r2 = bif r2.ok && !r2.takes ⟨#[125]⟩ then ((stG (n + 1) r2 deep).1 :: (stmtsLoop (fun r => stG (n + 1) r deep) f (stG (n + 1) r2 deep).2).1, (stmtsLoop (fun r => stG (n + 1) r deep) f (stG (n + 1) r2 deep).2).2) else ([], r2.take ⟨#[125]⟩) := rfl
  rw [hE] at i5
  conv => whnf
  refine acall.gen [0] [] _ _ _ _ (rTake r2 ⟨#[125]⟩) rfl rfl rfl rfl (by repeat' (first | exact trivial | exact Or.inl (ti_succ (by assumption) (by assumption)) | exact Or.inl rfl | exact rfl | exact Nat.le_refl _ | apply And.intro)) (by repeat' (first | exact trivial | exact Or.inl (ti_succ (by assumption) (by assumption)) | exact Or.inl rfl | exact rfl | exact Nat.le_refl _ | apply And.intro)) rfl rfl fun _ => ?_
  conv => whnf
  cases h2 : r2.takes ⟨#[125]⟩ with
  | true =>
    rw [h1, h2] at i5
    rw [show ssG (n + 2) r deep = (out, r2.take ⟨#[125]⟩) from i5.trans (by show (out ++ [], _) = _; rw [List.append_nil]; rfl)]
    conv => whnf
    refine ⟨fun _ => ?_, fun h => absurd rfl h⟩
    conv => whnf
    exact ⟨⟨rfl, Nat.le_of_eq hol.symm, congrArg (Tr.lst 7 120) (List.take_of_length_le (Nat.le_of_eq hol)).symm⟩, (by repeat' (first | exact trivial | exact Or.inl (ti_succ (by assumption) (by assumption)) | exact Or.inl rfl | exact rfl | exact Nat.le_refl _ | apply And.intro))⟩
  | false =>
  have hs : r2.take ⟨#[125]⟩ = r2 := by unfold Rd.take; rw [h2]; rfl
  rw [hs]
  rw [h1, h2] at i5
  have hk := hS r2 deep (by rw [i2]; exact hL) (by rw [i2]; exact i4) (by rw [i2]; omega)
  have hg := st_eats n r2 deep
  have i5 : ssG (n + 2) r deep = (out ++ ((stG (n + 1) r2 deep).1 :: (stmtsLoop (fun r => stG (n + 1) r deep) f (stG (n + 1) r2 deep).2).1), (stmtsLoop (fun r => stG (n + 1) r deep) f (stG (n + 1) r2 deep).2).2) := i5
  generalize stG (n + 1) r2 deep = x at hk hg i5
  obtain ⟨⟨a1, a2, a3, a4, a5, a6, a7⟩, r3⟩ := x
  obtain ⟨hg1, hg2⟩ := hg
  have g1 : r3.l = r2.l := hg1.l
  have g2 : r2.i ≤ r3.i := hg1.i
  have g3 : r3.i ≤ r2.l.length := hg1.n (by rw [i2]; exact i4)
  have hg2 : r3.ok = true → r2.i < r3.i := hg2
  rw [i2] at g1 g3
  conv => whnf
  refine acall.gen [0] [] _ _ _ _ (hk) rfl rfl rfl rfl (by repeat' (first | exact trivial | exact Or.inl (ti_succ (by assumption) (by assumption)) | exact Or.inl rfl | exact rfl | exact Nat.le_refl _ | apply And.intro)) (by repeat' (first | exact trivial | exact Or.inl (ti_succ (by assumption) (by assumption)) | exact Or.inl rfl | exact rfl | exact Nat.le_refl _ | apply And.intro)) rfl rfl fun _ => ?_
  conv => whnf
  refine ⟨rfl, rfl, rfl, Nat.le_of_eq hol.symm, by show (out.length + 1) * 120 ≤ 140737488351232; omega, fun q hq => ?_, ?_⟩
  · cases hq with
    | head => exact Nat.ne_of_beq_eq_false rfl
    | tail _ h => cases h
  conv => whnf
  exact ⟨(f, out ++ [Stmt.mk a1 a2 a3 a4 a5 a6 a7], r3), [0, 14], [], Sub.mk' rfl ⟨⟨rfl, rfl⟩, .inl rfl, ⟨rfl, by rw [List.length_append]; rfl⟩, trivial⟩ ⟨(by repeat' (first | exact trivial | exact Or.inl (ti_succ (by assumption) (by assumption)) | exact Or.inl rfl | exact rfl | exact Nat.le_refl _ | apply And.intro)), ⟨rfl, rfl, rfl, srows_app out (Stmt.mk a1 a2 a3 a4 a5 a6 a7)⟩, trivial⟩ rfl rfl,
    ⟨fun h => ⟨by have := hg2 h; show r.l.length + 1 ≤ f + r3.i; omega, by have := hg2 h; show (out ++ [_]).length ≤ r3.i; rw [List.length_append, List.length_singleton]; omega⟩, g1, by show r.i ≤ r3.i; omega, g3, by rw [List.append_assoc]; exact i5⟩, Nat.lt_succ_self f⟩
theorem rSt : ∀ n : Nat, StK n ∧ SsK n
  | 0 => ⟨fun r deep _ _ h => by omega, fun r deep _ _ h => by omega⟩
  | n + 1 => ⟨rStmt (rSt n).2, rStmts (rSt n).1⟩
end Go.Proofs.YtbpcbhmdjphodaaGreat.am

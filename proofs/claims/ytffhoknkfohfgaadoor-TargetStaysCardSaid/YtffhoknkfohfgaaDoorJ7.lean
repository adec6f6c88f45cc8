/- Contracts of target: what is read, written, comes next. -/
import Derived.Test.YtffhoknkfohfgaaDoorJ6
set_option linter.all false

namespace Go.Proofs.YtffhoknkfohfgaaDoor.am
open Go Go.Proofs

def readsS (i : Ins) : List Int :=
  bif i.kind == 2 then (bif two i.op then [i.a, i.b] else [i.a]) else bif i.kind == 4 || i.kind == 7 || i.kind == 9 then [i.a] else bif i.kind == 5 then [i.d] else []
def writesS (i : Ins) : Int × Bool := bif i.kind == 1 || i.kind == 2 || i.kind == 3 || i.kind == 5 then (i.d, true) else (0, false)
def followsS (i : Ins) (at_ : Int) : List Int :=
  bif !kok i.kind then [] else bif i.kind == 10 then [] else bif i.kind == 8 then [i.to_] else bif i.kind == 9 then [IntKind.i64.wrap (at_ + 1), i.to_] else [IntKind.i64.wrap (at_ + 1)]
def drainsS (k : Int) : Bool := k == 5 || k == 6 || k == 7
theorem intsT_eq {l l' : List Int} (h : l = l') : Tr.lst 1 8 (l.map irow) = intsT l' := by rw [h]
theorem k_reads (i : Ins) : K 17 [i.av] [] (.ret (.tr (intsT (readsS i)))) [] := by
  refine Ctr.of hT hmix Tryd.func17 rfl (fun _ _ => by kernel_rfl) rfl fun hok => ?_
  clear hok
  obtain ⟨kind, op, d, a, b, addr, to_, word, from_⟩ := i
  generalize hr : readsS _ = R
  unfold readsS at hr
  simp only at hr
  conv => whnf
  (repeat' (first | (refine csplit (fun h => ?_) (fun h => ?_) <;> (try dsimp only at h) <;> conv => whnf) | (refine acall.pure _ (k_two op) rfl rfl fun _ => ?_; conv => whnf)))
  all_goals
    first
      | (exfalso; clear hr; simp_all; done)
      | (refine ⟨⟨rfl, Nat.le_refl _, ?_⟩, trivial⟩; rw [← hr]; simp only [*, Bool.or_true, Bool.true_or, Bool.or_false, Bool.false_or, Bool.not_true, Bool.not_false, cond_true, cond_false]; rfl)
      | exact ⟨.inr ⟨rfl, 1, 8, by rw [← hr]; simp only [*, Bool.or_true, Bool.true_or, Bool.or_false, Bool.false_or, Bool.not_true, Bool.not_false, cond_true, cond_false]; rfl⟩, trivial⟩
theorem k_writes (i : Ins) : K 14 [i.av] [] (.ret (.tup [.tr (ti (writesS i).1), .tr (tb (writesS i).2)])) [] := by
  refine Ctr.of hT hmix Tryd.func14 rfl (fun _ _ => by kernel_rfl) rfl fun hok => ?_
  clear hok
  obtain ⟨kind, op, d, a, b, addr, to_, word, from_⟩ := i
  generalize hr : writesS _ = R
  unfold writesS at hr
  simp only at hr
  conv => whnf
  (repeat' (refine csplit (fun h => ?_) (fun h => ?_) <;> (try dsimp only at h) <;> conv => whnf))
  all_goals
    first | (exfalso; clear hr; simp_all; done) | exact ⟨⟨.inl (by rw [← hr]; simp only [*, Bool.or_true, Bool.true_or, Bool.or_false, Bool.false_or, cond_true, cond_false]), .inl (by rw [← hr]; simp only [*, Bool.or_true, Bool.true_or, Bool.or_false, Bool.false_or, cond_true, cond_false]), trivial⟩, trivial⟩
theorem k_drains (k : Int) : K 21 [.tr (tu k)] [] (.ret (.tr (tb (drainsS k)))) [] := by
  refine Ctr.of hT hmix Tryd.func21 rfl (fun _ _ => by kernel_rfl) rfl fun hok => ?_
  conv => whnf
  (repeat' (refine csplit (fun h => ?_) (fun h => ?_) <;> (try dsimp only at h) <;> conv => whnf)) <;> (repeat' (first | exact trivial | exact Or.inl rfl | exact rfl | (refine Or.inl (congrArg _ ?_); simp only [drainsS, *] <;> rfl) | apply And.intro))
theorem form_lit {k : Int} (h : 0 ≤ k) : ∃ w a b c d, formAV k = .agg [.tr (ts w), .tr (tu a), .tr (tu b), .tr (tu c), .tr (tu d)] := by
  rcases kcases h with h | h | h | h | h | h | h | h | h | h | h | h
  case inr.inr.inr.inr.inr.inr.inr.inr.inr.inr.inr => rw [form_big h]; exact ⟨_, _, _, _, _, rfl⟩
  all_goals subst h; exact ⟨_, _, _, _, _, rfl⟩
set_option maxRecDepth 100000 in
theorem k_follows (i : Ins) (at_ : Int) : K 19 [i.av, .tr (ti at_)] [] (.ret (.tr (intsT (followsS i at_)))) [] := by
  refine Ctr.of hT hmix Tryd.func19 rfl (fun _ _ => by kernel_rfl) rfl fun hok => ?_
  have hk := ((hok.slot 0 rfl).agg _ (.head _)).tr.u8
  clear hok
  obtain ⟨kind, op, d, a, b, addr, to_, word, from_⟩ := i
  replace hk : 0 ≤ kind ∧ kind ≤ 255 := hk
  generalize hr : followsS _ _ = R
  unfold followsS at hr
  simp only at hr
  have hf := k_forms kind
  obtain ⟨w, u1, u2, u3, u4, e⟩ := form_lit hk.1
  rw [e] at hf
  clear e
  conv => whnf
  refine acall.pure _ (hf) rfl rfl fun _ => ?_
  conv => whnf
  (repeat' (refine csplit (fun h => ?_) (fun h => ?_) <;> (try dsimp only at h) <;> conv => whnf))
  all_goals
    first
      | (exfalso; clear hr; simp_all; done)
      | (refine ⟨⟨rfl, Nat.le_refl _, ?_⟩, trivial⟩; rw [← hr]; simp only [*, Bool.or_true, Bool.true_or, Bool.or_false, Bool.false_or, Bool.not_true, Bool.not_false, cond_true, cond_false]; rfl)
      | exact ⟨.inr ⟨rfl, 1, 8, by rw [← hr]; simp only [*, Bool.or_true, Bool.true_or, Bool.or_false, Bool.false_or, Bool.not_true, Bool.not_false, cond_true, cond_false]; rfl⟩, trivial⟩
end Go.Proofs.YtffhoknkfohfgaaDoor.am

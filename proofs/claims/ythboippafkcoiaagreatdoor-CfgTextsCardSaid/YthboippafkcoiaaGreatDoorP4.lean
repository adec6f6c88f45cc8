/- The abstract machine: calls by contract: what they ask suffices. The abstract machine: steps, regions, code. The abstract machine: what a state stands for; regions in order. The abstract machine: regions that draw their order: reckoned in the text's order; each pair of operations that no edge orders must not touch the same. The abstract machine: code and functions. The abstract machine: words for its users. The abstract machine: regions that draw, whose last operation may panic. The abstract machine over states that stand as lists: its values are reckoned at once, so terms stay small. The abstract machine: calls in full. -/
import Derived.Test.YthboippafkcoiaaGreatDoorP3
import Derived.RegionTactic
import Derived.Deep.RegionWith
import Derived.LoopN
set_option linter.all false

namespace Go.Proofs.YthboippafkcoiaaGreatDoor.am
open Go
set_option linter.unusedSimpArgs false
def AE.out (ρ : List Nat) : AE → AE | .ret a => .ret (a.out ρ) | .pan a => .pan (a.out ρ)
def AE.lowH (k : Nat) : AE → Bool | .ret a => a.lowH k | .pan a => a.lowH k
def AE.scal : AE → Bool | .ret a => a.scal | .pan a => a.scal
/-- what stands for something -/
def AOk (a : AV) : Prop := ∃ g w v, Rep g w v a
def AE.ok : AE → Prop | .ret a => AOk a | .pan a => AOk a
abbrev EE := AE → List (Nat × Blk) → List (Nat × Option Blk) → Prop
def AE.nof : AE → Bool | .ret a => a.nof | .pan a => a.nof
/-- nothing that comes back looks into what was shown -/
def keepS (ρ : List Nat) (res : AE) (bout : List (Option Blk)) : Bool := bif ρ.isEmpty && res.scal then true else bout.all nofB && res.nof
def callUp (ρ sn : List Nat) (res : AE) (bout : List (Option Blk)) : List (Nat × Option Blk) := upOf ρ ρ bout ++ match sn with
  | [] => []
  | k :: sn => bif keepS ρ res bout then [] else kills (k :: sn)
theorem callUp_eq (ρ sn : List Nat) (res : AE) (bout : List (Option Blk)) : callUp ρ sn res bout = upOf ρ ρ bout ++ bif keepS ρ res bout then [] else kills sn := by
  unfold callUp
  cases sn with
  | nil => cases keepS ρ res bout <;> rfl
  | cons => rfl
/-- the handles of blocks that a callee makes -/
def fresh : Nat → Nat → List Nat
  | _, 0 => []
  | nh, n + 1 => nh :: fresh (nh + HMod) n
theorem fresh_mem : ∀ {n a k : Nat}, k ∈ fresh a n → a ≤ k ∧ k % HMod = a % HMod
  | 0, _, _, h => by simp [fresh] at h
  | n + 1, a, k, h => by
    simp only [fresh, List.mem_cons] at h
    rcases h with rfl | h
    · exact ⟨Nat.le_refl _, rfl⟩
    · obtain ⟨h1, h2⟩ := fresh_mem h
      exact ⟨by omega, by rw [h2, Nat.add_mod_right]⟩
theorem fresh_len : ∀ (n a : Nat), (fresh a n).length = n
  | 0, _ => rfl
  | n + 1, a => by simp only [fresh, List.length_cons, fresh_len n]
theorem fresh_nodup : ∀ (n a : Nat), (fresh a n).Nodup
  | 0, _ => by simp [fresh]
  | n + 1, a => by
    simp only [fresh, List.nodup_cons]
    exact ⟨fun h => by have := (fresh_mem h).1; unfold HMod at this; omega, fresh_nodup n _⟩
/-- ro: the handles given to the callee, and those for blocks that the callee makes -/
structure CallOk (P : Program) (m : Mem) (nh : Nat) (f : Nat) (xs : List AV) (ρ ro sn : List Nat) (as : List AV) (bin : List Blk) (res : AE) (bout : List (Option Blk)) : Prop where
  ctr : Ctr P f as bin res bout
  nodup : ρ.Nodup
  len : ρ.length = bin.length
  ext : ro = ρ ++ fresh nh (ro.length - ρ.length)
  olen : bout.length = ro.length
  bok : boutOk ro.length bout = true
  args : cvL m ρ [] (seenS ρ sn) xs as
  mem : cvM m (ofL bin) ρ [] (seenS ρ sn)
  there : ∀ h ∈ ρ ++ sn, ∃ b, m h = some b
  low : res.lowH ro.length = true
/-- the same, whatever the callee is -/
structure CallFit (m : Mem) (nh : Nat) (xs : List AV) (ρ ro sn : List Nat) (as : List AV) (bin : List Blk) (res : AE) (bout : List (Option Blk)) : Prop where
  nodup : ρ.Nodup
  len : ρ.length = bin.length
  ext : ro = ρ ++ fresh nh (ro.length - ρ.length)
  olen : bout.length = ro.length
  bok : boutOk ro.length bout = true
  args : cvL m ρ [] (seenS ρ sn) xs as
  mem : cvM m (ofL bin) ρ [] (seenS ρ sn)
  there : ∀ h ∈ ρ ++ sn, ∃ b, m h = some b
  low : res.lowH ro.length = true
theorem CallOk.fit {P : Program} {m : Mem} {nh f : Nat} {xs : List AV} {ρ ro sn : List Nat} {as : List AV} {bin : List Blk} {res : AE} {bout : List (Option Blk)} (h : CallOk P m nh f xs ρ ro sn as bin res bout) : CallFit m nh xs ρ ro sn as bin res bout :=
  ⟨h.nodup, h.len, h.ext, h.olen, h.bok, h.args, h.mem, h.there, h.low⟩
def acall (P : Program) (m : Mem) (nh : Nat) (f : Nat) (xs : List AV) (K : EE) : Prop :=
  ∃ (ρ ro sn : List Nat) (as : List AV) (bin : List Blk) (res : AE) (bout : List (Option Blk)), CallOk P m nh f xs ρ ro sn as bin res bout ∧ K (res.out ro) (rdOf m (ρ ++ sn)) (callUp ro sn res bout)

section
variable {P : Program} {m m' : Mem} {ρ nl : List Nat} {S : Nat → Bool}
theorem rdOf_mem : ∀ {l : List Nat} {h : Nat} {b : Blk}, h ∈ l → m h = some b → (h, b) ∈ rdOf m l := by
  intro l
  induction l with
  | nil => intro h b hh; simp at hh
  | cons k r ih =>
    intro h b hh hb
    unfold rdOf
    simp only [List.mem_cons] at hh
    rcases hh with rfl | hh
    · rw [hb]; simp
    · split
      · exact List.mem_cons_of_mem _ (ih hh hb)
      · exact ih hh hb
theorem rdOf_ok : ∀ {l : List Nat}, ∀ p ∈ rdOf m l, m p.1 = some p.2 ∧ p.1 ∈ l := by
  intro l
  induction l with
  | nil => intro p hp; simp [rdOf] at hp
  | cons k r ih =>
    intro p hp
    unfold rdOf at hp
    split at hp
    · rename_i b e
      simp only [List.mem_cons] at hp
      rcases hp with rfl | hp
      · exact ⟨e, by simp⟩
      · exact ⟨(ih p hp).1, by simp [(ih p hp).2]⟩
    · exact ⟨(ih p hp).1, by simp [(ih p hp).2]⟩
theorem sees_congr (hm : ∀ h, S h = true → ∀ b, m h = some b → m' h = some b) {h len : Nat} {t : Tr} (hS : S h = true) (hs : sees m h len t) : sees m' h len t := by
  unfold sees at hs ⊢
  split at hs
  · rename_i e n B rows em
    rw [hm h hS _ em]; exact hs
  · rename_i n B rows em
    rw [hm h hS _ em]; exact hs
  · exact hs.elim
theorem seesP_congr (hm : ∀ h, S h = true → ∀ b, m h = some b → m' h = some b) {h off : Nat} {cs : List Tr} (hS : S h = true) (hs : seesP m h off cs) : seesP m' h off cs := by
  unfold seesP at hs ⊢
  split at hs
  · rename_i e as em
    rw [hm h hS _ em]; exact hs
  · exact hs.elim
mutual
theorem cv_congr (hm : ∀ h, S h = true → ∀ b, m h = some b → m' h = some b) : ∀ (a a' : AV), cv m ρ nl S a a' → cv m' ρ nl S a a'
  | .tr _, .tr _, h => by unfold cv at h ⊢; exact h
  | .sl _ _, .tr _, h => by unfold cv at h ⊢; exact ⟨h.1, sees_congr hm h.1 h.2⟩
  | .tr _, .sl _ _, h => by unfold cv at h ⊢; exact h
  | .sl _ _, .sl _ _, h => by unfold cv at h ⊢; exact h
  | .und, .und, _ => by unfold cv; trivial
  | .agg l, .agg l', h => by unfold cv at h ⊢; exact cvL_congr hm l l' h
  | .tup l, .tup l', h => by unfold cv at h ⊢; exact cvL_congr hm l l' h
  | .ptr _ _, .ptr _ _, h => by unfold cv at h ⊢; exact h
  | .vpt _ _ _ _, .vpt _ _ _ _, h => by unfold cv at h ⊢; exact h
  | .ptr _ _, .ept _, h => by unfold cv at h ⊢; exact ⟨h.1, seesP_congr hm h.1 h.2⟩
  | .ept _, .ept _, h => by unfold cv at h ⊢; exact h
  | .fn _ l, .fn _ l', h => by unfold cv at h ⊢; exact ⟨h.1, cvL_congr hm l l' h.2⟩
  | .ifc _ a, .ifc _ a', h => by unfold cv at h ⊢; exact ⟨h.1, cv_congr hm a a' h.2⟩
  | .und, .ful _ _ _, h | .und, .tr _, h | .und, .agg _, h | .und, .tup _, h | .und, .ptr _ _, h | .und, .vpt _ _ _ _, h | .und, .sl _ _, h | .und, .ept _, h | .und, .fn _ _, h | .und, .ifc _ _, h | .und, .mp _, h => by unfold cv at h; exact h.elim
  | .tr _, .ful _ _ _, h | .tr _, .und, h | .tr _, .agg _, h | .tr _, .tup _, h | .tr _, .ptr _ _, h | .tr _, .vpt _ _ _ _, h | .tr _, .ept _, h | .tr _, .fn _ _, h | .tr _, .ifc _ _, h | .tr _, .mp _, h => by unfold cv at h; exact h.elim
  | .agg _, .ful _ _ _, h | .agg _, .und, h | .agg _, .tr _, h | .agg _, .tup _, h | .agg _, .ptr _ _, h | .agg _, .vpt _ _ _ _, h | .agg _, .sl _ _, h | .agg _, .ept _, h | .agg _, .fn _ _, h | .agg _, .ifc _ _, h | .agg _, .mp _, h => by unfold cv at h; exact h.elim
  | .tup _, .ful _ _ _, h | .tup _, .und, h | .tup _, .tr _, h | .tup _, .agg _, h | .tup _, .ptr _ _, h | .tup _, .vpt _ _ _ _, h | .tup _, .sl _ _, h | .tup _, .ept _, h | .tup _, .fn _ _, h | .tup _, .ifc _ _, h | .tup _, .mp _, h => by unfold cv at h; exact h.elim
  | .ptr _ _, .ful _ _ _, h | .ptr _ _, .und, h | .ptr _ _, .tr _, h | .ptr _ _, .agg _, h | .ptr _ _, .tup _, h | .ptr _ _, .vpt _ _ _ _, h | .ptr _ _, .sl _ _, h | .ptr _ _, .fn _ _, h | .ptr _ _, .ifc _ _, h | .ptr _ _, .mp _, h => by unfold cv at h; exact h.elim
  | .vpt _ _ _ _, .ful _ _ _, h | .vpt _ _ _ _, .und, h | .vpt _ _ _ _, .tr _, h | .vpt _ _ _ _, .agg _, h | .vpt _ _ _ _, .tup _, h | .vpt _ _ _ _, .ptr _ _, h | .vpt _ _ _ _, .sl _ _, h | .vpt _ _ _ _, .ept _, h | .vpt _ _ _ _, .fn _ _, h | .vpt _ _ _ _, .ifc _ _, h | .vpt _ _ _ _, .mp _, h => by unfold cv at h; exact h.elim
  | .sl _ _, .ful _ _ _, h | .sl _ _, .und, h | .sl _ _, .agg _, h | .sl _ _, .tup _, h | .sl _ _, .ptr _ _, h | .sl _ _, .vpt _ _ _ _, h | .sl _ _, .ept _, h | .sl _ _, .fn _ _, h | .sl _ _, .ifc _ _, h | .sl _ _, .mp _, h => by unfold cv at h; exact h.elim
  | .ept _, .ful _ _ _, h | .ept _, .und, h | .ept _, .tr _, h | .ept _, .agg _, h | .ept _, .tup _, h | .ept _, .ptr _ _, h | .ept _, .vpt _ _ _ _, h | .ept _, .sl _ _, h | .ept _, .fn _ _, h | .ept _, .ifc _ _, h | .ept _, .mp _, h => by unfold cv at h; exact h.elim
  | .fn _ _, .ful _ _ _, h | .fn _ _, .und, h | .fn _ _, .tr _, h | .fn _ _, .agg _, h | .fn _ _, .tup _, h | .fn _ _, .ptr _ _, h | .fn _ _, .vpt _ _ _ _, h | .fn _ _, .sl _ _, h | .fn _ _, .ept _, h | .fn _ _, .ifc _ _, h | .fn _ _, .mp _, h => by unfold cv at h; exact h.elim
  | .ifc _ _, .ful _ _ _, h | .ifc _ _, .und, h | .ifc _ _, .tr _, h | .ifc _ _, .agg _, h | .ifc _ _, .tup _, h | .ifc _ _, .ptr _ _, h | .ifc _ _, .vpt _ _ _ _, h | .ifc _ _, .sl _ _, h | .ifc _ _, .ept _, h | .ifc _ _, .fn _ _, h | .ifc _ _, .mp _, h => by unfold cv at h; exact h.elim
  | .mp _, .mp _, h => by unfold cv at h ⊢; exact h
  | .mp _, .ful _ _ _, h | .mp _, .und, h | .mp _, .tr _, h | .mp _, .agg _, h | .mp _, .tup _, h | .mp _, .ptr _ _, h | .mp _, .vpt _ _ _ _, h | .mp _, .sl _ _, h | .mp _, .ept _, h | .mp _, .fn _ _, h | .mp _, .ifc _ _, h => by unfold cv at h; exact h.elim
  | .ful _ _ _, .ful _ _ _, h => by unfold cv at h ⊢; exact h
  | .ful _ _ _, .und, h | .ful _ _ _, .tr _, h | .ful _ _ _, .agg _, h | .ful _ _ _, .tup _, h | .ful _ _ _, .ptr _ _, h | .ful _ _ _, .vpt _ _ _ _, h | .ful _ _ _, .sl _ _, h | .ful _ _ _, .ept _, h | .ful _ _ _, .fn _ _, h | .ful _ _ _, .ifc _ _, h | .ful _ _ _, .mp _, h => by unfold cv at h; exact h.elim
theorem cvL_congr (hm : ∀ h, S h = true → ∀ b, m h = some b → m' h = some b) : ∀ (l l' : List AV), cvL m ρ nl S l l' → cvL m' ρ nl S l l'
  | [], [], _ => by unfold cvL; trivial
  | a :: l, a' :: l', h => by unfold cvL at h ⊢; exact ⟨cv_congr hm a a' h.1, cvL_congr hm l l' h.2⟩
  | [], _ :: _, h => by unfold cvL at h; exact h.elim
  | _ :: _, [], h => by unfold cvL at h; exact h.elim
end
theorem cvB_congr (hm : ∀ h, S h = true → ∀ b, m h = some b → m' h = some b) (b b' : Blk) (h : cvB m ρ nl S b b') : cvB m' ρ nl S b b' := by
  cases b <;> cases b' <;> first | (unfold cvB at h; exact h.elim) | (unfold cvB at h ⊢; exact h) | (unfold cvB at h ⊢; exact ⟨h.1, cvL_congr hm _ _ h.2⟩)

def calleeX (g : Gh) (ρ sn : List Nat) (b : Nat) : Prop := g.X b ∨ ∃ h, Owns g h b ∧ h ∉ ρ ∧ has sn h = false
def back (g g' : Gh) (ro sn : List Nat) (kill : Bool) : Gh := ⟨fun h => match idx ro h with | some i => g' i | none => if kill && has sn h then (match g h with | .un => .un | _ => .dead) else g h, g.X, [], fun h b => match idx ro h with | some i => g'.F i b | none => g.F h b⟩
theorem acall_core {xs as : List AV} {sn : List Nat} {bin : List Blk} {res : AE} {bout : List (Option Blk)} {ro : List Nat} {nh : Nat} (h : CallFit m nh xs ρ ro sn as bin res bout) {Run : (Ending → World → Prop) → Prop} (hmono : ∀ R R', Run R → (∀ e w, R e w → R' e w) → Run R') (g : Gh) (w : World) (m' : Mem) (vs : Array Value)
    (hrun : ∀ g : Gh, (∀ h, bin.length ≤ h → g h = .un) → MSt g w (ofL bin) → vs.size = as.length → (∀ (i : Nat) (v : Value) (a : AV), vs[i]? = some v → as[i]? = some a → Rep g w v a) → Run fun e w' => ∃ g', Grow g w g' w' ∧ MSt g' w' (ofLO bout) ∧ Under g' bout.length ∧ res.is g' w' e)
    (hm : MSt g w m') (hnb : nh < HMod) (hnh : ∀ k, k % HMod = nh → g k = .un) (hrd : ∀ p ∈ rdOf m (ρ ++ sn), m' p.1 = some p.2) (hsz : vs.size = xs.length) (hvs : ∀ (i : Nat) (v : Value) (a : AV), vs[i]? = some v → xs[i]? = some a → Rep g w v a) :
    Run fun e w' => ∃ gn, (res.out ro).is gn w' e ∧ MSt gn w' (updM m' (callUp ro sn res bout)) ∧ Grow g w gn w' ∧ ∀ k, k % HMod ≠ nh → g k = .un → gn k = .un := by
  have hin : ∀ k, k ∈ ρ ++ sn → ∀ b, m k = some b → m' k = some b := fun k hk b hb => hrd (k, b) (rdOf_mem hk hb)
  have hS : ∀ k, seenS ρ sn k = true → has sn k = true ∧ k ∉ ρ := fun k hk => by
    unfold seenS at hk
    simp only [Bool.and_eq_true, Bool.not_eq_true'] at hk
    refine ⟨hk.1, fun hmem => ?_⟩
    rw [has_iff.2 hmem] at hk; cases hk.2
  have hSm : ∀ k, seenS ρ sn k = true → ∀ b, m k = some b → m' k = some b := fun k hk => hin k (by simp [has_iff.1 (hS k hk).1])
  -- the callee's world
  have hsub : SubOk g w ρ (seenS ρ sn) (calleeX g ρ sn) := by
    refine ⟨fun b hb hX => ?_, fun k b h1 h2 hX => ?_, fun k hk => (hS k hk).2⟩
    · rcases hX with hX | ⟨k, e1, _, _⟩
      · exact hb.2.1 hX
      · exact hb.2.2 k e1
    · rcases hX with hX | ⟨k', e1, e3, e4⟩
      · exact hm.xl k b h2 hX
      · have := hm.inj k k' b h2 e1
        subst this
        rw [(hS k h1).1] at e4; cases e4
  have hmc : MSt (gsub g ρ [] (calleeX g ρ sn)) w (ofL bin) := by
    refine cvM_mst hsub hm h.nodup (fun b hX => ?_) (fun i k b e1 e2 hX => ?_) ?_
    · rcases hX with hX | ⟨k, e1, _, _⟩
      · exact hm.xlt b hX
      · exact hm.lt k b e1
    · rcases hX with hX | ⟨k', e4, e6, _⟩
      · exact hm.xl k b e2 hX
      · have := hm.inj k k' b e2 e4
        subst this
        exact e6 (List.mem_of_getElem? e1)
    · intro i b' hb'
      rcases h.mem i b' hb' with ⟨k, b, q1, q2, q3⟩ | ⟨_, q2, _⟩
      · exact .inl ⟨k, b, q1, hin k (by simp [List.mem_of_getElem? q1]) b q2, cvB_congr hSm _ _ q3⟩
      · simp [has] at q2
  have hargs := cvL_get (cvL_congr hSm _ _ h.args)
  refine hmono _ _ (hrun (gsub g ρ [] (calleeX g ρ sn)) (fun k hk => ?_) hmc (hsz.trans hargs.1) (fun i v a e1 e2 => ?_)) ?_
  · have : ρ[k]? = none := List.getElem?_eq_none (by rw [h.len]; exact hk)
    simp [gsub, this, has]
  · obtain ⟨b, q1, q2⟩ := hargs.2 i a e2
    exact cv_rep hsub hm (hvs i v b e1 q1) q2
  rintro e w' ⟨g', hG, hM, hU, hR⟩
  -- back to the caller
  generalize hkill : (!keepS ro res bout) = kill
  have hlen : ro.length = bout.length := h.olen.symm
  have hlive : ∀ (i k : Nat), ρ[i]? = some k → ∃ l, g k = .live l := fun i k hi => by
    obtain ⟨b, hb⟩ := h.there k (by simp [List.mem_of_getElem? hi])
    obtain ⟨l, e1, _⟩ := hm.blk k b (hin k (by simp [List.mem_of_getElem? hi]) b hb)
    exact ⟨l, e1⟩
  have hnρ : ∀ k, k ∈ ρ → k % HMod ≠ nh := fun k hmem e => by
    obtain ⟨i, hi⟩ := List.mem_iff_getElem?.1 hmem
    obtain ⟨l, hl⟩ := hlive i k hi
    rw [hnh k e] at hl; cases hl
  have hfr : ∀ {n k}, k ∈ fresh nh n → k % HMod = nh := fun h => (fresh_mem h).2.trans (Nat.mod_eq_of_lt hnb)
  have hnod : ro.Nodup := by
    rw [h.ext]
    exact List.nodup_append.2 ⟨h.nodup, fresh_nodup _ _, fun a ha b hb e => hnρ a ha (by rw [e]; exact hfr hb)⟩
  have hin2 : ∀ k, k ∈ ρ → k ∈ ro := fun k hk => by
    rw [h.ext]
    simp [hk]
  have hro : ∀ i k : Nat, ro[i]? = some k → ρ[i]? = some k ∨ (ρ[i]? = none ∧ k % HMod = nh) := fun i k hi => by
    rw [h.ext] at hi
    · by_cases hlt : i < ρ.length
      · rw [List.getElem?_append_left hlt] at hi; exact .inl hi
      · rw [List.getElem?_append_right (by omega)] at hi
        exact .inr ⟨List.getElem?_eq_none (by omega), hfr (List.mem_of_getElem? hi)⟩
  have hgi : ∀ (i k : Nat), ro[i]? = some k → back g g' ro sn kill k = g' i := fun i k hi => by
    show (match idx ro k with | some i => g' i | none => _) = _
    rw [idx_of hnod hi]
  have hgn : ∀ k, k ∉ ro → back g g' ro sn kill k = if kill && has sn k then (match g k with | .un => .un | _ => .dead) else g k := fun k hk => by
    show (match idx ro k with | some i => g' i | none => _) = _
    cases e : idx ro k with
    | none => rfl
    | some i => exact absurd (List.mem_of_getElem? (idx_some e)) hk
  -- live here: one of the callee's, or one of the caller's others
  have hcase : ∀ k l, back g g' ro sn kill k = .live l → (∃ i, ro[i]? = some k ∧ g' i = .live l) ∨ (k ∉ ro ∧ g k = .live l ∧ (kill = true → has sn k = false)) := fun k l e1 => by
    by_cases hk : k ∈ ro
    · obtain ⟨i, hi⟩ := List.mem_iff_getElem?.1 hk
      exact .inl ⟨i, hi, (hgi i k hi).symm.trans e1⟩
    · rw [hgn k hk] at e1
      split at e1
      · split at e1 <;> cases e1
      · rename_i hc
        refine .inr ⟨hk, e1, fun hkl => ?_⟩
        rw [hkl] at hc
        cases hh : has sn k with
        | false => rfl
        | true => rw [hh] at hc; exact absurd rfl hc
  have hgF : ∀ (i k : Nat), ro[i]? = some k → (back g g' ro sn kill).F k = g'.F i := fun i k hi => by
    funext b
    show (match idx ro k with | some i => g'.F i b | none => _) = _
    rw [idx_of hnod hi]
  have hgFn : ∀ k, k ∉ ro → (back g g' ro sn kill).F k = g.F k := fun k hk => by
    funext b
    show (match idx ro k with | some i => g'.F i b | none => _) = _
    cases e : idx ro k with
    | none => rfl
    | some i => exact absurd (List.mem_of_getElem? (idx_some e)) hk
  have hown : ∀ k b, Owns (back g g' ro sn kill) k b → (∃ i, ro[i]? = some k ∧ Owns g' i b) ∨ (k ∉ ro ∧ Owns g k b ∧ (kill = true → has sn k = false)) := fun k b ⟨l, e1, e2⟩ => by
    rcases hcase k l e1 with ⟨i, q1, q2⟩ | ⟨q1, q2, q3⟩
    · exact .inl ⟨i, q1, l, q2, e2.imp id fun e2 => by rw [← hgF i k q1]; exact e2⟩
    · exact .inr ⟨q1, ⟨l, q2, e2.imp id fun e2 => by rw [← hgFn k q1]; exact e2⟩, q3⟩
  have hgs : ∀ {i b}, Owns (gsub g ρ [] (calleeX g ρ sn)) i b → ∃ k, ρ[i]? = some k ∧ Owns g k b := fun h => gsub_owns h
  have hok : kill = true → ∀ b, okB g' w' b → okB (back g g' ro sn kill) w' b := fun hkl b hb => by
    refine ⟨hb.1, fun hX => hb.2.1 (by rw [hG.X]; exact .inl hX), fun k e1 => ?_⟩
    rcases hown k b e1 with ⟨i, _, q2⟩ | ⟨q1, q2, q3⟩
    · exact hb.2.2 i q2
    · exact hb.2.1 (by rw [hG.X]; exact .inr ⟨k, q2, fun hk => q1 (hin2 k hk), q3 hkl⟩)
  -- blocks that are not the callee's
  have hsame : ∀ b, b < w.heap.size → (∀ i, ¬ Owns (gsub g ρ [] (calleeX g ρ sn)) i b) → w'.heap[b]? = w.heap[b]? := fun b hb hn => by
    by_cases hX : calleeX g ρ sn b
    · exact hG.xb b hX
    · exact hG.block b ⟨hb, hX, hn⟩
  have hother : ∀ k b, k ∉ ρ → Owns g k b → w'.heap[b]? = w.heap[b]? := fun k b hk e1 => hsame b (hm.lt k b e1) fun i e3 => by
    obtain ⟨k', hk', e4⟩ := hgs e3
    have := hm.inj k k' b e1 e4
    exact hk (this ▸ List.mem_of_getElem? hk')
  have hgrow : Grow g w (back g g' ro sn kill) w' := by
    refine ⟨hG.os, hG.tape, hG.output, hG.size, fun b hb => hsame b hb.1 fun i e1 => ?_, fun b hb => hG.xb b (.inl hb), rfl, fun k hk => ?_, fun k l e1 => ?_, fun k b e1 => ?_⟩
    · obtain ⟨k', _, e4⟩ := hgs e1
      exact hb.2.2 k' e4
    · by_cases hkρ : k ∈ ro
      · obtain ⟨i, hi⟩ := List.mem_iff_getElem?.1 hkρ
        rw [hgi i k hi]
        rcases hro i k hi with hi' | ⟨_, hkn⟩
        · exact hG.un i (by rw [gsub_some hi']; exact hk)
        · exact absurd (hnh k hkn) hk
      · rw [hgn k hkρ]
        split
        · split
          · rename_i e; exact absurd e hk
          · simp
        · exact hk
    · rcases hcase k l e1 with ⟨i, q1, q2⟩ | ⟨q1, q2, _⟩
      · rcases hro i k q1 with q1 | ⟨_, hkn⟩
        · rcases hG.live i l q2 with q3 | q3
          · rw [gsub_some q1] at q3; exact .inl q3
          · rw [gsub_some q1] at q3; exact .inr q3
        · exact .inr (hnh k hkn)
      · exact .inl q2
    · rcases hown k b e1 with ⟨i, q1, q2⟩ | ⟨q1, q2, _⟩
      · rcases hG.new i b q2 with ⟨i2, q3⟩ | q3
        · obtain ⟨k2, _, q4⟩ := hgs q3
          exact .inl ⟨k2, q4⟩
        · exact .inr q3
      · exact .inl ⟨k, q2⟩
  refine ⟨back g g' ro sn kill, ?_, ?_, hgrow, fun k hkn hk => ?_⟩
  · -- the result
    cases hk : kill with
    | true =>
      have hok' := hok hk
      rw [hk] at hok' hgi
      cases res with
      | ret a => cases e with
        | returned v => exact Rep.out (ρ := ro) (k := ro.length) rfl hok' (fun i k hi => hgi i k hi) hR h.low
        | _ => exact hR.elim
      | pan a => cases e with
        | panicked ch => obtain ⟨v, q1, q2⟩ := hR; exact ⟨v, q1, Rep.out (ρ := ro) (k := ro.length) rfl hok' (fun i k hi => hgi i k hi) q2 h.low⟩
        | _ => exact hR.elim
    | false =>
      rw [hk] at hkill hgi
      cases hre : (ro.isEmpty && res.scal) with
      | true =>
        have hsc : res.scal = true := by simp only [Bool.and_eq_true] at hre; exact hre.2
        cases res with
        | ret a => cases e with
          | returned v => exact hR.scal hsc
          | _ => exact hR.elim
        | pan a => cases e with
          | panicked ch => obtain ⟨v, q1, q2⟩ := hR; exact ⟨v, q1, q2.scal hsc⟩
          | _ => exact hR.elim
      | false =>
        have hnf : res.nof = true := by
          unfold keepS at hkill
          rw [hre] at hkill
          simp only [cond_false, Bool.not_eq_false', Bool.and_eq_true] at hkill
          exact hkill.2
        cases res with
        | ret a => cases e with
          | returned v => exact Rep.outF (ρ := ro) (k := ro.length) rfl (fun i k hi => hgi i k hi) hR h.low hnf
          | _ => exact hR.elim
        | pan a => cases e with
          | panicked ch => obtain ⟨v, q1, q2⟩ := hR; exact ⟨v, q1, Rep.outF (ρ := ro) (k := ro.length) rfl (fun i k hi => hgi i k hi) q2 h.low hnf⟩
          | _ => exact hR.elim
  · -- the memory
    have hkρ : ∀ k, k ∈ ro → kill = true ∨ ∀ x ∈ bout, nofB x = true := fun k hk => by
      cases hq : kill with
      | true => exact .inl rfl
      | false =>
        right
        rw [hq] at hkill
        have hne : ro.isEmpty = false := by
          cases hs : ro.isEmpty with
          | false => rfl
          | true => rw [List.isEmpty_iff.1 hs] at hk; simp at hk
        unfold keepS at hkill
        rw [hne] at hkill
        simp only [Bool.false_and, cond_false, Bool.not_eq_false', Bool.and_eq_true, List.all_eq_true] at hkill
        exact hkill.1
    have hup : ∀ k, k ∉ ro → updM m' (callUp ro sn res bout) k = if kill && has sn k then none else m' k := fun k hk => by
      have e1 : idx ro k = none := by
        cases e : idx ro k with
        | none => rfl
        | some i => exact absurd (List.mem_of_getElem? (idx_some e)) hk
      unfold updM
      rw [callUp_eq, lk_append, up_none e1]
      rw [← hkill]
      cases hs : keepS ro res bout with
      | true => simp [lk]
      | false =>
        simp only [cond_false, Bool.not_false, Bool.true_and]
        rw [lk_kills]
        cases has sn k <;> simp
    have hup2 : ∀ (i k : Nat), ro[i]? = some k → updM m' (callUp ro sn res bout) k = ((bout[i]?).join.map (Blk.out ro)) := fun i k hi => by
      unfold updM
      rw [callUp_eq, lk_append, up_some hlen (idx_of hnod hi)]
    have hbo : ∀ (i : Nat) (b : Blk), (bout[i]?).join = some b → b.lowH ro.length = true := by
      intro i b hb
      have : ∀ (l : List (Option Blk)), boutOk ro.length l = true → ∀ i : Nat, (l[i]?).join = some b → b.lowH ro.length = true := by
        intro l
        induction l with
        | nil => intro _ i hi; simp at hi
        | cons x l ih =>
          intro hl i hi
          cases i with
          | zero =>
            simp at hi; subst hi
            unfold boutOk at hl
            simp only [Bool.and_eq_true] at hl
            exact hl.1
          | succ i =>
            refine ih ?_ i (by simpa using hi)
            cases x with
            | none => unfold boutOk at hl; exact hl
            | some y => unfold boutOk at hl; simp only [Bool.and_eq_true] at hl; exact hl.2
      exact this bout h.bok i hb
    refine ⟨fun k b hb => ?_, fun k k' b e1 e2 => ?_, fun k b e1 => ?_, fun b hb => Nat.lt_of_lt_of_le (hm.xlt b hb) hG.size, fun k b e1 hX => ?_, hm.gl.grow hgrow⟩
    · by_cases hk : k ∈ ro
      · obtain ⟨i, hi⟩ := List.mem_iff_getElem?.1 hk
        rw [hup2 i k hi, Option.map_eq_some_iff] at hb
        obtain ⟨b0, q1, rfl⟩ := hb
        obtain ⟨l, q2, q3⟩ := hM.blk i b0 q1
        rw [hgF i k hi]
        refine ⟨l, (hgi i k hi).trans q2, ?_⟩
        rcases hkρ k hk with hq | hq
        · exact q3.out (ρ := ro) (k := ro.length) rfl (hok hq) (fun i k hi => hgi i k hi) (hbo i b0 q1)
        · have hb0 : some b0 ∈ bout := by
            cases e : bout[i]? with
            | none => rw [e] at q1; cases q1
            | some x =>
              rw [e] at q1
              have q1 : x = some b0 := q1
              exact List.mem_of_getElem? (q1 ▸ e)
          exact q3.outF (ρ := ro) (k := ro.length) rfl (fun i k hi => hgi i k hi) (hbo i b0 q1) (hq _ hb0)
      · rw [hup k hk] at hb
        split at hb
        · cases hb
        · rename_i hc
          obtain ⟨l, q1, q2⟩ := hm.blk k b hb
          rw [hgFn k hk]
          refine ⟨l, ?_, q2.grow hgrow fun j hj => hother k j (fun hm' => hk (hin2 k hm')) ⟨l, q1, hj⟩⟩
          rw [hgn k hk, if_neg hc]; exact q1
    · -- a block of the callee's and one of another
      have apart : ∀ {k i b}, k ∉ ro → Owns g k b → ¬ Owns g' i b := fun {k i b} q1 q2 q3 => by
        have hlt := hm.lt k b q2
        rcases hG.new i b q3 with ⟨i2, q4⟩ | q4
        · obtain ⟨k2, hk2, q5⟩ := hgs q4
          have := hm.inj k k2 b q2 q5
          exact q1 (hin2 _ (this ▸ List.mem_of_getElem? hk2))
        · omega
      rcases hown k b e1 with ⟨i, q1, q2⟩ | ⟨q1, q2, _⟩ <;> rcases hown k' b e2 with ⟨i', q1', q2'⟩ | ⟨q1', q2', _⟩
      · have := hM.inj i i' b q2 q2'
        subst this
        rw [q1] at q1'; cases q1'; rfl
      · exact absurd q2 (apart q1' q2')
      · exact absurd q2' (apart q1 q2)
      · exact hm.inj k k' b q2 q2'
    · rcases hown k b e1 with ⟨i, q1, q2⟩ | ⟨q1, q2, _⟩
      · exact hM.lt i b q2
      · exact Nat.lt_of_lt_of_le (hm.lt k b q2) hG.size
    · rcases hown k b e1 with ⟨i, q1, q2⟩ | ⟨q1, q2, _⟩
      · exact hM.xl i b q2 (by rw [hG.X]; exact .inl hX)
      · exact hm.xl k b q2 hX
  · have hk' : k ∉ ro := fun hmem => by
      obtain ⟨i, hi⟩ := List.mem_iff_getElem?.1 hmem
      rcases hro i k hi with hi | ⟨_, e⟩
      · obtain ⟨l, hl⟩ := hlive i k hi
        rw [hk] at hl; cases hl
      · exact hkn e
    rw [hgn k hk', hk]
    split <;> rfl
theorem acall_run {f : Nat} {xs as : List AV} {sn : List Nat} {bin : List Blk} {res : AE} {bout : List (Option Blk)} {ro : List Nat} {nh : Nat} (h : CallOk P m nh f xs ρ ro sn as bin res bout) (g : Gh) (w : World) (m' : Mem) (vs : Array Value)
    (hm : MSt g w m') (hnb : nh < HMod) (hnh : ∀ k, k % HMod = nh → g k = .un) (hrd : ∀ p ∈ rdOf m (ρ ++ sn), m' p.1 = some p.2) (hsz : vs.size = xs.length) (hvs : ∀ (i : Nat) (v : Value) (a : AV), vs[i]? = some v → xs[i]? = some a → Rep g w v a) :
    Calls P f vs w fun e w' => ∃ gn, (res.out ro).is gn w' e ∧ MSt gn w' (updM m' (callUp ro sn res bout)) ∧ Grow g w gn w' ∧ ∀ k, k % HMod ≠ nh → g k = .un → gn k = .un :=
  acall_core h.fit (Run := fun R => Calls P f vs w R) (fun _ _ h1 h2 => h1.mono h2) g w m' vs (fun g hun hmc hl hv => h.ctr.run g w vs hun hmc hl hv) hm hnb hnh hrd hsz hvs
end
end Go.Proofs.YthboippafkcoiaaGreatDoor.am

namespace Go.Proofs.YthboippafkcoiaaGreatDoor.am
open Go
set_option linter.unusedSimpArgs false

structure AS where
  t : Nat → Option AV
  m : Mem
  nx : Nat
def evA (t : Nat → Option AV) : Operand → Option AV
  | .tmp i => t i
  | .const (.agg cs) => bif cs.toList.all goodB then some (.agg (cs.toList.map fun v => .tr (.v v))) else none
  | .const v => bif goodB v then some (.tr (.v v)) else none
  | .func f => some (.fn f [])
  | .global _ => none
def putA (t : Nat → Option AV) (dst : Option Nat) (a : AV) : Nat → Option AV := match dst with | some d => fun i => bif Nat.beq i d then some a else t i | none => t
def AS.put (s : AS) (dst : Option Nat) (a : AV) (up : List (Nat × Option Blk)) : AS := { s with t := putA s.t dst a, m := updM s.m up }
def calleeOf : AV → Option (Nat × List AV)
  | .fn f l => some (f, l)
  | .tr (.v (.func (.func f) _ _)) => some (f, [])
  | _ => none
def EE.of (fac : Bool) (K Pn : KK) : EE := fun res rd up => match res with | .ret a => cond fac (AOk a → K a rd up) (K a rd up) | .pan a => cond fac (AOk a → Pn a rd up) (Pn a rd up)
/-- any operation -/
def astep (P : Program) (T : Ty) (fac : Bool) (o : Oper) (nh : Nat) (ev : Operand → Option AV) (m : Mem) (K Pn : KK) : Prop :=
  match o.op with
  | .call { callee := .value x, args, .. } => match ev x with
    | some c => match calleeOf c, evs ev args.toList with
      | some (f, caps), some xs => acall P m nh f (xs ++ caps) (EE.of fac K Pn)
      | none, some [] => match c with
        | .ifc t a => bif Nat.ble HMod t && Nat.blt t (2 * HMod) then acall P m nh (t - HMod) [a] (EE.of fac K Pn) else False
        | _ => False
      | _, _ => False
    | none => False
  | .call { callee := .invoke x name, args, .. } => match ev x, evs ev args.toList with
    | some (.ifc t a), some xs => bif Nat.blt t HMod then ∃ f, (∀ v vs w, (callMethod (.iface t v) name vs).run P w = (callFunc f (#[v] ++ vs)).run P w) ∧ acall P m nh f (a :: xs) (EE.of fac K Pn) else False
    | _, _ => False
  | .call { callee := .builtin .panic, args := ⟨[x]⟩, .. } => match ev x with
    | some (.ifc t a) => bif Nat.blt t HMod then Pn (.ifc t a) [] [] else False
    | _ => False
  | .panic x => match ev x with
    | some (.ifc t a) => bif Nat.blt t HMod then Pn (.ifc t a) [] [] else False
    | _ => False
  | op => aop T m nh ev K op
def dstOk (N : Nat) : Option Nat → Bool | some d => Nat.blt d N | none => true
inductive AX where
  | normal | exit (id : Nat) | ret | pan (a : AV)
/-- the value of operation j, a guard's -/
def gval (ops : Array Oper) (t : Nat → Option AV) (j : Nat) : Option AV := match ops[j]? with | some o => (match o.dst with | some d => t d | none => none) | none => none
/-- the guard's value is known -/
def gknow (ops : Array Oper) (t : Nat → Option AV) (j : Nat) (b : Bool) : Nat → Option AV := match ops[j]? with | some o => (match o.dst with | some d => putA t (some d) (.tr (.v (.bool b))) | none => t) | none => t
def gdo (b : Bool) (A B : Prop) : Prop := match b with | true => A | false => B
/-! what a step gives -/
section
variable {P : Program} {T : Ty} {o : Oper} {m : Mem} {nh : Nat} {ev : Operand → Option AV} {K Pn : KK}
def WStep (P : Program) (o : Oper) (nh : Nat) (ev : Operand → Option AV) (rd : List (Nat × Blk)) (up : List (Nat × Option Blk)) (a : AV) (pan : Bool) : Prop :=
  ∀ (g : Gh) (w : World) (m : Mem) (act : Act) (Kc : Act → World → Prop) (Q : Exit → Act → World → Prop), MSt g w m → (∀ k, k % HMod = nh → g k = .un) → (∀ p ∈ rd, m p.1 = some p.2) → (∀ x b, ev x = some b → Rep g w (act.eval x) b) →
    (pan = false → ∀ v w' g', Rep g' w' v a → MSt g' w' (updM m up) → Grow g w g' w' → (∀ h, h % HMod ≠ nh → g h = .un → g' h = .un) → Kc (act.put o.dst v) w') →
    (pan = true → ∀ v w' g', Rep g' w' v a → MSt g' w' (updM m up) → Grow g w g' w' → (∀ h, h % HMod ≠ nh → g h = .un → g' h = .un) → Q (.panic [{ v, recovered := false }]) act w') → o.wp P act w Kc Q
def RdUp (m : Mem) (nh : Nat) (rd : List (Nat × Blk)) (up : List (Nat × Option Blk)) : Prop := (∀ p ∈ rd, m p.1 = some p.2) ∧ ∀ p ∈ up, p.1 % HMod = nh ∨ ∃ q ∈ rd, q.1 = p.1
def WOk (P : Program) (fac : Bool) (o : Oper) (m : Mem) (nh : Nat) (ev : Operand → Option AV) (K Pn : KK) : Prop :=
  (∃ a rd up, ((fac = true → AOk a) → K a rd up) ∧ RdUp m nh rd up ∧ WStep P o nh ev rd up a false) ∨ ∃ a rd up, ((fac = true → AOk a) → Pn a rd up) ∧ RdUp m nh rd up ∧ WStep P o nh ev rd up a true
theorem WOk.of_L {fac : Bool} (hnb : nh < HMod) (h : LOk P o m nh ev K) : WOk P fac o m nh ev K Pn := by
  obtain ⟨a, rd, up, hK, h1, h2, h3⟩ := h
  refine .inl ⟨a, rd, up, fun _ => hK, ⟨h1, fun p hp => (h2 p hp).imp (fun e => by rw [e]; exact Nat.mod_eq_of_lt hnb) id⟩, fun g w m' act Kc Q hm hn hrd hev hk _ => ?_⟩
  obtain ⟨g', w', hr, e1, e2, e3⟩ := h3 g w m' act.eval hm (hn nh (Nat.mod_eq_of_lt hnb)) hrd hev
  have e3 : ∀ h, h % HMod ≠ nh → g h = .un → g' h = .un := fun h q => e3 h fun e => q (by rw [e]; exact Nat.mod_eq_of_lt hnb)
  unfold Oper.wp
  rcases hr with ⟨v, hr, hv⟩ | ⟨hr, rfl⟩
  · rw [hr]; exact hk rfl v w' g' hv e1 e2 e3
  · rw [hr]; exact hk rfl undef w' g' .und e1 e2 e3
theorem callUp_in {ρ sn : List Nat} {res : AE} {bout : List (Option Blk)} : ∀ p ∈ callUp ρ sn res bout, p.1 ∈ ρ ∨ p.1 ∈ sn := by
  intro p hp
  rw [callUp_eq] at hp
  rcases List.mem_append.1 hp with hp | hp
  · left
    have : ∀ (l : List Nat) (bs : List (Option Blk)), p ∈ upOf ρ l bs → p.1 ∈ l := by
      intro l
      induction l with
      | nil => intro bs h; simp [upOf] at h
      | cons k r ih =>
        intro bs h
        cases bs with
        | nil => simp [upOf] at h
        | cons b bs =>
          unfold upOf at h
          simp only [List.mem_cons] at h ⊢
          rcases h with rfl | h
          · exact .inl rfl
          · exact .inr (ih bs h)
    exact this ρ bout hp
  · right
    cases hc : keepS ρ res bout with
    | true => rw [hc] at hp; simp at hp
    | false =>
      rw [hc] at hp
      simp only [cond_false, kills, List.mem_map] at hp
      obtain ⟨h, hh, rfl⟩ := hp
      exact hh
theorem call_gen (hnb : nh < HMod) {fac : Bool} {f : Nat} {ys : List AV} (hcall : ∀ (g : Gh) (w : World) (act : Act), Callable P f → (∀ x b, ev x = some b → Rep g w (act.eval x) b) → ∃ vs : Array Value, (execOp act.eval o).run P w = .ok (.enter f vs) w ∧ vs.size = ys.length ∧ ∀ (i : Nat) (v : Value) (a : AV), vs[i]? = some v → ys[i]? = some a → Rep g w v a)
    (h : acall P m nh f ys (EE.of fac K Pn)) : WOk P fac o m nh ev K Pn := by
  obtain ⟨ρ, ro, sn, as, bin, res, bout, hok, hK⟩ := h
  have hrdup : RdUp m nh (rdOf m (ρ ++ sn)) (callUp ro sn res bout) := ⟨fun p hp => (rdOf_ok p hp).1, fun p hp => by
    · rcases callUp_in p hp with hp | hp
      · rw [hok.ext] at hp
        rcases List.mem_append.1 hp with hp | hp
        · obtain ⟨b, hb⟩ := hok.there p.1 (by simp [hp]); exact .inr ⟨(p.1, b), rdOf_mem (by simp [hp]) hb, rfl⟩
        · exact .inl ((fresh_mem hp).2.trans (Nat.mod_eq_of_lt hnb))
      · obtain ⟨b, hb⟩ := hok.there p.1 (by simp [hp]); exact .inr ⟨(p.1, b), rdOf_mem (by simp [hp]) hb, rfl⟩⟩
  have main : ∀ (g : Gh) (w : World) (m' : Mem) (act : Act) (Kc : Act → World → Prop) (Q : Exit → Act → World → Prop), MSt g w m' → (∀ k, k % HMod = nh → g k = .un) → (∀ p ∈ rdOf m (ρ ++ sn), m' p.1 = some p.2) → (∀ x b, ev x = some b → Rep g w (act.eval x) b) →
      (∀ e w', (∃ gn, (res.out ro).is gn w' e ∧ MSt gn w' (updM m' (callUp ro sn res bout)) ∧ Grow g w gn w' ∧ ∀ k, k % HMod ≠ nh → g k = .un → gn k = .un) → (match e with | .returned v => Kc (act.put o.dst v) w' | .panicked chain => Q (.panic chain) act w' | .outgrown => LetsOut Q)) → o.wp P act w Kc Q := by
    intro g w m' act Kc Q hm hn hrd hev hfin
    obtain ⟨vs, hrun, e1, e2⟩ := hcall g w act hok.ctr.callable hev
    unfold Oper.wp
    rw [hrun]
    refine (acall_run hok g w m' _ hm hnb hn hrd e1 e2).mono fun e w' he => by
      have := hfin e w' he
      cases e <;> exact this
  cases res with
  | ret a =>
    refine .inl ⟨_, _, _, fun hf => (by cases fac with | true => exact hK (hf rfl) | false => exact hK), hrdup, fun g w m' act Kc Q hm hn hrd hev hk _ => main g w m' act Kc Q hm hn hrd hev ?_⟩
    rintro e w' ⟨gn, h1, h2, h3, h4⟩
    cases e with
    | returned v => exact hk rfl v w' gn h1 h2 h3 h4
    | _ => exact h1.elim
  | pan a =>
    refine .inr ⟨_, _, _, fun hf => (by cases fac with | true => exact hK (hf rfl) | false => exact hK), hrdup, fun g w m' act Kc Q hm hn hrd hev _ hk => main g w m' act Kc Q hm hn hrd hev ?_⟩
    rintro e w' ⟨gn, h1, h2, h3, h4⟩
    cases e with
    | panicked ch => obtain ⟨v, rfl, h1⟩ := h1; exact hk rfl v w' gn h1 h2 h3 h4
    | _ => exact h1.elim
theorem call_ok (hnb : nh < HMod) {fac : Bool} {f : Nat} {x : Operand} {args : Array Operand} {ats : Array TypeId} {c : AV} {caps xs : List AV} (ho : o.op = .call { callee := .value x, args, argTypes := ats }) (hx : ev x = some c) (hc : calleeOf c = some (f, caps)) (hxs : evs ev args.toList = some xs)
    (h : acall P m nh f (xs ++ caps) (EE.of fac K Pn)) : WOk P fac o m nh ev K Pn := by
  refine call_gen hnb (fun g w act hcb hev => ?_) h
  obtain ⟨e1, e2⟩ := evs_ok hev _ _ hxs
  obtain ⟨cs, hcv, hcs, hcr⟩ : ∃ cs : Array Value, act.eval x = .func (.func f) #[] cs ∧ cs.size = caps.length ∧ ∀ (i : Nat) (v : Value) (a : AV), cs[i]? = some v → caps[i]? = some a → Rep g w v a := by
    have hr := hev x c hx
    unfold calleeOf at hc
    split at hc
    · cases hc
      generalize hv : act.eval x = v at hr
      cases hr with
      | fn q1 q2 => exact ⟨_, rfl, q1, q2⟩
    · cases hc
      obtain ⟨q1, q2⟩ := val_inv hr
      obtain ⟨rfl, rfl⟩ := q2
      exact ⟨#[], q1, rfl, fun i v a h => by simp at h⟩
    · cases hc
  refine ⟨args.map act.eval ++ cs, ?_, by simp only [Array.size_append, Array.size_map, List.length_append]; simp only [List.length_map, Array.length_toList] at e1; omega, fun i v a q1 q2 => ?_⟩
  · simp only [execOp, ho, resolve, Deferred.ofValue, hcv, Sem.run_bind, Sem.run_pure, Result.andThen_ok, invoke]
    rw [hcb]
    simp
  · have hl : (args.map act.eval).size = xs.length := by simpa using e1
    by_cases hi : i < xs.length
    · rw [Array.getElem?_append_left (by omega)] at q1
      rw [List.getElem?_append_left hi] at q2
      exact e2 i v a (by simpa using q1) q2
    · rw [Array.getElem?_append_right (by omega), hl] at q1
      rw [List.getElem?_append_right (by omega)] at q2
      exact hcr _ v a q1 q2
theorem astep_ok (hnb : nh < HMod) {fac : Bool} (hT : TOk P T) (h : astep P T fac o nh ev m K Pn) : WOk P fac o m nh ev K Pn := by
  unfold astep at h
  split at h
  · rename_i x args ats ho
    split at h
    case h_2 => exact h.elim
    rename_i c hx
    split at h
    · rename_i f caps xs hc hxs
      exact call_ok hnb ho hx hc hxs h
    · rename_i hc hxs
      split at h
      case h_2 => exact h.elim
      rename_i t a
      cases hlt : (Nat.ble HMod t && Nat.blt t (2 * HMod)) with
      | false => rw [hlt] at h; exact h.elim
      | true =>
        rw [hlt, cond_true] at h
        rw [Bool.and_eq_true] at hlt
        have hlt2 : t < 2 * HMod := Nat.le_of_ble_eq_true hlt.2
        replace hlt := hlt.1
        refine call_gen hnb (fun g w act hcb hev => ?_) h
        obtain ⟨e1, _⟩ := evs_ok hev _ _ hxs
        have ha : args = #[] := by
          have : args.toList.length = 0 := by simpa using e1
          exact Array.eq_empty_of_size_eq_zero this
        subst ha
        have hr := hev x _ hx
        generalize hv : act.eval x = v at hr
        cases hr with
        | ifc ht _ => have := Nat.le_of_ble_eq_true hlt; omega
        | psl hr => omega
        | win hr => omega
        | bnd hf hr =>
          rename_i f xv
          have ef : HMod + f - HMod = f := by omega
          rw [ef] at hcb ⊢
          refine ⟨#[xv], ?_, rfl, fun i v a q1 q2 => ?_⟩
          · simp only [execOp, ho, resolve, Deferred.ofValue, hv, Sem.run_bind, Sem.run_pure, Result.andThen_ok, invoke]
            simp only [Array.map_empty, Array.append_empty]
            rw [hcb]
          · cases i with
            | zero => simp at q1 q2; subst q1; subst q2; exact hr
            | succ i => simp at q1
    · exact h.elim
  · rename_i x name args ats ho
    split at h
    case h_2 => exact h.elim
    rename_i t a xs hx hxs
    cases hlt : Nat.blt t HMod with
    | false => rw [hlt] at h; exact h.elim
    | true =>
    rw [hlt, cond_true] at h
    replace hlt : t < HMod := Nat.le_of_ble_eq_true hlt
    obtain ⟨f, hmeth, h⟩ := h
    refine call_gen hnb (fun g w act hcb hev => ?_) h
    obtain ⟨e1, e2⟩ := evs_ok hev _ _ hxs
    have hr := hev x _ hx
    generalize hv : act.eval x = v at hr
    cases hr with
    | bnd _ hr => omega
    | psl hr => omega
    | win hr => omega
    | ifc htt hr =>
      rename_i xv
      have e1' : args.size = xs.length := by simpa using e1
      refine ⟨#[xv] ++ args.map act.eval, ?_, (by rw [Array.size_append, Array.size_map, List.length_cons, e1']; exact Nat.add_comm 1 _), fun i v a q1 q2 => ?_⟩
      · have e0 : (#[Value.iface t xv] ++ args.map act.eval)[0]? = some (.iface t xv) := by rw [Array.getElem?_append_left (by simp)]; rfl
        have e3 : (#[Value.iface t xv] ++ args.map act.eval).extract 1 (#[Value.iface t xv] ++ args.map act.eval).size = args.map act.eval := by
          apply Array.ext'
          simp [Array.toList_extract, List.extract]
          exact List.take_of_length_le (by simp)
        simp only [execOp, ho, resolve, hv, Sem.run_bind, Sem.run_pure, Result.andThen_ok, invoke, e0, e3]
        rw [hmeth, hcb]
      · cases i with
        | zero =>
          rw [Array.getElem?_append_left (by simp)] at q1
          have q1 : some xv = some v := q1
          cases q1; cases q2; exact hr
        | succ i =>
          rw [Array.getElem?_append_right (by simp)] at q1
          exact e2 i v a (by simpa using q1) (by simpa using q2)
  · rename_i x ats ho
    split at h
    case h_2 => exact h.elim
    rename_i t a hx
    cases hlt : Nat.blt t HMod with
    | false => rw [hlt] at h; exact h.elim
    | true =>
    rw [hlt, cond_true] at h
    replace hlt : t < HMod := Nat.le_of_ble_eq_true hlt
    refine .inr ⟨_, _, _, fun _ => h, ⟨by simp, by simp⟩, fun g w m' act Kc Q hm hn hrd hev _ hk => ?_⟩
    have hr := hev x _ hx
    generalize hv : act.eval x = v at hr
    have hr' := hr
    cases hr with
    | bnd _ hr => omega
    | psl hr => omega
    | win hr => omega
    | ifc _ hr =>
      unfold Oper.wp
      have : (execOp act.eval o).run P w = .halt (.panic (act.eval x)) w := by
        simp [execOp, ho, resolve, invoke, builtin, hv, Instr.panic]
      rw [this]
      show Q (.panic [{ v := act.eval x, recovered := false }]) act w
      rw [hv]
      exact hk rfl _ w g hr' hm (Grow.refl _ _) fun _ _ h => h
  · rename_i x ho
    split at h
    case h_2 => exact h.elim
    rename_i t a hx
    cases hlt : Nat.blt t HMod with
    | false => rw [hlt] at h; exact h.elim
    | true =>
    rw [hlt, cond_true] at h
    replace hlt : t < HMod := Nat.le_of_ble_eq_true hlt
    refine .inr ⟨_, _, _, fun _ => h, ⟨by simp, by simp⟩, fun g w m' act Kc Q hm hn hrd hev _ hk => ?_⟩
    have hr := hev x _ hx
    generalize hv : act.eval x = v at hr
    have hr' := hr
    cases hr with
    | bnd _ hr => omega
    | psl hr => omega
    | win hr => omega
    | ifc _ hr =>
      unfold Oper.wp
      have : (execOp act.eval o).run P w = .halt (.panic (act.eval x)) w := by
        simp [execOp, ho, hv, Instr.panic]
      rw [this]
      show Q (.panic [{ v := act.eval x, recovered := false }]) act w
      rw [hv]
      exact hk rfl _ w g hr' hm (Grow.refl _ _) fun _ _ h => h
  · exact .of_L hnb (aop_sound hT h)
end
end Go.Proofs.YthboippafkcoiaaGreatDoor.am

namespace Go.Proofs.YthboippafkcoiaaGreatDoor.am
open Go
set_option linter.unusedSimpArgs false

/-- A state of the machine and one of the model's, of a call that began with ghost g0 in world w0. -/
structure St (g0 : Gh) (w0 : World) (N : Nat) (g : Gh) (act : Act) (w : World) (s : AS) : Prop where
  size : act.tmps.size = N
  defers : act.defers = g0.D
  fr : ∀ i a, s.t i = some a → i < N ∧ Rep g w (act.tmps.getD i undef) a
  mem : MSt g w s.m
  un : ∀ h, s.nx ≤ h % HMod → g h = .un
  grow : Grow g0 w0 g w

section
variable {P : Program} {T : Ty} {N : Nat} {ops : Array Oper} {g0 : Gh} {w0 : World}
theorem getD_set {t : Array Value} {d i : Nat} {v : Value} (hd : d < t.size) : (t.setIfInBounds d v).getD i undef = if i = d then v else t.getD i undef := by
  by_cases h : i = d
  · subst h; simp [hd]
  · have h' : ¬ d = i := fun e => h e.symm
    rw [if_neg h]
    by_cases hi : i < t.size
    · simp [Array.getD, hi, Array.getElem_setIfInBounds, h']
    · simp [Array.getD, hi]
theorem evA_ok {g : Gh} {act : Act} {w : World} {t : Nat → Option AV} (hf : ∀ i a, t i = some a → i < N ∧ Rep g w (act.tmps.getD i undef) a) : ∀ x b, evA t x = some b → Rep g w (act.eval x) b := by
  intro x b h
  unfold evA at h
  split at h
  · exact (hf _ _ h).2
  · rename_i cs
    cases hg : cs.toList.all goodB with
    | false => rw [hg] at h; cases h
    | true =>
      rw [hg] at h
      cases h
      have hall := List.all_eq_true.1 hg
      refine .agg (by simp) (fun a ha => ?_) fun i c a e1 e2 => ?_
      · simp only [List.mem_map] at ha; obtain ⟨v, _, rfl⟩ := ha; rfl
      · simp only [List.getElem?_map, Option.map_eq_some_iff, Array.getElem?_toList] at e2
        obtain ⟨v, e3, rfl⟩ := e2
        rw [e1] at e3; cases e3
        exact .tr (.v (good_of (hall c (Array.mem_toList_iff.2 (Array.mem_of_getElem? e1)))))
  · rename_i v _
    cases hg : goodB v with
    | false => rw [hg] at h; cases h
    | true => rw [hg] at h; cases h; exact .tr (.v (good_of hg))
  · cases h
    exact .fn rfl fun i c a e1 e2 => by simp at e1
  · cases h
theorem put_ok {g g' : Gh} {act : Act} {w w' : World} {t : Nat → Option AV} {dst : Option Nat} {v : Value} {a : AV} (hN : act.tmps.size = N) (hf : ∀ i a, t i = some a → i < N ∧ Rep g w (act.tmps.getD i undef) a) (hg : Grow g w g' w') (hd : dstOk N dst = true) (ha : Rep g' w' v a) :
    (act.put dst v).tmps.size = N ∧ ∀ i b, putA t dst a i = some b → i < N ∧ Rep g' w' ((act.put dst v).tmps.getD i undef) b := by
  cases dst with
  | none => exact ⟨hN, fun i b hb => ⟨(hf i b hb).1, ((hf i b hb).2).grow hg⟩⟩
  | some d =>
    have hd : d < act.tmps.size := by rw [hN]; exact Nat.le_of_ble_eq_true hd
    refine ⟨by simp [Act.put, hN], fun i b hb => ?_⟩
    show i < N ∧ Rep g' w' ((act.tmps.setIfInBounds d v).getD i undef) b
    rw [getD_set hd]
    unfold putA at hb
    by_cases hi : i = d
    · subst hi
      simp at hb
      subst hb
      exact ⟨by omega, by rw [if_pos rfl]; exact ha⟩
    · have : Nat.beq i d = false := beq_ne hi
      simp only [this, cond_false] at hb
      rw [if_neg hi]
      exact ⟨(hf i b hb).1, ((hf i b hb).2).grow hg⟩
theorem put_defers (act : Act) (dst : Option Nat) (v : Value) : (act.put dst v).defers = act.defers := by cases dst <;> rfl

/-- the ending of a piece of code, here and there -/
def AX.is (g : Gh) (w : World) : AX → Exit → Prop
  | .normal, .normal => True
  | .exit i, .exit j => i = j
  | .ret, .ret => True
  | .pan a, .panic ch => ∃ v, ch = [{ v, recovered := false }] ∧ Rep g w v a
  | _, _ => False
/-- what holds at the end -/
def Post (g0 : Gh) (w0 : World) (N : Nat) (Q : AX → AS → Prop) : Exit → Act → World → Prop :=
  fun e act w => ∃ x s g, Q x s ∧ St g0 w0 N g act w s ∧ x.is g w e
/-- a state within a region: the handles of the operations to come stand for nothing -/
structure StR (g0 : Gh) (w0 : World) (N : Nat) (lo : Nat) (g : Gh) (act : Act) (w : World) (t : Nat → Option AV) (m : Mem) : Prop where
  size : act.tmps.size = N
  defers : act.defers = g0.D
  fr : ∀ i a, t i = some a → i < N ∧ Rep g w (act.tmps.getD i undef) a
  mem : MSt g w m
  un : ∀ h, lo ≤ h % HMod → g h = .un
  grow : Grow g0 w0 g w
theorem yielded_ok {g : Gh} {act : Act} {w : World} {t : Nat → Option AV} (hN : act.tmps.size = N) (hf : ∀ i a, t i = some a → i < N ∧ Rep g w (act.tmps.getD i undef) a) {j : Nat} {a : AV} (h : gval ops t j = some a) :
    (a = .und → yielded ops act.tmps j = none) ∧ ∀ y, a = .tr (.v (.bool y)) → yielded ops act.tmps j = some y := by
  unfold gval at h
  split at h
  case h_2 => cases h
  rename_i o ho
  split at h
  case h_2 => cases h
  rename_i d hd
  obtain ⟨h1, h2⟩ := hf d a h
  have hget : act.tmps[d]? = some (act.tmps.getD d undef) := by
    have : d < act.tmps.size := by rw [hN]; exact h1
    simp [this]
  have hy : yielded ops act.tmps j = match act.tmps.getD d undef with | .bool b => some b | _ => none := by
    unfold yielded
    simp only [ho, Option.bind_some, hd]
    rw [hget]
    generalize act.tmps.getD d undef = v
    cases v <;> rfl
  rw [hy]
  generalize act.tmps.getD d undef = v at h2
  constructor
  · rintro rfl; cases h2; rfl
  · rintro y rfl
    obtain ⟨rfl, _⟩ := val_inv h2
    rfl
theorem gknow_ok {g : Gh} {act : Act} {w : World} {t : Nat → Option AV} (hf : ∀ i a, t i = some a → i < N ∧ Rep g w (act.tmps.getD i undef) a) {j : Nat} {y : Bool} (h : gval ops t j = some (.tr (.v (.bool y)))) : ∀ i a, gknow ops t j y i = some a → i < N ∧ Rep g w (act.tmps.getD i undef) a := by
  intro i a hi
  unfold gknow at hi
  unfold gval at h
  cases ho : ops[j]? with
  | none => rw [ho] at h; cases h
  | some o =>
    rw [ho] at h hi
    have h : (match o.dst with | some d => t d | none => none) = some (.tr (.v (.bool y))) := h
    have hi : (match o.dst with | some d => putA t (some d) (.tr (.v (.bool y))) | none => t) i = some a := hi
    cases hd : o.dst with
    | none => rw [hd] at hi; exact hf i a hi
    | some d =>
      rw [hd] at hi h
      have h : t d = some (.tr (.v (.bool y))) := h
      have hi : (bif Nat.beq i d then some (.tr (.v (.bool y))) else t i) = some a := hi
      by_cases hid : i = d
      · subst hid; rw [Nat.beq_refl, cond_true] at hi; cases hi; exact hf i _ h
      · rw [beq_ne hid, cond_false] at hi; exact hf i a hi
end
end Go.Proofs.YthboippafkcoiaaGreatDoor.am

namespace Go.Proofs.YthboippafkcoiaaGreatDoor.am
open Go
set_option linter.unusedSimpArgs false

/-! what waits for what -/
def deps (ops : Array Oper) (i : Nat) : List Nat := ((ops[i]?).map fun o => (o.after.toList.filter (Region.binds .any)).map (·.on)).getD []
def upw (ops : Array Oper) : Bool := (List.range ops.size).all fun i => (deps ops i).all fun j => Nat.blt j i
/-- j is ahead of i -/
def bef (ops : Array Oper) : Nat → Nat → Nat → Bool
  | 0, _, _ => false
  | f + 1, i, j => (deps ops i).any (fun d => Nat.beq d j) || (deps ops i).any fun d => Nat.blt j d && bef ops f d j
structure Ft where
  rd : List Nat
  up : List Nat
def meets (a b : List Nat) : Bool := a.any fun x => has b x
def apartF (x y : Ft) : Bool := !meets x.up y.rd && !meets x.up y.up && !meets y.up x.rd
def pairOk (ops : Array Oper) (fts : List Ft) (i j : Nat) : Bool :=
  bef ops ops.size j i || (match ops[i]?, ops[j]?, fts[i]?, fts[j]? with
    | some x, some y, some a, some b => x.apart ops y && apartF a b
    | _, _, _, _ => false)
def drawOk (ops : Array Oper) (fts : List Ft) : Bool := upw ops && (List.range ops.size).all fun j => (List.range j).all fun i => pairOk ops fts i j
/-- what an operation looks at -/
def evR (ops : Array Oper) (o : Oper) (t : Nat → Option AV) : Operand → Option AV
  | .tmp i => bif has (o.looksAt ops) i then t i else none
  | x => evA t x
structure Rc where
  a : AV
  rd : List (Nat × Blk)
  up : List (Nat × Option Blk)
  run : Bool
def Rc.ft (c : Rc) : Ft := ⟨c.rd.map (·.1), c.up.map (·.1)⟩
/-- whether the operation is carried out -/
def wants (ops : Array Oper) (t : Nat → Option AV) (o : Oper) (run : Bool) : Prop :=
  match o.guard with
  | none => run = true
  | some (j, want) => (gval ops t j = some .und ∧ run = false) ∨ ∃ y, gval ops t j = some (.tr (.v (.bool y))) ∧ run = (y == want)
def Recs (P : Program) (N : Nat) (ops : Array Oper) (nh : Nat) : List Oper → Nat → AS → List Rc → AS → Prop
  | [], _, s, [], sf => sf = s
  | o :: r, i, s, c :: cs, sf => dstOk N o.dst = true ∧ wants ops s.t o c.run ∧ RdUp s.m (nh + i) c.rd c.up ∧ (c.run = true → WStep P o (nh + i) (evR ops o s.t) c.rd c.up c.a false) ∧ (c.run = false → c.a = .und ∧ c.up = []) ∧
      Recs P N ops nh r (i + 1) (s.put o.dst c.a c.up) cs sf
  | _, _, _, _, _ => False
section
variable {P : Program} {T : Ty} {N : Nat} {ops : Array Oper} {nh : Nat} {g0 : Gh} {w0 : World}
/-! a state behind some of the operations -/
def dstOf (ops : Array Oper) (i : Nat) : Option Nat := (ops[i]?).bind (·.dst)
def foldS (ops : Array Oper) (R : Nat → Rc) (s : AS) (l : List Nat) : AS := l.foldl (fun s i => s.put (dstOf ops i) (R i).a (R i).up) s
def wT (ops : Array Oper) (x i : Nat) : Bool := match dstOf ops i with | some d => Nat.beq x d | none => false
def wM (R : Nat → Rc) (h i : Nat) : Bool := has ((R i).up.map (·.1)) h
theorem lk_has {α : Type} {l : List (Nat × α)} {h : Nat} : has (l.map (·.1)) h = true ↔ ∃ x, lk l h = some x := by
  induction l with
  | nil => simp [has, lk]
  | cons p r ih =>
    obtain ⟨k, x⟩ := p
    rw [List.map_cons, show has (k :: r.map (·.1)) h = (Nat.beq k h || has (r.map (·.1)) h) from rfl, lk_cons]
    cases Nat.beq k h with
    | true => simp
    | false => simpa using ih
theorem foldS_snoc (R : Nat → Rc) (s : AS) (l : List Nat) (i : Nat) : foldS ops R s (l ++ [i]) = (foldS ops R s l).put (dstOf ops i) (R i).a (R i).up := by simp [foldS]
theorem snoc_ind {α : Type} {p : List α → Prop} (h0 : p []) (h1 : ∀ l a, p l → p (l ++ [a])) : ∀ l, p l := by
  intro l
  have : ∀ n (l : List α), l.length = n → p l := by
    intro n
    induction n with
    | zero => intro l h; rw [List.length_eq_zero_iff.1 h]; exact h0
    | succ n ih =>
      intro l h
      have hne : l ≠ [] := fun e => by rw [e] at h; simp at h
      rw [← List.dropLast_concat_getLast hne]
      exact h1 _ _ (ih _ (by simp [h]))
  exact this _ l rfl
theorem foldS_t (R : Nat → Rc) (s : AS) (x : Nat) : ∀ l : List Nat, (foldS ops R s l).t x = match (l.filter (wT ops x)).getLast? with | some i => some (R i).a | none => s.t x := by
  apply snoc_ind
  · rfl
  · intro l i ih
    rw [foldS_snoc, List.filter_append]
    cases hw : wT ops x i with
    | true =>
      rw [List.filter_cons_of_pos hw, List.filter_nil, List.getLast?_concat]
      unfold wT at hw
      split at hw
      · rename_i d hd
        show putA _ (dstOf ops i) _ x = _
        rw [hd]
        simp only [putA, hw, cond_true]
      · cases hw
    | false =>
      rw [List.filter_cons_of_neg (by simp [hw]), List.filter_nil, List.append_nil, ← ih]
      unfold wT at hw
      show putA _ (dstOf ops i) _ x = _
      split at hw
      · rename_i d hd; rw [hd]; simp only [putA, hw, cond_false]
      · rename_i hd; rw [hd]; rfl
theorem foldS_m (R : Nat → Rc) (s : AS) (h : Nat) : ∀ l : List Nat, (foldS ops R s l).m h = match (l.filter (wM R h)).getLast? with | some i => (lk (R i).up h).getD none | none => s.m h := by
  apply snoc_ind
  · rfl
  · intro l i ih
    rw [foldS_snoc, List.filter_append]
    cases hw : wM R h i with
    | true =>
      rw [List.filter_cons_of_pos hw, List.filter_nil, List.getLast?_concat]
      obtain ⟨x, hx⟩ := lk_has.1 hw
      show updM _ _ h = _
      unfold updM
      simp only [hx, Option.getD_some]
    | false =>
      rw [List.filter_cons_of_neg (by simp [hw]), List.filter_nil, List.append_nil, ← ih]
      show updM _ _ h = _
      unfold updM
      cases hx : lk (R i).up h with
      | none => rfl
      | some x => rw [wM, lk_has.2 ⟨x, hx⟩] at hw; cases hw
theorem foldS_nx (R : Nat → Rc) (s : AS) : ∀ l : List Nat, (foldS ops R s l).nx = s.nx := by
  apply snoc_ind
  · rfl
  · intro l i ih; rw [foldS_snoc]; exact ih
/-- the last of those that hold -/
theorem last_range {p : Nat → Bool} {i n : Nat} (hi : i < n) (hp : p i = true) (hl : ∀ k, i < k → k < n → p k = false) : ((List.range n).filter p).getLast? = some i := by
  induction n with
  | zero => omega
  | succ n ih =>
    rw [List.range_succ, List.filter_append]
    by_cases hin : i = n
    · subst hin; rw [List.filter_cons_of_pos hp]; simp
    · rw [List.filter_cons_of_neg (by simp [hl n (by omega) (by omega)])]
      simp only [List.filter_nil, List.append_nil]
      exact ih (by omega) (fun k h1 h2 => hl k h1 (by omega))
theorem filter_range_congr {p q : Nat → Bool} {n : Nat} (h : ∀ k, k < n → p k = q k) : (List.range n).filter p = (List.range n).filter q :=
  List.filter_congr fun k hk => h k (List.mem_range.1 hk)
theorem range_filter_lt {i n : Nat} (hi : i ≤ n) : (List.range n).filter (fun k => decide (k < i)) = List.range i := by
  induction n with
  | zero => obtain rfl : i = 0 := by omega
            rfl
  | succ n ih =>
    rw [List.range_succ, List.filter_append]
    by_cases hin : i = n + 1
    · subst hin
      rw [List.filter_cons_of_pos (by simp), List.range_succ, List.filter_nil]
      congr 1
      rw [List.filter_eq_self]
      intro k hk
      have := List.mem_range.1 hk
      simp; omega
    · rw [List.filter_cons_of_neg (by simp; omega), List.filter_nil, List.append_nil]
      exact ih (by omega)
/-! the ancestors -/
theorem bef_closed {E : Nat → Prop} (hE : ∀ i, E i → ∀ d ∈ deps ops i, E d) : ∀ (f i j : Nat), bef ops f i j = true → (∀ d ∈ deps ops i, E d) → E j := by
  intro f
  induction f with
  | zero => intro i j h; cases h
  | succ f ih =>
    intro i j h hd
    unfold bef at h
    simp only [Bool.or_eq_true, List.any_eq_true, Bool.and_eq_true] at h
    rcases h with ⟨d, h1, h2⟩ | ⟨d, h1, _, h2⟩
    · exact Nat.eq_of_beq_eq_true h2 ▸ hd d h1
    · exact ih d j h2 (hE d (hd d h1))
/-! what the records say -/
def recAt (cs : List Rc) (i : Nat) : Rc := cs.getD i ⟨.und, [], [], false⟩
theorem Recs.at {R : Nat → Rc} {s0 : AS} : ∀ (l : List Oper) (i : Nat) (s : AS) (cs : List Rc) (sf : AS), Recs P N ops nh l i s cs sf → (∀ j, l[j]? = ops[i + j]?) → (∀ j, j < l.length → R (i + j) = recAt cs j) → s = foldS ops R s0 (List.range i) →
    sf = foldS ops R s0 (List.range (i + l.length)) ∧ cs.length = l.length ∧ ∀ j o, l[j]? = some o → dstOk N o.dst = true ∧ wants ops (foldS ops R s0 (List.range (i + j))).t o (R (i + j)).run ∧ RdUp (foldS ops R s0 (List.range (i + j))).m (nh + (i + j)) (R (i + j)).rd (R (i + j)).up ∧
      ((R (i + j)).run = true → WStep P o (nh + (i + j)) (evR ops o (foldS ops R s0 (List.range (i + j))).t) (R (i + j)).rd (R (i + j)).up (R (i + j)).a false) ∧ ((R (i + j)).run = false → (R (i + j)).a = .und ∧ (R (i + j)).up = []) := by
  intro l
  induction l with
  | nil =>
    intro i s cs sf h _ _ hs
    cases cs with
    | nil => exact ⟨by rw [show sf = s from h, hs]; rfl, rfl, fun j o h => by simp at h⟩
    | cons => exact h.elim
  | cons o r ih =>
    intro i s cs sf h hl hR hs
    cases cs with
    | nil => exact h.elim
    | cons c cs =>
      obtain ⟨h1, h2, h3, h4, h5, h6⟩ := h
      have hRi : R i = c := by have := hR 0 (by simp); simpa [recAt] using this
      have ho : ops[i]? = some o := by have := hl 0; simpa using this.symm
      have hd : dstOf ops i = o.dst := by simp [dstOf, ho]
      obtain ⟨q1, q2, q3⟩ := ih (i + 1) (s.put o.dst c.a c.up) cs sf h6 (fun j => by have := hl (j + 1); rw [show i + (j + 1) = i + 1 + j by omega] at this; simpa using this)
        (fun j hj => by have := hR (j + 1) (by simp; omega); rw [show i + (j + 1) = i + 1 + j by omega] at this; simpa [recAt] using this)
        (by rw [List.range_succ, foldS_snoc, hd, hRi, ← hs])
      refine ⟨by rw [q1, List.length_cons, show i + (r.length + 1) = i + 1 + r.length by omega], by simp [q2], fun j o' hj => ?_⟩
      cases j with
      | zero =>
        simp at hj; subst hj
        rw [Nat.add_zero, hRi, ← hs]
        exact ⟨h1, h2, h3, h4, h5⟩
      | succ j =>
        have := q3 j o' (by simpa using hj)
        rwa [show i + 1 + j = i + (j + 1) by omega] at this

theorem dr_ready {i : Nat} {listed : Array Bool} (h : i ∈ Region.ready .any ops listed) :
    i < ops.size ∧ listed.getD i true = false ∧ ∀ j ∈ deps ops i, listed.getD j false = true := by
  obtain ⟨h1, h2⟩ := List.mem_filter.1 h
  have hi := List.mem_range.1 h1
  refine ⟨hi, ?_, ?_⟩
  · cases hl : listed.getD i true <;> simp_all
  · intro j hj
    cases ho : ops[i]? with
    | none => simp [deps, ho] at hj
    | some o =>
      simp only [deps, ho, Option.map_some, Option.getD_some, List.mem_map, List.mem_filter] at hj
      obtain ⟨e, ⟨he, hb⟩, rfl⟩ := hj
      simp only [ho, Option.map_some, Option.getD_some, Bool.and_eq_true] at h2
      have h3 := Array.all_eq_true'.1 h2.2 e (by simpa using he)
      simpa [hb] using h3
theorem dr_any {listed : Array Bool} {i : Nat} (h : i < listed.size) (d d' : Bool) : listed.getD i d = listed.getD i d' := by
  simp [Array.getD, h]
theorem dr_all {listed : Array Bool} (hu : ∀ i, i < ops.size → ∀ j ∈ deps ops i, j < i) (hs : listed.size = ops.size) (hr : Region.ready .any ops listed = []) :
    ∀ i, i < ops.size → listed.getD i true = true := by
  intro i
  induction i using Nat.strongRecOn with
  | _ i ih =>
    intro hi
    cases hl : listed.getD i true with
    | true => rfl
    | false =>
      exfalso
      have : i ∈ Region.ready .any ops listed := by
        refine List.mem_filter.2 ⟨List.mem_range.2 hi, ?_⟩
        have ho : ops[i]? = some ops[i] := by simp [hi]
        simp only [hl, ho, Option.map_some, Option.getD_some, Bool.not_false, Bool.true_and]
        refine Array.all_eq_true'.2 fun e he => ?_
        cases hb : Region.binds .any e with
        | false => simp
        | true =>
          simp only [Bool.not_true, Bool.false_or]
          have hd : e.on ∈ deps ops i := by
            simp only [deps, ho, Option.map_some, Option.getD_some, List.mem_map, List.mem_filter]
            exact ⟨e, ⟨by simpa using he, hb⟩, rfl⟩
          have hlt : e.on < i := hu i hi _ hd
          rw [dr_any (by omega) false true]
          exact ih e.on hlt (by omega)
      rw [hr] at this
      cases this
theorem dr_set_same (listed : Array Bool) (i : Nat) (h : i < listed.size) : (listed.setIfInBounds i true).getD i true = true := by
  simp [Array.getD, h]
theorem dr_set_ne (listed : Array Bool) {i j : Nat} (h : j ≠ i) : (listed.setIfInBounds i true).getD j true = listed.getD j true := by
  by_cases hj : j < listed.size
  · simp [Array.getD, hj, Array.getElem_setIfInBounds, Ne.symm h]
  · simp [Array.getD, hj]
theorem dr_count {listed : Array Bool} {i : Nat} (hi : i < listed.size) (h : listed.getD i true = false) (n : Nat) (hn : listed.toList.countP (fun b => !b) ≤ n + 1) :
    (listed.setIfInBounds i true).toList.countP (fun b => !b) ≤ n := by
  rw [Array.toList_setIfInBounds]
  have h1 : listed.toList[i]? = some false := by
    have : listed[i] = false := by simpa [Array.getD, hi] using h
    simp [hi, this]
  clear hi h
  generalize listed.toList = l at *
  induction l generalizing i n with
  | nil => simp at h1
  | cons x xs ih =>
    cases i with
    | zero => simp at h1; subst h1; simp at hn ⊢; omega
    | succ i =>
      simp only [List.getElem?_cons_succ] at h1
      simp only [List.set_cons_succ, List.countP_cons] at hn ⊢
      by_cases hx : (!x) = true
      · simp only [hx, if_true] at hn ⊢
        cases n with
        | zero =>
          have : 0 < xs.countP (fun b => !b) := List.countP_pos_iff.2 ⟨false, List.mem_of_getElem? h1, rfl⟩
          omega
        | succ n => have := ih n (by omega) h1; omega
      · simp only [hx] at hn ⊢
        have := ih n (by simpa using hn) h1
        simpa using this

/-- a state of the model behind the operations of E -/
structure Inv (g0 : Gh) (w0 : World) (N : Nat) (ops : Array Oper) (nh : Nat) (R : Nat → Rc) (s0 : AS) (E : Nat → Bool) (act : Act) (w : World) : Prop where
  size : act.tmps.size = N
  defers : act.defers = g0.D
  rest : ∃ g, (∀ i a, (foldS ops R s0 ((List.range ops.size).filter E)).t i = some a → i < N ∧ Rep g w (act.tmps.getD i undef) a) ∧ MSt g w (foldS ops R s0 ((List.range ops.size).filter E)).m ∧ (∀ h, nh ≤ h % HMod → (∀ i, i < ops.size → E i = true → h % HMod ≠ nh + i) → g h = .un) ∧ Grow g0 w0 g w
theorem drawOk_pair {fts : List Ft} (h : drawOk ops fts = true) {i j : Nat} (hij : i < j) (hj : j < ops.size) (hb : bef ops ops.size j i = false) : ∃ x y a b, ops[i]? = some x ∧ ops[j]? = some y ∧ fts[i]? = some a ∧ fts[j]? = some b ∧ x.apart ops y = true ∧ apartF a b = true := by
  unfold drawOk at h
  simp only [Bool.and_eq_true, List.all_eq_true, List.mem_range] at h
  have := h.2 j hj i hij
  unfold pairOk at this
  rw [hb, Bool.false_or] at this
  split at this
  · rename_i x y a b e1 e2 e3 e4
    simp only [Bool.and_eq_true] at this
    exact ⟨x, y, a, b, e1, e2, e3, e4, this.1, this.2⟩
  · cases this
theorem meets_false {a b : List Nat} (h : meets a b = false) : ∀ x, x ∈ a → x ∉ b := by
  intro x hx hb
  unfold meets at h
  rw [List.any_eq_false] at h
  exact h x hx (has_iff.2 hb)
theorem draw_step {cs : List Rc} {s0 : AS} {E : Nat → Bool} (hok : drawOk ops (cs.map Rc.ft) = true) (hE : ∀ i, i < ops.size → E i = true → ∀ d ∈ deps ops i, E d = true) {i : Nat} (hi : i < ops.size) (hEi : E i = false) (hdep : ∀ d ∈ deps ops i, E d = true) {o : Oper} (ho : ops[i]? = some o) :
    (∀ x, x ∈ o.looksAt ops → (foldS ops (recAt cs) s0 ((List.range ops.size).filter E)).t x = (foldS ops (recAt cs) s0 (List.range i)).t x) ∧
    (∀ h, h ∈ (recAt cs i).rd.map (·.1) → (foldS ops (recAt cs) s0 ((List.range ops.size).filter E)).m h = (foldS ops (recAt cs) s0 (List.range i)).m h) ∧
    ∀ E' : Nat → Bool, (∀ k, k < ops.size → E' k = (Nat.beq k i || E k)) → foldS ops (recAt cs) s0 ((List.range ops.size).filter E') = (foldS ops (recAt cs) s0 ((List.range ops.size).filter E)).put o.dst (recAt cs i).a (recAt cs i).up := by
  have hup : ∀ j, j < ops.size → ∀ d ∈ deps ops j, d < j := fun j hj d hd => by
    have h := hok
    unfold drawOk upw at h
    simp only [Bool.and_eq_true, List.all_eq_true, List.mem_range] at h
    exact Nat.le_of_ble_eq_true (h.1 j hj d hd)
  -- the closure of E, all numbers
  have hcl : ∀ k, k < ops.size → (∀ d ∈ deps ops k, E d = true) → ∀ j, bef ops ops.size k j = true → E j = true := fun k hk hd j hb =>
    bef_closed (E := fun j => E j = true ∧ j < ops.size) (fun j hj d hd' => ⟨hE j hj.2 hj.1 d hd', Nat.lt_trans (hup j hj.2 d hd') hj.2⟩) ops.size k j hb (fun d hd' => ⟨hd d hd', Nat.lt_trans (hup k hk d hd') hk⟩) |>.1
  have hft : ∀ k a, (cs.map Rc.ft)[k]? = some a → a = (recAt cs k).ft := fun k a h => by
    simp only [List.getElem?_map, Option.map_eq_some_iff] at h
    obtain ⟨c, h1, rfl⟩ := h
    simp [recAt, h1]
  have hdst : dstOf ops i = o.dst := by simp [dstOf, ho]
  -- who is not ordered with i touches nothing of its
  have indep : ∀ k, k < ops.size → ((k < i ∧ E k = false) ∨ (i < k ∧ E k = true)) → (∀ x, x ∈ o.looksAt ops → wT ops x k = false) ∧ (∀ x, o.dst = some x → wT ops x k = false) ∧ (∀ h, h ∈ (recAt cs i).rd.map (·.1) → wM (recAt cs) h k = false) ∧ ∀ h, h ∈ (recAt cs i).up.map (·.1) → wM (recAt cs) h k = false := by
    intro k hk hcase
    have wTf : ∀ {x : Nat} {y : Oper}, ops[k]? = some y → (∀ d, y.dst = some d → x ≠ d) → wT ops x k = false := fun {x y} hy hne => by
      unfold wT dstOf
      rw [hy]
      cases hd : y.dst with
      | none => simp [hd]
      | some d => simp only [Option.bind_some, hd]; exact beq_ne (hne d hd)
    have wMf : ∀ {h : Nat}, h ∉ (recAt cs k).up.map (·.1) → wM (recAt cs) h k = false := fun {h} hn => by
      unfold wM
      cases hh : has ((recAt cs k).up.map (·.1)) h with
      | false => rfl
      | true => exact absurd (has_iff.1 hh) hn
    rcases hcase with ⟨h1, h2⟩ | ⟨h1, h2⟩
    · have hb : bef ops ops.size i k = false := by
        cases hb : bef ops ops.size i k with
        | false => rfl
        | true => rw [hcl i hi hdep k hb] at h2; cases h2
      obtain ⟨x, y, a, b, e1, e2, e3, e4, e5, e6⟩ := drawOk_pair hok h1 hi hb
      rw [ho] at e2; cases e2
      rw [hft k a e3, hft i b e4] at e6
      obtain ⟨p1, p2, p3⟩ := Oper.apart_spec e5
      unfold apartF at e6
      simp only [Bool.and_eq_true, Bool.not_eq_true'] at e6
      refine ⟨fun z hz => wTf e1 fun d hd => ?_, fun z hz => wTf e1 fun d hd => ?_, fun h hh => wMf fun hm => ?_, fun h hh => wMf fun hm => ?_⟩
      · rintro rfl; exact p1 z hd hz
      · rintro rfl; exact p2 z hd hz
      · exact meets_false e6.1.1 h hm hh
      · exact meets_false e6.1.2 h hm hh
    · have hb : bef ops ops.size k i = false := by
        cases hb : bef ops ops.size k i with
        | false => rfl
        | true => rw [hcl k hk (hE k hk h2) i hb] at hEi; cases hEi
      obtain ⟨x, y, a, b, e1, e2, e3, e4, e5, e6⟩ := drawOk_pair hok h1 hk hb
      rw [ho] at e1; cases e1
      rw [hft i a e3, hft k b e4] at e6
      obtain ⟨p1, p2, p3⟩ := Oper.apart_spec e5
      unfold apartF at e6
      simp only [Bool.and_eq_true, Bool.not_eq_true'] at e6
      refine ⟨fun z hz => wTf e2 fun d hd => ?_, fun z hz => wTf e2 fun d hd => ?_, fun h hh => wMf fun hm => ?_, fun h hh => wMf fun hm => ?_⟩
      · rintro rfl; exact p3 z hd hz
      · rintro rfl; exact p2 z hz hd
      · exact meets_false e6.2 h hm hh
      · exact meets_false e6.1.2 h hh hm
  have same : ∀ (p : Nat → Bool), (∀ k, k < ops.size → ((k < i ∧ E k = false) ∨ (i < k ∧ E k = true)) → p k = false) → ((List.range ops.size).filter E).filter p = (List.range i).filter p := by
    intro p hp
    rw [← range_filter_lt (Nat.le_of_lt hi), List.filter_filter, List.filter_filter]
    refine filter_range_congr fun k hk => ?_
    cases hpk : p k with
    | false => rfl
    | true =>
      simp only [Bool.true_and]
      rcases Nat.lt_trichotomy k i with h | h | h
      · cases hEk : E k with
        | true => simp [h]
        | false => rw [hp k hk (.inl ⟨h, hEk⟩)] at hpk; cases hpk
      · subst h; rw [hEi]; simp
      · cases hEk : E k with
        | true => rw [hp k hk (.inr ⟨h, hEk⟩)] at hpk; cases hpk
        | false => simp; omega
  refine ⟨fun x hx => ?_, fun h hh => ?_, fun E' hE' => ?_⟩
  · rw [foldS_t, foldS_t, same _ fun k hk hc => (indep k hk hc).1 x hx]
  · rw [foldS_m, foldS_m, same _ fun k hk hc => (indep k hk hc).2.2.1 h hh]
  · have hlast : ∀ (p : Nat → Bool), p i = true → (∀ k, k < ops.size → ((k < i ∧ E k = false) ∨ (i < k ∧ E k = true)) → p k = false) → (((List.range ops.size).filter E').filter p).getLast? = some i := by
      intro p hpi hp
      rw [List.filter_filter]
      refine last_range hi (by simp [hpi, hE' i hi]) fun k h1 h2 => ?_
      rw [hE' k h2]
      cases hEk : E k with
      | true => simp [hp k h2 (.inr ⟨h1, hEk⟩)]
      | false => simp [beq_ne (Nat.ne_of_gt h1)]
    have hskip : ∀ (p : Nat → Bool), p i = false → ((List.range ops.size).filter E').filter p = ((List.range ops.size).filter E).filter p := by
      intro p hpi
      rw [List.filter_filter, List.filter_filter]
      refine filter_range_congr fun k hk => ?_
      rw [hE' k hk]
      by_cases hki : k = i
      · subst hki; rw [hpi]; rfl
      · rw [beq_ne hki, Bool.false_or]
    have ht : (foldS ops (recAt cs) s0 ((List.range ops.size).filter E')).t = ((foldS ops (recAt cs) s0 ((List.range ops.size).filter E)).put o.dst (recAt cs i).a (recAt cs i).up).t := by
      funext x
      rw [foldS_t]
      show _ = putA _ o.dst _ x
      cases hw : wT ops x i with
      | true =>
        have hd : o.dst = some x := by
          unfold wT at hw
          rw [hdst] at hw
          split at hw
          · rename_i d hd; rw [hd, Nat.eq_of_beq_eq_true hw]
          · cases hw
        rw [hlast _ hw fun k hk hc => (indep k hk hc).2.1 x hd, hd]
        simp [putA]
      | false =>
        rw [hskip _ hw, ← foldS_t]
        unfold wT at hw
        rw [hdst] at hw
        split at hw
        · rename_i d hd; rw [hd]; simp only [putA, hw, cond_false]
        · rename_i hd; rw [hd]; rfl
    have hm : (foldS ops (recAt cs) s0 ((List.range ops.size).filter E')).m = ((foldS ops (recAt cs) s0 ((List.range ops.size).filter E)).put o.dst (recAt cs i).a (recAt cs i).up).m := by
      funext h
      rw [foldS_m]
      show _ = updM _ _ h
      cases hw : wM (recAt cs) h i with
      | true =>
        rw [hlast _ hw fun k hk hc => (indep k hk hc).2.2.2 h (has_iff.1 hw)]
        obtain ⟨x, hx⟩ := lk_has.1 hw
        simp only [updM, hx, Option.getD_some]
      | false =>
        rw [hskip _ hw, ← foldS_m]
        unfold updM
        cases hx : lk (recAt cs i).up h with
        | none => rfl
        | some x => rw [wM, lk_has.2 ⟨x, hx⟩] at hw; cases hw
    have hn : (foldS ops (recAt cs) s0 ((List.range ops.size).filter E')).nx = ((foldS ops (recAt cs) s0 ((List.range ops.size).filter E)).put o.dst (recAt cs i).a (recAt cs i).up).nx := by
      rw [foldS_nx]
      show s0.nx = (foldS ops (recAt cs) s0 ((List.range ops.size).filter E)).nx
      rw [foldS_nx]
    generalize foldS ops (recAt cs) s0 ((List.range ops.size).filter E') = A at ht hm hn ⊢
    generalize (foldS ops (recAt cs) s0 ((List.range ops.size).filter E)).put o.dst (recAt cs i).a (recAt cs i).up = B at ht hm hn ⊢
    cases A; cases B
    simp only at ht hm hn
    rw [ht, hm, hn]
/-- a state that stands for something -/
def SOk (s : AS) : Prop := ∃ g w, MSt g w s.m ∧ ∀ i a, s.t i = some a → ∃ v, Rep g w v a
theorem St.ok {g0 g : Gh} {w0 w : World} {act : Act} {s : AS} (h : St g0 w0 N g act w s) : SOk s := ⟨g, w, h.mem, fun i a hi => ⟨_, (h.fr i a hi).2⟩⟩
theorem draw_any {cs : List Rc} {s0 : AS} {Q : Exit → Act → World → Prop} (hok : drawOk ops (cs.map Rc.ft) = true) (hnx : s0.nx = nh)
    (F : ∀ i o, ops[i]? = some o → dstOk N o.dst = true ∧ wants ops (foldS ops (recAt cs) s0 (List.range i)).t o (recAt cs i).run ∧ RdUp (foldS ops (recAt cs) s0 (List.range i)).m (nh + i) (recAt cs i).rd (recAt cs i).up ∧
      ((recAt cs i).run = true → WStep P o (nh + i) (evR ops o (foldS ops (recAt cs) s0 (List.range i)).t) (recAt cs i).rd (recAt cs i).up (recAt cs i).a false) ∧ ((recAt cs i).run = false → (recAt cs i).a = .und ∧ (recAt cs i).up = []))
    (hQ : ∀ act w g, St g0 w0 N g act w { foldS ops (recAt cs) s0 (List.range ops.size) with nx := nh + ops.size } → Q .normal act w) :
    ∀ (fuel : Nat) (listed : Array Bool) (act : Act) (w : World), listed.size = ops.size → listed.toList.countP (fun b => !b) ≤ fuel → (∀ i, i < ops.size → listed.getD i true = true → ∀ d ∈ deps ops i, listed.getD d true = true) →
      Inv g0 w0 N ops nh (recAt cs) s0 (fun i => listed.getD i true) act w → wpAny P .any ops Q fuel listed act w := by
  have hup : ∀ j, j < ops.size → ∀ d ∈ deps ops j, d < j := fun j hj d hd => by
    have h := hok
    unfold drawOk upw at h
    simp only [Bool.and_eq_true, List.all_eq_true, List.mem_range] at h
    exact Nat.le_of_ble_eq_true (h.1 j hj d hd)
  have final : ∀ (listed : Array Bool) (act : Act) (w : World), (∀ i, i < ops.size → listed.getD i true = true) → Inv g0 w0 N ops nh (recAt cs) s0 (fun i => listed.getD i true) act w → Q .normal act w := by
    intro listed act w hall hI
    obtain ⟨g, h1, h2, h3, h4⟩ := hI.rest
    have e : (List.range ops.size).filter (fun i => listed.getD i true) = List.range ops.size := List.filter_eq_self.2 fun k hk => hall k (List.mem_range.1 hk)
    rw [e] at h1 h2
    refine hQ act w g ⟨hI.size, hI.defers, h1, h2, fun h (hh : nh + ops.size ≤ h % HMod) => h3 h (by omega) (fun i hi _ => by omega), h4⟩
  intro fuel
  induction fuel with
  | zero =>
    intro listed act w hs hc hcl hI
    have hall : ∀ i, i < ops.size → listed.getD i true = true := fun i hi => by
      cases hl : listed.getD i true with
      | true => rfl
      | false =>
        have hi' : i < listed.size := by omega
        have h0 : listed[i] = false := by simpa [Array.getD, hi'] using hl
        have : 0 < listed.toList.countP (fun b => !b) := List.countP_pos_iff.2 ⟨false, by rw [← h0]; simp, rfl⟩
        omega
    refine ⟨?_, final listed act w hall hI⟩
    refine List.eq_nil_iff_forall_not_mem.2 fun i hi => ?_
    obtain ⟨h1, h2, _⟩ := dr_ready hi
    rw [hall i h1] at h2
    cases h2
  | succ fuel ih =>
    intro listed act w hs hc hcl hI
    refine ⟨fun hr => final listed act w (dr_all hup hs hr) hI, fun i hi => ?_⟩
    obtain ⟨h1, h2, h3⟩ := dr_ready hi
    have h3' : ∀ d ∈ deps ops i, listed.getD d true = true := fun d hd => by
      rw [dr_any (by have := hup i h1 d hd; omega) true false]; exact h3 d hd
    have ho : ops[i]? = some ops[i] := by simp [h1]
    generalize ops[i] = o at ho
    obtain ⟨f1, f2, f3, f4, f5⟩ := F i o ho
    obtain ⟨t1, t2, t3⟩ := draw_step (s0 := s0) hok hcl h1 h2 h3' ho
    have hE' : ∀ k, k < ops.size → (fun k => (listed.setIfInBounds i true).getD k true) k = (Nat.beq k i || (fun k => listed.getD k true) k) := fun k hk => by
      simp only
      by_cases hki : k = i
      · subst hki; rw [dr_set_same _ _ (by omega)]; simp
      · rw [dr_set_ne _ hki, beq_ne hki, Bool.false_or]
    have hput := t3 _ hE'
    have hcl' : ∀ k, k < ops.size → (listed.setIfInBounds i true).getD k true = true → ∀ d ∈ deps ops k, (listed.setIfInBounds i true).getD d true = true := fun k hk hlk d hd => by
      by_cases hdi : d = i
      · subst hdi; exact dr_set_same _ _ (by omega)
      · rw [dr_set_ne _ hdi]
        by_cases hki : k = i
        · subst hki; exact h3' d hd
        · rw [dr_set_ne _ hki] at hlk; exact hcl k hk hlk d hd
    obtain ⟨g, g1, g2, g3, g4⟩ := hI.rest
    have hun : ∀ k, k % HMod = nh + i → g k = .un := fun k' hk' => g3 _ (by omega) fun k hk hEk => by
      intro e
      have : k = i := by omega
      subst this
      rw [h2] at hEk; cases hEk
    -- the values looked at
    have hlook : ∀ x a, has (o.looksAt ops) x = true → (foldS ops (recAt cs) s0 (List.range i)).t x = some a → x < N ∧ Rep g w (act.tmps.getD x undef) a := fun x a hx ha => g1 x a (by rw [t1 x (has_iff.1 hx)]; exact ha)
    have hev : ∀ x b, evR ops o (foldS ops (recAt cs) s0 (List.range i)).t x = some b → Rep g w (act.eval x) b := by
      intro x b hx
      cases x with
      | tmp k =>
        have hx : (bif has (o.looksAt ops) k then (foldS ops (recAt cs) s0 (List.range i)).t k else none) = some b := hx
        cases hh : has (o.looksAt ops) k with
        | false => rw [hh] at hx; cases hx
        | true => rw [hh, cond_true] at hx; exact (hlook k b hh hx).2
      | const v => exact evA_ok (N := N) (act := act) (g := g) (w := w) (t := fun _ => none) (fun _ _ h => by cases h) (.const v) b (by
          have hx : evA (foldS ops (recAt cs) s0 (List.range i)).t (.const v) = some b := hx
          rw [← hx]
          unfold evA
          cases v <;> rfl)
      | global k => cases hx
      | func f => exact evA_ok (N := N) (act := act) (g := g) (w := w) (t := fun _ => none) (fun _ _ h => by cases h) (.func f) b hx
    have hwant : Region.wanted o (yielded ops act.tmps) = (recAt cs i).run := by
      unfold wants at f2
      unfold Region.wanted
      split at f2
      · rename_i hg; rw [hg, f2]
      · rename_i j want hg
        rw [hg]
        -- the guard's value
        have hgv : ∀ a, gval ops (foldS ops (recAt cs) s0 (List.range i)).t j = some a → gval ops (foldS ops (recAt cs) s0 ((List.range ops.size).filter fun k => listed.getD k true)).t j = some a := fun a ha => by
          unfold gval at ha ⊢
          cases hj : ops[j]? with
          | none => rw [hj] at ha; cases ha
          | some oj =>
            rw [hj] at ha
            have ha : (match oj.dst with | some d => (foldS ops (recAt cs) s0 (List.range i)).t d | none => none) = some a := ha
            cases hd : oj.dst with
            | none => rw [hd] at ha; cases ha
            | some d =>
              rw [hd] at ha
              have ha : (foldS ops (recAt cs) s0 (List.range i)).t d = some a := ha
              show (match oj.dst with | some d => (foldS ops (recAt cs) s0 ((List.range ops.size).filter fun k => listed.getD k true)).t d | none => none) = some a
              rw [hd]
              show (foldS ops (recAt cs) s0 ((List.range ops.size).filter fun k => listed.getD k true)).t d = some a
              rw [t1 d (by unfold Oper.looksAt; rw [hg]; simp [hj, hd])]
              exact ha
        rcases f2 with ⟨e1, e2⟩ | ⟨y, e1, e2⟩
        · have := (yielded_ok hI.size g1 (hgv _ e1)).1 rfl
          rw [e2]; show (yielded ops act.tmps j == some want) = false; rw [this]; rfl
        · have := (yielded_ok hI.size g1 (hgv _ e1)).2 y rfl
          rw [e2]; show (yielded ops act.tmps j == some want) = _; rw [this]
          cases y <;> cases want <;> rfl
    have next : ∀ v w' g', Rep g' w' v (recAt cs i).a → MSt g' w' (updM (foldS ops (recAt cs) s0 ((List.range ops.size).filter fun k => listed.getD k true)).m (recAt cs i).up) → Grow g w g' w' → (∀ h, h % HMod ≠ nh + i → g h = .un → g' h = .un) → wpAny P .any ops Q fuel (listed.setIfInBounds i true) (act.put o.dst v) w' := by
      intro v w' g' e1 e2 e3 e4
      obtain ⟨p1, p2⟩ := put_ok (dst := o.dst) hI.size g1 e3 f1 e1
      refine ih _ _ _ (by simpa using hs) (dr_count (by omega) h2 _ hc) hcl' ⟨p1, (put_defers ..).trans hI.defers, g', ?_, ?_, fun h hh hn => ?_, g4.trans e3⟩
      · rw [hput]; exact p2
      · rw [hput]; exact e2
      · have hne : h % HMod ≠ nh + i := hn i h1 (dr_set_same _ _ (by omega))
        refine e4 h hne (g3 h hh fun k hk hEk => ?_)
        by_cases hki : k = i
        · subst hki; exact hne
        · exact hn k hk (by rw [dr_set_ne _ hki]; exact hEk)
    unfold wpOp
    rw [ho]
    simp only
    rw [hwant]
    cases hrun : (recAt cs i).run with
    | true =>
      rw [if_pos rfl]
      refine .inl (f4 hrun g w _ act _ _ g2 hun (fun p hp => ?_) hev (fun _ v w' g' e1 e2 e3 e4 => next v w' g' e1 e2 e3 e4) (fun h => by cases h))
      rw [t2 p.1 (List.mem_map.2 ⟨p, hp, rfl⟩)]
      exact f3.1 p hp
    | false =>
      rw [if_neg (by simp)]
      obtain ⟨e1, e2⟩ := f5 hrun
      exact next undef w g (by rw [e1]; exact .und) (by rw [e2]; exact g2) (Grow.refl _ _) fun _ _ h => h

end
end Go.Proofs.YthboippafkcoiaaGreatDoor.am

namespace Go.Proofs.YthboippafkcoiaaGreatDoor.am
open Go
set_option linter.unusedSimpArgs false

/-! states seen through other handles -/
structure Sub0 (k : Nat) (ρ nl : List Nat) (s s' : AS) : Prop where
  nodup : ρ.Nodup
  fix : ∀ h, h < k → ρ[h]? = some h
  fr : ∀ i a', s'.t i = some a' → ∃ a, s.t i = some a ∧ cv s.m ρ nl (fun h => !has ρ h) a a'
  mem : cvM s.m s'.m ρ nl (fun h => !has ρ h)
  nx : ρ.length ≤ s'.nx
  nlx : ∀ i ∈ nl, i < s'.nx
def mkS (tl : List (Nat × AV)) (bl : List (Nat × Blk)) (nx : Nat) : AS := ⟨lk tl, lk bl, nx⟩
def subT (s : AS) (ρ nl : List Nat) : List (Nat × AV) → Prop
  | [] => True
  | (i, a') :: r => (match s.t i with | some a => cv s.m ρ nl (fun h => !has ρ h) a a' | none => False) ∧ subT s ρ nl r
def cvM1 (m : Mem) (ρ nl : List Nat) (S : Nat → Bool) (i : Nat) (b' : Blk) : Prop :=
  match ρ[i]? with
  | some h => (match m h with | some b => cvB m ρ nl S b b' | none => False)
  | none => has nl i = true ∧ nilBk b'
def subM (m : Mem) (ρ nl : List Nat) (S : Nat → Bool) : List (Nat × Blk) → Prop
  | [] => True
  | (i, b') :: r => cvM1 m ρ nl S i b' ∧ subM m ρ nl S r
theorem cvM1_ok {m : Mem} {ρ nl : List Nat} {S : Nat → Bool} {i : Nat} {b' : Blk} (h : cvM1 m ρ nl S i b') : (∃ h b, ρ[i]? = some h ∧ m h = some b ∧ cvB m ρ nl S b b') ∨ (ρ[i]? = none ∧ has nl i = true ∧ nilBk b') := by
  unfold cvM1 at h
  split at h
  · rename_i k hk
    split at h
    · rename_i b hb; exact .inl ⟨k, b, hk, hb, h⟩
    · exact h.elim
  · rename_i hk; exact .inr ⟨hk, h⟩
theorem lk_mem {α : Type} {l : List (Nat × α)} {i : Nat} {a : α} (h : lk l i = some a) : (i, a) ∈ l := by
  induction l with
  | nil => cases h
  | cons p r ih =>
    obtain ⟨k, x⟩ := p
    rw [lk_cons] at h
    cases hb : Nat.beq k i with
    | true => rw [hb] at h; cases h; rw [Nat.eq_of_beq_eq_true hb]; simp
    | false => rw [hb] at h; exact List.mem_cons_of_mem _ (ih h)
theorem subT_ok {s : AS} {ρ nl : List Nat} : ∀ {l : List (Nat × AV)}, subT s ρ nl l → ∀ i a', (i, a') ∈ l → ∃ a, s.t i = some a ∧ cv s.m ρ nl (fun h => !has ρ h) a a' := by
  intro l
  induction l with
  | nil => intro _ i a' h; simp at h
  | cons p r ih =>
    obtain ⟨k, x⟩ := p
    intro h i a' hm
    unfold subT at h
    simp only [List.mem_cons, Prod.mk.injEq] at hm
    rcases hm with ⟨rfl, rfl⟩ | hm
    · have h1 := h.1
      split at h1
      · rename_i a ha; exact ⟨a, ha, h1⟩
      · exact h1.elim
    · exact ih h.2 i a' hm
theorem subM_ok {m : Mem} {ρ nl : List Nat} {S : Nat → Bool} : ∀ {l : List (Nat × Blk)}, subM m ρ nl S l → cvM m (lk l) ρ nl S := by
  intro l h i b' hb
  have hm := lk_mem hb
  clear hb
  induction l with
  | nil => simp at hm
  | cons p r ih =>
    obtain ⟨k, x⟩ := p
    unfold subM at h
    simp only [List.mem_cons, Prod.mk.injEq] at hm
    rcases hm with ⟨rfl, rfl⟩ | hm
    · exact cvM1_ok h.1
    · exact ih h.2 hm
/-- handles: none twice, the first k as they are -/
def rhoOk (k : Nat) (ρ : List Nat) : Bool := (ρ.take k).length == k && ρ.take k == List.range k && decide ρ.Nodup
theorem Sub0.mk' {k : Nat} {ρ nl : List Nat} {s : AS} {tl : List (Nat × AV)} {bl : List (Nat × Blk)} {nx : Nat} (h1 : rhoOk k ρ = true) (h2 : subT s ρ nl tl) (h3 : subM s.m ρ nl (fun h => !has ρ h) bl) (h4 : Nat.ble ρ.length nx = true) (h5 : nl.all (fun i => Nat.blt i nx) = true) : Sub0 k ρ nl s (mkS tl bl nx) := by
  unfold rhoOk at h1
  simp only [Bool.and_eq_true, beq_iff_eq, decide_eq_true_eq] at h1
  obtain ⟨⟨a1, a2⟩, a3⟩ := h1
  refine ⟨a3, fun h hh => ?_, fun i a' hi => subT_ok h2 i a' (lk_mem hi), subM_ok h3, Nat.le_of_ble_eq_true h4, fun i hi => Nat.le_of_ble_eq_true (List.all_eq_true.1 h5 i hi)⟩
  have : (ρ.take k)[h]? = some h := by rw [a2]; simp [hh]
  rw [List.getElem?_take, if_pos hh] at this
  exact this
theorem Sub0.st {k : Nat} {ρ nl : List Nat} {s s' : AS} (h : Sub0 k ρ nl s s') {g0 g : Gh} {w0 w : World} {N : Nat} {act : Act} (hk : ∀ i, k ≤ i → g0 i = .un) (hs : St g0 w0 N g act w s) : St g0 w0 N (gsub g ρ nl g.X) act w s' := by
  have hsub : SubOk g w ρ (fun h => !has ρ h) g.X := by
    refine ⟨fun b hb => hb.2.1, fun i b _ e1 => hs.mem.xl i b e1, fun i hi hm => ?_⟩
    simp only [Bool.not_eq_true'] at hi
    rw [has_iff.2 hm] at hi; cases hi
  refine ⟨hs.size, hs.defers, fun i a' ha => ?_, cvM_mst hsub hs.mem h.nodup hs.mem.xlt (fun i k b _ e2 => hs.mem.xl k b e2) h.mem, fun i hi => ?_, ?_⟩
  · obtain ⟨a, e1, e2⟩ := h.fr i a' ha
    obtain ⟨e3, e4⟩ := hs.fr i a e1
    exact ⟨e3, cv_rep hsub hs.mem e4 e2⟩
  · have hi : s'.nx ≤ i := Nat.le_trans hi (Nat.mod_le i HMod)
    have e1 : ρ[i]? = none := List.getElem?_eq_none (Nat.le_trans h.nx hi)
    have e2 : has nl i = false := by
      cases hh : has nl i with
      | false => rfl
      | true => have := h.nlx i (has_iff.1 hh); omega
    simp [gsub, e1, e2]
  · have hG := hs.grow
    refine ⟨hG.os, hG.tape, hG.output, hG.size, hG.block, hG.xb, hG.X, fun i hi => ?_, fun i l e => ?_, fun i b e1 => ?_⟩
    · have hik : i < k := by
        rcases Nat.lt_or_ge i k with q | q
        · exact q
        · exact absurd (hk i q) hi
      rw [gsub_some (h.fix i hik)]
      exact hG.un i hi
    · by_cases hik : i < k
      · rw [gsub_some (h.fix i hik)] at e
        exact hG.live i l e
      · exact .inr (hk i (by omega))
    · obtain ⟨k', _, e2⟩ := gsub_owns e1
      exact hG.new k' b e2
/-- the same, behind some slices' way back to their cells -/
def Sub (k : Nat) (ρ nl : List Nat) (s s' : AS) : Prop := ∃ hs, apacks hs s.m fun m => Sub0 k ρ nl ⟨s.t, m, s.nx⟩ s'
theorem Sub.pk {k : Nat} {ρ nl : List Nat} {s s' : AS} (hs : List Nat) (h : apacks hs s.m fun m => Sub0 k ρ nl ⟨s.t, m, s.nx⟩ s') : Sub k ρ nl s s' := ⟨hs, h⟩
theorem Sub.mk' {k : Nat} {ρ nl : List Nat} {s : AS} {tl : List (Nat × AV)} {bl : List (Nat × Blk)} {nx : Nat} (h1 : rhoOk k ρ = true) (h2 : subT s ρ nl tl) (h3 : subM s.m ρ nl (fun h => !has ρ h) bl) (h4 : Nat.ble ρ.length nx = true) (h5 : nl.all (fun i => Nat.blt i nx) = true) : Sub k ρ nl s (mkS tl bl nx) := ⟨[], Sub0.mk' h1 h2 h3 h4 h5⟩
/-- what is by computation -/
theorem aut {p : Prop} (h : p := by repeat' (first | exact trivial | exact Or.inl (ti_succ (by assumption) (by assumption)) | exact Or.inl rfl | exact rfl | exact Nat.le_refl _ | apply And.intro)) : p := h
/-- the same; what is by computation is left out where it is used -/
theorem Sub.au {k : Nat} {ρ nl : List Nat} {s : AS} {tl : List (Nat × AV)} {bl : List (Nat × Blk)} {nx : Nat} (h1 : rhoOk k ρ = true := by exact rfl) (h2 : subT s ρ nl tl := by repeat' (first | exact trivial | exact Or.inl (ti_succ (by assumption) (by assumption)) | exact Or.inl rfl | exact rfl | exact Nat.le_refl _ | apply And.intro)) (h3 : subM s.m ρ nl (fun h => !has ρ h) bl := by repeat' (first | exact trivial | exact Or.inl (ti_succ (by assumption) (by assumption)) | exact Or.inl rfl | exact rfl | exact Nat.le_refl _ | apply And.intro)) (h4 : Nat.ble ρ.length nx = true := by exact rfl) (h5 : nl.all (fun i => Nat.blt i nx) = true := by exact rfl) : Sub k ρ nl s (mkS tl bl nx) := Sub.mk' h1 h2 h3 h4 h5
theorem St.packs {s : AS} {hs : List Nat} {K : Mem → Prop} (h : apacks hs s.m K) {g0 g : Gh} {w0 w : World} {N : Nat} {act : Act} (hst : St g0 w0 N g act w s) : ∃ g' m', K m' ∧ St g0 w0 N g' act w ⟨s.t, m', s.nx⟩ ∧ Grow g w g' w := by
  obtain ⟨g', m', h1, h2, h3, h4⟩ := apacks_ok h hst.mem
  exact ⟨g', m', h1, ⟨hst.size, hst.defers, fun i a hi => ⟨(hst.fr i a hi).1, ((hst.fr i a hi).2).grow h3⟩, h2, fun k hk => h4 k (hst.un k hk), hst.grow.trans h3⟩, h3⟩
theorem Sub.st {k : Nat} {ρ nl : List Nat} {s s' : AS} (h : Sub k ρ nl s s') {g0 g : Gh} {w0 w : World} {N : Nat} {act : Act} (hk : ∀ i, k ≤ i → g0 i = .un) (hs : St g0 w0 N g act w s) : ∃ g', St g0 w0 N g' act w s' := by
  obtain ⟨l, h⟩ := h
  obtain ⟨g', m', h1, h2, _⟩ := St.packs h hs
  exact ⟨_, h1.st hk h2⟩

/-- a piece of code, from a state -/
abbrev XT : Gh → World → Prop := fun _ _ => True
def Wp (X : Gh → World → Prop) (P : Program) (k N : Nat) (c : Code) (Q : AX → AS → Prop) (s : AS) : Prop :=
  ∀ (g0 g : Gh) (w0 w : World) (act : Act), (X g0 w0 ∧ ∀ i, k ≤ i → g0 i = .un) → St g0 w0 N g act w s → c.wp P (Post g0 w0 N Q) act w
def AX.thn (next : AS → Prop) (Q : AX → AS → Prop) : AX → AS → Prop
  | .normal, s => next s
  | x, s => Q x s
def AX.blk (id : Nat) (Q : AX → AS → Prop) : AX → AS → Prop
  | .exit i, s => (i = id → Q .normal s) ∧ (i ≠ id → Q (.exit i) s)
  | x, s => Q x s
section
variable {X : Gh → World → Prop} {P : Program} {T : Ty} {k N : Nat} {Q : AX → AS → Prop} {s : AS}
theorem Post.mono {g0 : Gh} {w0 : World} {Q' : AX → AS → Prop} (h : ∀ x s, Q x s → Q' x s) {e : Exit} {act : Act} {w : World} (hp : Post g0 w0 N Q e act w) : Post g0 w0 N Q' e act w := by
  obtain ⟨x, s, g, h1, h2, h3⟩ := hp
  exact ⟨x, s, g, h x s h1, h2, h3⟩
theorem Wp.mono {c : Code} {Q' : AX → AS → Prop} (h : Wp X P k N c Q s) (hq : ∀ x s, Q x s → Q' x s) : Wp X P k N c Q' s :=
  fun g0 g w0 w act hk hs => Go.wp_mono (h g0 g w0 w act hk hs) fun _ _ _ hp => hp.mono hq
theorem Wp.sub {c : Code} {ρ nl : List Nat} {s' : AS} (h : Wp X P k N c Q s') (hsub : Sub k ρ nl s s') : Wp X P k N c Q s :=
  fun g0 _ w0 w act hk hs => by
    obtain ⟨g', hst⟩ := hsub.st hk.2 hs
    exact h g0 g' w0 w act hk hst
theorem Wp.seq {a b : Code} (h : Wp X P k N a (AX.thn (Wp X P k N b Q) Q) s) : Wp X P k N (.seq a b) Q s := by
  intro g0 g w0 w act hk hs
  refine wp_seq (Go.wp_mono (h g0 g w0 w act hk hs) ?_)
  rintro e act' w' ⟨x, s', g', h1, h2, h3⟩
  cases x with
  | normal => cases e with
    | normal => exact h1 g0 g' w0 w' act' hk h2
    | _ => exact h3.elim
  | _ => cases e <;> first | exact h3.elim | exact ⟨_, s', g', h1, h2, h3⟩
theorem Wp.block {id : Nat} {c : Code} (h : Wp X P k N c (AX.blk id Q) s) : Wp X P k N (.block id c) Q s := by
  intro g0 g w0 w act hk hs
  refine wp_block (Go.wp_mono (h g0 g w0 w act hk hs) ?_)
  rintro e act' w' ⟨x, s', g', h1, h2, h3⟩
  cases x with
  | exit i =>
    cases e with
    | exit j =>
      have : i = j := h3
      subst this
      show if i = id then _ else _
      by_cases hi : i = id
      · rw [if_pos hi]; exact ⟨.normal, s', g', h1.1 hi, h2, trivial⟩
      · rw [if_neg hi]; exact ⟨.exit i, s', g', h1.2 hi, h2, rfl⟩
    | _ => exact h3.elim
  | _ => cases e <;> first | exact h3.elim | exact ⟨_, s', g', h1, h2, h3⟩
theorem wp_loop_rel {σ : Type} {c : Code} {Q : Exit → Act → World → Prop} {a : Act} {w : World} (R : σ → Act → World → Prop) (μ : σ → Nat) {x0 : σ} (h0 : R x0 a w)
    (round : ∀ x a w, R x a w → c.wp P (Exit.then (fun a' w' => ∃ x', R x' a' w' ∧ μ x' < μ x) Q) a w) : (Code.loop c).wp P Q a w := by
  intro b k cs
  have key : ∀ n x a w, μ x = n → R x a w →
      ∃ e a' w', Q e a' w' ∧ Arrives P (lone (b.at a (.code c :: .inLoop c :: k)) cs w) b k cs e a' w' := by
    intro n
    induction n using Nat.strongRecOn with
    | _ n ih =>
      intro x a w hn hI
      obtain ⟨e, a₁, w₁, hq, harr⟩ := round x a w hI b (.inLoop c :: k) cs
      cases e with
      | normal =>
        obtain ⟨x', hI₁, hlt⟩ := hq
        obtain ⟨e₂, a₂, w₂, hq₂, harr₂⟩ := ih (μ x') (hn ▸ hlt) x' a₁ w₁ rfl hI₁
        exact ⟨e₂, a₂, w₂, hq₂, .of_steps (Steps.trans harr (.one step_inLoop)) harr₂⟩
      | exit id => exact ⟨_, a₁, w₁, hq, .pass (x := .inLoop c) rfl (fun _ _ => .inl (by simp)) harr⟩
      | goto l => exact ⟨_, a₁, w₁, hq, .pass (x := .inLoop c) rfl (fun _ _ => .inl (by simp)) harr⟩
      | ret => exact ⟨_, a₁, w₁, hq, .pass (x := .inLoop c) rfl (fun _ _ => .inl (by simp)) harr⟩
      | panic ch => exact ⟨_, a₁, w₁, hq, .pass (x := .inLoop c) rfl (fun _ _ => .inl (by simp)) harr⟩
      | outgrown => exact ⟨_, a₁, w₁, hq, .pass (x := .inLoop c) rfl (fun _ _ => .inl (by simp)) harr⟩
  obtain ⟨e, a', w', hq, harr⟩ := key _ x0 a w rfl h0
  exact ⟨e, a', w', hq, .of_steps (.one step_loop) harr⟩
/-- the loop's rule -/
theorem Wp.loop {c : Code} {σ : Type} (J : σ → AS) (I : σ → Prop) (μ : σ → Nat) (x0 : σ) {ρ nl : List Nat} (h0 : Sub k ρ nl s (J x0)) (hI : I x0)
    (h : ∀ x, I x → SOk (J x) → Wp X P k N c (AX.thn (fun s' => ∃ x' ρ nl, Sub k ρ nl s' (J x') ∧ I x' ∧ μ x' < μ x) Q) (J x)) : Wp X P k N (.loop c) Q s := by
  intro g0 g w0 w act hk hs
  refine wp_loop_rel (fun x act w => I x ∧ ∃ g, St g0 w0 N g act w (J x)) μ (x0 := x0) ⟨hI, h0.st hk.2 hs⟩ ?_
  rintro x1 a1 w1 ⟨hI1, g1, hs1⟩
  refine Go.wp_mono (h x1 hI1 hs1.ok g0 g1 w0 w1 a1 hk hs1) ?_
  rintro e act' w' ⟨x, s', g', h1, h2, h3⟩
  cases x with
  | normal => cases e with
    | normal =>
      obtain ⟨x', ρ', nl', q1, q2, q3⟩ := h1
      exact ⟨x', ⟨q2, q1.st hk.2 h2⟩, q3⟩
    | _ => exact h3.elim
  | _ => cases e <;> first | exact h3.elim | exact ⟨_, s', g', h1, h2, h3⟩

def acond (v : Option AV) (a b : Prop) : Prop := match v with
  | some (.tr (.v (.bool y))) => cond y a b
  | _ => False
/-! functions -/
def resOne (T : Ty) (s : AS) : ResultVar → Option AV
  | .tmp t => s.t t
  | .cell a ty => match s.t a with
    | some (.ptr h off) => match lk T ty, s.m h with
      | some i, some (.cells _ l) => bif i.d.agg then (bif Nat.ble (off + i.size) l.length then some (.agg ((l.drop off).take i.size)) else none) else l[off]?
      | _, _ => none
    | _ => none
def resAll (T : Ty) (s : AS) : List ResultVar → Option (List AV)
  | [] => some []
  | r :: rs => match resOne T s r, resAll T s rs with | some a, some l => some (a :: l) | _, _ => none
def resAV : List AV → AV
  | [a] => a
  | l => .tup l
def cvO (m : Mem) (ρ : List Nat) (S : Nat → Bool) : Nat → List (Option Blk) → Prop
  | _, [] => True
  | i, none :: r => cvO m ρ S (i + 1) r
  | i, some b :: r => cvM1 m ρ [] S i b ∧ cvO m ρ S (i + 1) r
/-- the function's end -/
def afinR (T : Ty) (ρ : List Nat) (rs : List ResultVar) (res : AE) (bout : List (Option Blk)) : AX → AS → Prop
  | .normal, s | .ret, s => match res with
    | .ret a => (match resAll T s rs with | some l => cv s.m ρ [] (fun h => !has ρ h) (resAV l) a | none => False) ∧ cvO s.m ρ (fun h => !has ρ h) 0 bout
    | .pan _ => False
  | .pan a, s => match res with
    | .pan a' => cv s.m ρ [] (fun h => !has ρ h) a a' ∧ cvO s.m ρ (fun h => !has ρ h) 0 bout
    | .ret _ => False
  | .exit _, _ => False
abbrev afin (T : Ty) (k : Nat) (rs : List ResultVar) (res : AE) (bout : List (Option Blk)) : AX → AS → Prop := afinR T (List.range k) rs res bout
def AS.init (args : List AV) (bin : List Blk) : AS := ⟨fun i => args[i]?, ofL bin, bin.length⟩
theorem cvO_ok {m : Mem} {ρ : List Nat} {S : Nat → Bool} {bout : List (Option Blk)} (h : cvO m ρ S 0 bout) : cvM m (ofLO bout) ρ [] S := by
  have key : ∀ (l : List (Option Blk)) (i : Nat), cvO m ρ S i l → ∀ j b, (l[j]?).join = some b → cvM1 m ρ [] S (i + j) b := by
    intro l
    induction l with
    | nil => intro i _ j b hb; simp at hb
    | cons x l ih =>
      intro i h j b hb
      cases j with
      | zero =>
        simp at hb; subst hb
        unfold cvO at h
        exact h.1
      | succ j =>
        have h' : cvO m ρ S (i + 1) l := by
          cases x with
          | none => unfold cvO at h; exact h
          | some y => unfold cvO at h; exact h.2
        have := ih (i + 1) h' j b (by simpa using hb)
        rwa [show i + 1 + j = i + (j + 1) by omega] at this
  intro i b' hb
  have := key bout 0 h i b' hb
  rw [Nat.zero_add] at this
  exact cvM1_ok this
theorem range_sub {k : Nat} {ρ : List Nat} {s : AS} {bout : List (Option Blk)} (hρ : rhoOk k ρ = true) (h : cvO s.m ρ (fun h => !has ρ h) 0 bout) : Sub0 k ρ [] s ⟨fun _ => none, ofLO bout, ρ.length⟩ := by
  unfold rhoOk at hρ
  simp only [Bool.and_eq_true, beq_iff_eq, decide_eq_true_eq] at hρ
  obtain ⟨⟨a1, a2⟩, a3⟩ := hρ
  refine ⟨a3, fun h hh => ?_, fun i a' h => (by cases h), cvO_ok h, Nat.le_refl _, by simp⟩
  have : (ρ.take k)[h]? = some h := by rw [a2]; simp [hh]
  rw [List.getElem?_take, if_pos hh] at this
  exact this
theorem rho_range (k : Nat) : rhoOk k (List.range k) = true := by
  unfold rhoOk
  simp [List.nodup_range]
def resF (tmps : Array Value) : ResultVar → Sem Value
  | .tmp t => pure (tmps.getD t undef)
  | .cell a t => do loadVar t (← asAddr (tmps.getD a undef))
theorem results_eq (fn : Func) (tmps : Array Value) : results fn tmps = (do let vs ← fn.results.mapM (resF tmps); pure (if h : vs.size = 1 then vs[0] else .tuple vs)) := by
  unfold results
  have : (fun (x : ResultVar) => match x with | .tmp t => (pure (tmps.getD t undef) : Sem Value) | .cell a t => do loadVar t (← asAddr (tmps.getD a undef))) = resF tmps := by
    funext x; cases x <;> rfl
  rw [← this]
  rfl
theorem run_results (hT : TOk P T) {fn : Func} {g : Gh} {act : Act} {w : World} {s : AS} (hf : ∀ i a, s.t i = some a → i < N ∧ Rep g w (act.tmps.getD i undef) a) (hm : MSt g w s.m) {l : List AV} (h : resAll T s fn.results.toList = some l) :
    ∃ v, (results fn act.tmps).run P w = .ok v w ∧ Rep g w v (resAV l) := by
  have one : ∀ (r : ResultVar) (a : AV), resOne T s r = some a → ∃ v, (resF act.tmps r).run P w = .ok v w ∧ Rep g w v a := by
    intro r a hr
    unfold resOne at hr
    split at hr
    · exact ⟨_, rfl, (hf _ _ hr).2⟩
    · rename_i p ty
      split at hr
      case h_2 => cases hr
      rename_i hd off e1
      split at hr
      case h_2 => cases hr
      rename_i i t l e2 e3
      obtain ⟨lc, g1, b, cs, rfl, g2, g3⟩ := hm.blk hd _ e3
      have hp := (hf _ _ e1).2.ptr_inv g1
      have hld : ∀ v, (Instr.loadAt ty (.pointer (some ⟨b, off, none⟩))).run P w = .ok v w → (resF act.tmps (.cell p ty)).run P w = .ok v w := fun v hv => by
        show (do loadVar ty (← asAddr (act.tmps.getD p undef)) : Sem Value).run P w = .ok v w
        rw [hp]
        simpa [Instr.loadAt, Instr.sureAddr, asAddr] using hv
      cases hag : i.d.agg with
      | true =>
        rw [hag, cond_true] at hr
        cases hle : Nat.ble (off + i.size) l.length with
        | false => rw [hle] at hr; cases hr
        | true =>
          rw [hle, cond_true] at hr
          cases hr
          have hle := Nat.le_of_ble_eq_true hle
          have hc := g3.drop_take off i.size
          refine ⟨_, hld _ (run_loadA hT e2 hag (cs.extract off (off + i.size)).toList ?_ fun j v hj => ?_), ?_⟩
          · have := g3.1; simp; omega
          · rw [heap_cell g2]
            simp only [Array.getElem?_toList, Array.getElem?_extract] at hj
            split at hj
            · exact hj
            · cases hj
          · rw [Array.toArray_toList]; exact hc.agg
      | false =>
        rw [hag, cond_false] at hr
        obtain ⟨c, c1, c2⟩ := get_cells g3 hr
        exact ⟨c, hld _ (run_load1 hT e2 hag (by rw [heap_cell g2]; exact c1)), c2⟩
  have all : ∀ (rs : List ResultVar) (l : List AV), resAll T s rs = some l → ∃ vs : List Value, (rs.mapM (resF act.tmps)).run P w = .ok vs w ∧ vs.length = l.length ∧ ∀ (i : Nat) (v : Value) (a : AV), vs[i]? = some v → l[i]? = some a → Rep g w v a := by
    intro rs
    induction rs with
    | nil => intro l h; cases h; exact ⟨[], by simp, rfl, fun i v a h => by simp at h⟩
    | cons r rs ih =>
      intro l h
      unfold resAll at h
      split at h
      · rename_i a l' e1 e2
        cases h
        obtain ⟨v, q1, q2⟩ := one r a e1
        obtain ⟨vs, q3, q4, q5⟩ := ih l' e2
        refine ⟨v :: vs, ?_, by simp [q4], fun i u b e3 e4 => ?_⟩
        · rw [List.mapM_cons]
          simp only [Sem.run_bind, q1, Result.andThen_ok, q3, Sem.run_pure]
        · cases i with
          | zero => simp at e3 e4; subst e3; subst e4; exact q2
          | succ i => exact q5 i u b (by simpa using e3) (by simpa using e4)
      · cases h
  obtain ⟨vs, q1, q2, q3⟩ := all _ _ h
  refine ⟨if h : vs.length = 1 then vs[0] else .tuple vs.toArray, ?_, ?_⟩
  · rw [results_eq, Array.mapM_eq_mapM_toList]
    simp only [Sem.run_bind, Sem.run_map, q1, Result.andThen_ok, Sem.run_pure]
    congr 1
  · split
    · rename_i h1
      obtain ⟨v, rfl⟩ : ∃ v, vs = [v] := by
        cases vs with
        | nil => simp at h1
        | cons v r => cases r with
          | nil => exact ⟨v, rfl⟩
          | cons => simp at h1
      obtain ⟨a, rfl⟩ : ∃ a, l = [a] := by
        cases l with
        | nil => simp at q2
        | cons v r => cases r with
          | nil => exact ⟨v, rfl⟩
          | cons => simp at q2
      exact q3 0 v a rfl rfl
    · rename_i h1
      have : resAV l = .tup l := by
        cases l with
        | nil => rfl
        | cons a r => cases r with
          | nil => simp at q2; exact absurd q2 h1
          | cons => rfl
      rw [this]
      exact .tup (by simpa using q2) fun i c a e1 e2 => q3 i c a (by simpa using e1) e2
/-- a ghost at a call's beginning -/
def Gh.at (g : Gh) (D : List Deferred) : Gh := ⟨g.f, g.X, D, g.F⟩
theorem Grow.at (g : Gh) (w : World) (D : List Deferred) : Grow (g.at D) w g w := ⟨rfl, rfl, rfl, Nat.le_refl _, fun _ _ => rfl, fun _ _ => rfl, rfl, fun _ h => h, fun _ _ h => .inl h, fun h b e => .inl ⟨h, e⟩⟩
theorem Grow.of_at {g g' : Gh} {w w' : World} {D : List Deferred} (h : Grow (g.at D) w g' w') : Grow g w g' w' := ⟨h.os, h.tape, h.output, h.size, h.block, h.xb, h.X, h.un, h.live, h.new⟩
theorem Grow.to_at {g g' : Gh} {w w' : World} {D : List Deferred} (h : Grow g w g' w') : Grow (g.at D) w g' w' := ⟨h.os, h.tape, h.output, h.size, h.block, h.xb, h.X, h.un, h.live, h.new⟩
/-- a function's contract, from its code -/
theorem Ctr.introP (hT : TOk P T) {f : Nat} {fn : Func} {c : Code} (hf : P.funcs[f]? = some fn) (hb : fn.body = some c) (hcall : Callable P f) {args : List AV} {bin : List Blk} {res : AE} {bout : List (Option Blk)}
    (hN : Nat.ble args.length fn.ntmps = true) (h : SOk (AS.init args bin) → Wp XT P bin.length fn.ntmps c (fun x s => ∃ hs, apacks hs s.m fun m => ∃ ρ, rhoOk bin.length ρ = true ∧ ρ.length = bout.length ∧ afinR T ρ fn.results.toList res bout x ⟨s.t, m, s.nx⟩) (AS.init args bin)) : Ctr P f args bin res bout := by
  refine ⟨hcall, fun g w vs hun hm hsz hvs => ?_⟩
  have hN := Nat.le_of_ble_eq_true hN
  have hok : SOk (AS.init args bin) := ⟨g, w, hm, fun i a hi => by
    have hi' : args[i]? = some a := hi
    have hlt : i < args.length := (List.getElem?_eq_some_iff.1 hi').1
    exact ⟨vs[i], hvs i vs[i] a (by simp [show i < vs.size by omega]) hi'⟩⟩
  refine calls_of_wp hf hb (Go.wp_mono (h hok (g.at []) g w w { tmps := vs ++ Array.replicate (fn.ntmps - vs.size) undef, defers := [] } ⟨trivial, hun⟩ ⟨by simp; omega, rfl, fun i a hi => ?_, hm, fun h hh => hun h (Nat.le_trans hh (Nat.mod_le _ _)), Grow.at _ _ _⟩) ?_)
  · have hi' : args[i]? = some a := hi
    have hlt : i < args.length := (List.getElem?_eq_some_iff.1 hi').1
    refine ⟨by omega, ?_⟩
    have hv : vs[i]? = some vs[i] := by simp [show i < vs.size by omega]
    have : (vs ++ Array.replicate (fn.ntmps - vs.size) undef).getD i undef = vs[i] := by
      rw [Array.getD, dif_pos (by simp; omega)]
      simp [Array.getElem_append, show i < vs.size by omega]
    rw [this]
    exact hvs i vs[i] a hv hi'
  · rintro e act' w' ⟨x, s0, g1, ⟨hs, hp⟩, h2, h3⟩
    obtain ⟨g', m', ⟨ρ, hρ, hρl, h1⟩, h2, hgp⟩ := St.packs hp h2
    replace h3 : AX.is g' w' x e := by
      cases x <;> cases e <;> first | exact h3 | exact h3.elim | (obtain ⟨v, q1, q2⟩ := h3; exact ⟨v, q1, q2.grow hgp⟩)
    generalize (⟨s0.t, m', s0.nx⟩ : AS) = s at h1 h2
    have under : Under (gsub g' ρ [] g'.X) bout.length := fun i hi l hl => by
      have : ρ[i]? = none := List.getElem?_eq_none (by omega)
      simp [gsub, this, has] at hl
    have hsub : SubOk g' w' ρ (fun h => !has ρ h) g'.X := by
      refine ⟨fun b hb => hb.2.1, fun i b _ e1 => h2.mem.xl i b e1, fun i hi hm => ?_⟩
      simp only [Bool.not_eq_true'] at hi
      rw [has_iff.2 hm] at hi; cases hi
    have fin : ∀ {a : AV}, res = .ret a → (match resAll T s fn.results.toList with | some l => cv s.m ρ [] (fun h => !has ρ h) (resAV l) a | none => False) ∧ cvO s.m ρ (fun h => !has ρ h) 0 bout →
        act'.defers = [] ∧ ∃ v, (results fn act'.tmps).run P w' = .ok v w' ∧ ∃ g', Grow g w g' w' ∧ MSt g' w' (ofLO bout) ∧ Under g' bout.length ∧ res.is g' w' (.returned v) := by
      rintro a rfl ⟨h4, h5⟩
      split at h4
      case h_2 => exact h4.elim
      rename_i l hl
      obtain ⟨v, r1, r2⟩ := run_results hT (fn := fn) h2.fr h2.mem hl
      have hst := (range_sub hρ h5).st (g0 := g.at []) hun h2
      exact ⟨h2.defers, v, r1, _, hst.grow.of_at, hst.mem, under, cv_rep hsub h2.mem r2 h4⟩
    cases x with
    | normal => cases e with
      | normal => cases res with
        | ret a => exact fin rfl h1
        | pan a => exact h1.elim
      | _ => exact h3.elim
    | ret => cases e with
      | ret => cases res with
        | ret a => exact fin rfl h1
        | pan a => exact h1.elim
      | _ => exact h3.elim
    | exit i => exact h1.elim
    | pan a => cases e with
      | panic ch =>
        cases res with
        | ret a => exact h1.elim
        | pan a' =>
          obtain ⟨v, rfl, hv⟩ := h3
          have hst := (range_sub hρ h1.2).st (g0 := g.at []) hun h2
          exact ⟨h2.defers, _, hst.grow.of_at, hst.mem, under, v, rfl, cv_rep hsub h2.mem hv h1.1⟩
      | _ => exact h3.elim
theorem Ctr.introR (hT : TOk P T) {f : Nat} {fn : Func} {c : Code} (hf : P.funcs[f]? = some fn) (hb : fn.body = some c) (hcall : Callable P f) {args : List AV} {bin : List Blk} {res : AE} {bout : List (Option Blk)}
    (hN : Nat.ble args.length fn.ntmps = true) (h : SOk (AS.init args bin) → Wp XT P bin.length fn.ntmps c (fun x s => ∃ ρ, rhoOk bin.length ρ = true ∧ ρ.length = bout.length ∧ afinR T ρ fn.results.toList res bout x s) (AS.init args bin)) : Ctr P f args bin res bout :=
  Ctr.introP hT hf hb hcall hN fun hok => (h hok).mono fun x s hx => ⟨[], hx⟩
theorem Ctr.intro (hT : TOk P T) {f : Nat} {fn : Func} {c : Code} (hf : P.funcs[f]? = some fn) (hb : fn.body = some c) (hcall : Callable P f) {args : List AV} {bin : List Blk} {res : AE} {bout : List (Option Blk)}
    (hN : Nat.ble args.length fn.ntmps = true) (h : SOk (AS.init args bin) → Wp XT P bin.length fn.ntmps c (afin T bin.length fn.results.toList res bout) (AS.init args bin)) (hbo : Nat.beq bout.length bin.length = true := by rfl) : Ctr P f args bin res bout :=
  Ctr.introR hT hf hb hcall hN fun hok => (h hok).mono fun x s hx => ⟨List.range bin.length, rho_range _, by rw [List.length_range]; exact (Nat.eq_of_beq_eq_true hbo).symm, hx⟩
end
end Go.Proofs.YthboippafkcoiaaGreatDoor.am

namespace Go.Proofs.YthboippafkcoiaaGreatDoor.am
open Go
abbrev ti (n : Int) : Tr := .v (.int .i64 n)
abbrev tu (n : Int) : Tr := .v (.int .u8 n)
abbrev tb (b : Bool) : Tr := .v (.bool b)
abbrev ts (s : ByteArray) : Tr := .v (.string s)
abbrev tnil : Tr := .v (.slice none 0 0)

/-- a test that the machine cannot decide -/
theorem csplit {y : Bool} {A B : Prop} (h1 : y = true → A) (h2 : y = false → B) : cond y A B := by
  cases y
  · exact h2 rfl
  · exact h1 rfl
/-! facts -/
def TOkT (t : Tr) : Prop := ∃ ok w v, RepT ok w v t
theorem AOk.tr {t : Tr} (h : AOk (.tr t)) : TOkT t := by obtain ⟨g, w, v, h⟩ := h; exact ⟨_, w, v, h.tr_inv⟩
theorem AOk.tup {l : List AV} (h : AOk (.tup l)) : ∀ a ∈ l, AOk a := by
  obtain ⟨g, w, v, h⟩ := h
  intro a ha
  obtain ⟨i, hi⟩ := List.mem_iff_getElem?.1 ha
  cases h with
  | tup h1 h2 =>
    rename_i cs
    have hlt : i < cs.size := by rw [h1]; exact (List.getElem?_eq_some_iff.1 hi).1
    exact ⟨g, w, cs[i], h2 i _ a (by simp [hlt]) hi⟩
theorem AOk.agg {l : List AV} (h : AOk (.agg l)) : ∀ a ∈ l, AOk a := by
  obtain ⟨g, w, v, h⟩ := h
  intro a ha
  obtain ⟨i, hi⟩ := List.mem_iff_getElem?.1 ha
  cases h with
  | agg h1 h2 h3 =>
    rename_i cs
    have hlt : i < cs.size := by rw [h1]; exact (List.getElem?_eq_some_iff.1 hi).1
    exact ⟨g, w, cs[i], h3 i _ a (by simp [hlt]) hi⟩
theorem SOk.slot {s : AS} (h : SOk s) (i : Nat) {a : AV} (hi : s.t i = some a) : AOk a := by
  obtain ⟨g, w, _, h2⟩ := h
  obtain ⟨v, hv⟩ := h2 i a hi
  exact ⟨g, w, v, hv⟩
theorem SOk.cells {s : AS} (h : SOk s) (i : Nat) {t : Nat} {l : List AV} (hi : s.m i = some (.cells t l)) : ∀ a ∈ l, AOk a := by
  obtain ⟨g, w, hm, _⟩ := h
  obtain ⟨lc, _, b, cs, rfl, _, hc⟩ := hm.blk i _ hi
  intro a ha
  obtain ⟨j, hj⟩ := List.mem_iff_getElem?.1 ha
  obtain ⟨c, _, hr⟩ := get_cells hc hj
  exact ⟨g, w, c, hr⟩
theorem SOk.vec {s : AS} (h : SOk s) (i : Nat) {e n B : Nat} {rows : List (List Tr)} (hi : s.m i = some (.vec e n B rows)) : rows.length * B ≤ 150000000000000 ∧ rows.length ≤ 9223372036854775807 ∧ ∀ row ∈ rows, row.length = n ∧ ∀ t ∈ row, TOkT t := by
  obtain ⟨g, w, hm, _⟩ := h
  obtain ⟨lc, _, hB, hn, hv⟩ := hm.blk i _ hi
  refine ⟨hB, ?_, fun row hr => ?_⟩
  · rcases hv with ⟨_, rfl⟩ | ⟨b, cap, cur, _, _, q1, q2, _⟩
    · simp
    · omega
  · rcases hv with ⟨_, rfl⟩ | ⟨b, cap, cur, _, _, q1, q2, q3, q4, q5⟩
    · simp at hr
    · refine ⟨q4 row hr, fun t ht => ?_⟩
      obtain ⟨k, hk⟩ := List.mem_iff_getElem?.1 hr
      obtain ⟨j, hj⟩ := List.mem_iff_getElem?.1 ht
      obtain ⟨c, _, hc⟩ := vec_row q4 q5 hk hj
      exact ⟨_, w, c, hc⟩
theorem TOkT.int {k : IntKind} {n : Int} (h : TOkT (.v (.int k n))) : k.min ≤ n ∧ n ≤ k.max := by
  obtain ⟨ok, w, v, h⟩ := h; cases h with | v hg => exact hg
theorem TOkT.i64 {n : Int} (h : TOkT (ti n)) : -9223372036854775808 ≤ n ∧ n ≤ 9223372036854775807 := h.int
theorem TOkT.u8 {n : Int} (h : TOkT (tu n)) : 0 ≤ n ∧ n ≤ 255 := h.int
theorem TOkT.str {s : ByteArray} (h : TOkT (ts s)) : s.size ≤ 9223372036854775807 := by
  obtain ⟨ok, w, v, h⟩ := h; cases h with | v hg => exact hg
theorem TOkT.lst {n B : Nat} {rows : List (List Tr)} (h : TOkT (.lst n B rows)) : rows.length * B ≤ 150000000000000 ∧ rows.length ≤ 9223372036854775807 ∧ ∀ row ∈ rows, row.length = n ∧ ∀ t ∈ row, TOkT t := by
  obtain ⟨ok, w, v, h⟩ := h
  obtain ⟨ao, cap, f, rfl, q1, q2, q3, q4, q5, q6⟩ := lst_inv h
  refine ⟨q3, by omega, fun row hr => ?_⟩
  obtain ⟨i, hi⟩ := List.mem_iff_getElem?.1 hr
  refine ⟨(q5 i row hi).1, fun t ht => ?_⟩
  obtain ⟨j, hj⟩ := List.mem_iff_getElem?.1 ht
  exact ⟨ok, w, _, q6 i row j t hi hj⟩

/-! numbers -/
theorem w64 {n : Int} (h1 : -9223372036854775808 ≤ n) (h2 : n ≤ 9223372036854775807) : IntKind.i64.wrap n = n := by
  simp only [IntKind.wrap, IntKind.signed, IntKind.bits, Bool.true_and, Nat.reduceSub, Int.reducePow]
  split
  · rename_i h; have := of_decide_eq_true h; omega
  · rename_i h; have : ¬ _ := fun e => h (decide_eq_true e); omega
theorem ti_succ {k n : Nat} (h : k < n) (hn : n ≤ 9223372036854775807) : ti (IntKind.i64.wrap ((k : Int) + 1)) = ti ((k + 1 : Nat) : Int) := by
  rw [w64 (by omega) (by omega)]; rfl

/-! calls of functions that touch no memory of the caller's -/
def AV.isTr : AV → Bool | .tr _ => true | _ => false
def AV.plain : AV → Bool | .tr _ => true | .agg l => l.all AV.isTr | _ => false
theorem acall.pure {P : Program} {m : Mem} {nh f : Nat} {xs : List AV} {K : EE} (res : AE) (h : Ctr P f xs [] res []) (hx : xs.all AV.plain = true)
    (hl : res.lowH 0 = true) (hK : K (res.out []) [] []) : acall P m nh f xs K := by
  have hcv : ∀ (l : List AV), l.all AV.isTr = true → cvL m [] [] (seenS [] []) l l := by
    intro l
    induction l with
    | nil => intro _; unfold cvL; trivial
    | cons a l ih =>
      intro h
      simp only [List.all_cons, Bool.and_eq_true] at h
      unfold cvL
      refine ⟨?_, ih h.2⟩
      cases a <;> first | (exact .inl rfl) | (exact absurd h.1 (by simp [AV.isTr]))
  have hcv2 : ∀ (l : List AV), l.all AV.plain = true → cvL m [] [] (seenS [] []) l l := by
    intro l
    induction l with
    | nil => intro _; unfold cvL; trivial
    | cons a l ih =>
      intro h
      simp only [List.all_cons, Bool.and_eq_true] at h
      unfold cvL
      refine ⟨?_, ih h.2⟩
      cases a with
      | tr t => exact .inl rfl
      | agg l' => unfold cv; exact hcv l' h.1
      | _ => exact absurd h.1 (by simp [AV.plain])
  refine ⟨[], [], [], xs, [], res, [], ⟨h, List.nodup_nil, rfl, rfl, rfl, rfl, hcv2 xs hx, fun i b' hb => by simp [ofL] at hb, by simp, hl⟩, ?_⟩
  have : callUp [] [] res [] = [] := rfl
  rw [this]
  exact hK
end Go.Proofs.YthboippafkcoiaaGreatDoor.am

namespace Go.Proofs.YthboippafkcoiaaGreatDoor.am
open Go
set_option linter.unusedSimpArgs false
section
variable {P : Program} {T : Ty} {N : Nat} {ops : Array Oper} {nh : Nat} {g0 : Gh} {w0 : World}
theorem Recs.at2 {R : Nat → Rc} {s0 : AS} : ∀ (l : List Oper) (i : Nat) (s : AS) (cs : List Rc) (sf : AS), Recs P N ops nh l i s cs sf → (∀ j o, l[j]? = some o → ops[i + j]? = some o) → (∀ j, j < l.length → R (i + j) = recAt cs j) → s = foldS ops R s0 (List.range i) →
    sf = foldS ops R s0 (List.range (i + l.length)) ∧ cs.length = l.length ∧ ∀ j o, l[j]? = some o → dstOk N o.dst = true ∧ wants ops (foldS ops R s0 (List.range (i + j))).t o (R (i + j)).run ∧ RdUp (foldS ops R s0 (List.range (i + j))).m (nh + (i + j)) (R (i + j)).rd (R (i + j)).up ∧
      ((R (i + j)).run = true → WStep P o (nh + (i + j)) (evR ops o (foldS ops R s0 (List.range (i + j))).t) (R (i + j)).rd (R (i + j)).up (R (i + j)).a false) ∧ ((R (i + j)).run = false → (R (i + j)).a = .und ∧ (R (i + j)).up = []) := by
  intro l
  induction l with
  | nil =>
    intro i s cs sf h _ _ hs
    cases cs with
    | nil => exact ⟨by rw [show sf = s from h, hs]; rfl, rfl, fun j o h => by simp at h⟩
    | cons => exact h.elim
  | cons o r ih =>
    intro i s cs sf h hl hR hs
    cases cs with
    | nil => exact h.elim
    | cons c cs =>
      obtain ⟨h1, h2, h3, h4, h5, h6⟩ := h
      have hRi : R i = c := by have := hR 0 (by simp); simpa [recAt] using this
      have ho : ops[i]? = some o := by have := hl 0 o (by simp); simpa using this
      have hd : dstOf ops i = o.dst := by simp [dstOf, ho]
      obtain ⟨q1, q2, q3⟩ := ih (i + 1) (s.put o.dst c.a c.up) cs sf h6 (fun j o' ho' => by have := hl (j + 1) o' (by simpa using ho'); rw [show i + (j + 1) = i + 1 + j by omega] at this; exact this)
        (fun j hj => by have := hR (j + 1) (by simp; omega); rw [show i + (j + 1) = i + 1 + j by omega] at this; simpa [recAt] using this)
        (by rw [List.range_succ, foldS_snoc, hd, hRi, ← hs])
      refine ⟨by rw [q1, List.length_cons, show i + (r.length + 1) = i + 1 + r.length by omega], by simp [q2], fun j o' hj => ?_⟩
      cases j with
      | zero =>
        simp at hj; subst hj
        rw [Nat.add_zero, hRi, ← hs]
        exact ⟨h1, h2, h3, h4, h5⟩
      | succ j =>
        have := q3 j o' (by simpa using hj)
        rwa [show i + 1 + j = i + (j + 1) by omega] at this

theorem draw_any2 {pz : Bool} {cs : List Rc} {s0 : AS} {Q : Exit → Act → World → Prop} (hok : drawOk ops (cs.map Rc.ft) = true) (hnx : s0.nx = nh)
    (F : ∀ i o, ops[i]? = some o → dstOk N o.dst = true ∧ wants ops (foldS ops (recAt cs) s0 (List.range i)).t o (recAt cs i).run ∧ RdUp (foldS ops (recAt cs) s0 (List.range i)).m (nh + i) (recAt cs i).rd (recAt cs i).up ∧
      ((recAt cs i).run = true → WStep P o (nh + i) (evR ops o (foldS ops (recAt cs) s0 (List.range i)).t) (recAt cs i).rd (recAt cs i).up (recAt cs i).a (pz && Nat.beq (i + 1) ops.size)) ∧ ((recAt cs i).run = false → (recAt cs i).a = .und ∧ (recAt cs i).up = []))
    (hz : pz = true → ∀ j, j + 1 < ops.size → bef ops ops.size (ops.size - 1) j = true)
    (hP : pz = true → ∀ act w g, act.tmps.size = N → act.defers = g0.D → (∀ x a, (foldS ops (recAt cs) s0 (List.range (ops.size - 1))).t x = some a → x < N ∧ Rep g w (act.tmps.getD x undef) a) → MSt g w (foldS ops (recAt cs) s0 (List.range (ops.size - 1))).m →
      (∀ h, nh + (ops.size - 1) ≤ h % HMod → g h = .un) → Grow g0 w0 g w → ∀ v w' g', Rep g' w' v (recAt cs (ops.size - 1)).a → MSt g' w' (updM (foldS ops (recAt cs) s0 (List.range (ops.size - 1))).m (recAt cs (ops.size - 1)).up) → Grow g w g' w' →
      (∀ h, h % HMod ≠ nh + (ops.size - 1) → g h = .un → g' h = .un) → Q (.panic [{ v, recovered := false }]) act w')
    (hrz : pz = true → 0 < ops.size ∧ (recAt cs (ops.size - 1)).run = true)
    (hQ : ∀ act w g, pz = false → St g0 w0 N g act w { foldS ops (recAt cs) s0 (List.range ops.size) with nx := nh + ops.size } → Q .normal act w) :
    ∀ (fuel : Nat) (listed : Array Bool) (act : Act) (w : World), listed.size = ops.size → listed.toList.countP (fun b => !b) ≤ fuel → (∀ i, i < ops.size → listed.getD i true = true → ∀ d ∈ deps ops i, listed.getD d true = true) → (pz = true → listed.getD (ops.size - 1) true = false) →
      Inv g0 w0 N ops nh (recAt cs) s0 (fun i => listed.getD i true) act w → wpAny P .any ops Q fuel listed act w := by
  have hup : ∀ j, j < ops.size → ∀ d ∈ deps ops j, d < j := fun j hj d hd => by
    have h := hok
    unfold drawOk upw at h
    simp only [Bool.and_eq_true, List.all_eq_true, List.mem_range] at h
    exact Nat.le_of_ble_eq_true (h.1 j hj d hd)
  have final : ∀ (listed : Array Bool) (act : Act) (w : World), (∀ i, i < ops.size → listed.getD i true = true) → (pz = true → listed.getD (ops.size - 1) true = false) → Inv g0 w0 N ops nh (recAt cs) s0 (fun i => listed.getD i true) act w → Q .normal act w := by
    intro listed act w hall hnl hI
    have hpz : pz = false := by
      cases hq : pz with
      | false => rfl
      | true => have h1 := hnl hq; have h2 := (hrz hq).1; rw [hall _ (by omega)] at h1; cases h1
    obtain ⟨g, h1, h2, h3, h4⟩ := hI.rest
    have e : (List.range ops.size).filter (fun i => listed.getD i true) = List.range ops.size := List.filter_eq_self.2 fun k hk => hall k (List.mem_range.1 hk)
    rw [e] at h1 h2
    refine hQ act w g hpz ⟨hI.size, hI.defers, h1, h2, fun h (hh : nh + ops.size ≤ h % HMod) => h3 h (by omega) (fun i hi _ => by omega), h4⟩
  intro fuel
  induction fuel with
  | zero =>
    intro listed act w hs hc hcl hnl hI
    have hall : ∀ i, i < ops.size → listed.getD i true = true := fun i hi => by
      cases hl : listed.getD i true with
      | true => rfl
      | false =>
        have hi' : i < listed.size := by omega
        have h0 : listed[i] = false := by simpa [Array.getD, hi'] using hl
        have : 0 < listed.toList.countP (fun b => !b) := List.countP_pos_iff.2 ⟨false, by rw [← h0]; simp, rfl⟩
        omega
    refine ⟨?_, final listed act w hall hnl hI⟩
    refine List.eq_nil_iff_forall_not_mem.2 fun i hi => ?_
    obtain ⟨h1, h2, _⟩ := dr_ready hi
    rw [hall i h1] at h2
    cases h2
  | succ fuel ih =>
    intro listed act w hs hc hcl hnl hI
    refine ⟨fun hr => final listed act w (dr_all hup hs hr) hnl hI, fun i hi => ?_⟩
    obtain ⟨h1, h2, h3⟩ := dr_ready hi
    have h3' : ∀ d ∈ deps ops i, listed.getD d true = true := fun d hd => by
      rw [dr_any (by have := hup i h1 d hd; omega) true false]; exact h3 d hd
    have ho : ops[i]? = some ops[i] := by simp [h1]
    generalize ops[i] = o at ho
    obtain ⟨f1, f2, f3, f4, f5⟩ := F i o ho
    obtain ⟨t1, t2, t3⟩ := draw_step (s0 := s0) hok hcl h1 h2 h3' ho
    have hE' : ∀ k, k < ops.size → (fun k => (listed.setIfInBounds i true).getD k true) k = (Nat.beq k i || (fun k => listed.getD k true) k) := fun k hk => by
      simp only
      by_cases hki : k = i
      · subst hki; rw [dr_set_same _ _ (by omega)]; simp
      · rw [dr_set_ne _ hki, beq_ne hki, Bool.false_or]
    have hput := t3 _ hE'
    have hcl' : ∀ k, k < ops.size → (listed.setIfInBounds i true).getD k true = true → ∀ d ∈ deps ops k, (listed.setIfInBounds i true).getD d true = true := fun k hk hlk d hd => by
      by_cases hdi : d = i
      · subst hdi; exact dr_set_same _ _ (by omega)
      · rw [dr_set_ne _ hdi]
        by_cases hki : k = i
        · subst hki; exact h3' d hd
        · rw [dr_set_ne _ hki] at hlk; exact hcl k hk hlk d hd
    obtain ⟨g, g1, g2, g3, g4⟩ := hI.rest
    have hun : ∀ k, k % HMod = nh + i → g k = .un := fun k' hk' => g3 _ (by omega) fun k hk hEk => by
      intro e
      have : k = i := by omega
      subst this
      rw [h2] at hEk; cases hEk
    -- the values looked at
    have hlook : ∀ x a, has (o.looksAt ops) x = true → (foldS ops (recAt cs) s0 (List.range i)).t x = some a → x < N ∧ Rep g w (act.tmps.getD x undef) a := fun x a hx ha => g1 x a (by rw [t1 x (has_iff.1 hx)]; exact ha)
    have hev : ∀ x b, evR ops o (foldS ops (recAt cs) s0 (List.range i)).t x = some b → Rep g w (act.eval x) b := by
      intro x b hx
      cases x with
      | tmp k =>
        have hx : (bif has (o.looksAt ops) k then (foldS ops (recAt cs) s0 (List.range i)).t k else none) = some b := hx
        cases hh : has (o.looksAt ops) k with
        | false => rw [hh] at hx; cases hx
        | true => rw [hh, cond_true] at hx; exact (hlook k b hh hx).2
      | const v => exact evA_ok (N := N) (act := act) (g := g) (w := w) (t := fun _ => none) (fun _ _ h => by cases h) (.const v) b (by
          have hx : evA (foldS ops (recAt cs) s0 (List.range i)).t (.const v) = some b := hx
          rw [← hx]
          unfold evA
          cases v <;> rfl)
      | global k => cases hx
      | func f => exact evA_ok (N := N) (act := act) (g := g) (w := w) (t := fun _ => none) (fun _ _ h => by cases h) (.func f) b hx
    have hwant : Region.wanted o (yielded ops act.tmps) = (recAt cs i).run := by
      unfold wants at f2
      unfold Region.wanted
      split at f2
      · rename_i hg; rw [hg, f2]
      · rename_i j want hg
        rw [hg]
        -- the guard's value
        have hgv : ∀ a, gval ops (foldS ops (recAt cs) s0 (List.range i)).t j = some a → gval ops (foldS ops (recAt cs) s0 ((List.range ops.size).filter fun k => listed.getD k true)).t j = some a := fun a ha => by
          unfold gval at ha ⊢
          cases hj : ops[j]? with
          | none => rw [hj] at ha; cases ha
          | some oj =>
            rw [hj] at ha
            have ha : (match oj.dst with | some d => (foldS ops (recAt cs) s0 (List.range i)).t d | none => none) = some a := ha
            cases hd : oj.dst with
            | none => rw [hd] at ha; cases ha
            | some d =>
              rw [hd] at ha
              have ha : (foldS ops (recAt cs) s0 (List.range i)).t d = some a := ha
              show (match oj.dst with | some d => (foldS ops (recAt cs) s0 ((List.range ops.size).filter fun k => listed.getD k true)).t d | none => none) = some a
              rw [hd]
              show (foldS ops (recAt cs) s0 ((List.range ops.size).filter fun k => listed.getD k true)).t d = some a
              rw [t1 d (by unfold Oper.looksAt; rw [hg]; simp [hj, hd])]
              exact ha
        rcases f2 with ⟨e1, e2⟩ | ⟨y, e1, e2⟩
        · have := (yielded_ok hI.size g1 (hgv _ e1)).1 rfl
          rw [e2]; show (yielded ops act.tmps j == some want) = false; rw [this]; rfl
        · have := (yielded_ok hI.size g1 (hgv _ e1)).2 y rfl
          rw [e2]; show (yielded ops act.tmps j == some want) = _; rw [this]
          cases y <;> cases want <;> rfl
    have next : (pz && Nat.beq (i + 1) ops.size) = false → ∀ v w' g', Rep g' w' v (recAt cs i).a → MSt g' w' (updM (foldS ops (recAt cs) s0 ((List.range ops.size).filter fun k => listed.getD k true)).m (recAt cs i).up) → Grow g w g' w' → (∀ h, h % HMod ≠ nh + i → g h = .un → g' h = .un) → wpAny P .any ops Q fuel (listed.setIfInBounds i true) (act.put o.dst v) w' := by
      intro hf v w' g' e1 e2 e3 e4
      obtain ⟨p1, p2⟩ := put_ok (dst := o.dst) hI.size g1 e3 f1 e1
      refine ih _ _ _ (by simpa using hs) (dr_count (by omega) h2 _ hc) hcl' (fun hq => by
        rw [hq, Bool.true_and] at hf
        have hi' : i ≠ ops.size - 1 := fun e => by rw [show i + 1 = ops.size by omega, Nat.beq_refl] at hf; cases hf
        rw [dr_set_ne _ (Ne.symm hi')]; exact hnl hq) ⟨p1, (put_defers ..).trans hI.defers, g', ?_, ?_, fun h hh hn => ?_, g4.trans e3⟩
      · rw [hput]; exact p2
      · rw [hput]; exact e2
      · have hne : h % HMod ≠ nh + i := hn i h1 (dr_set_same _ _ (by omega))
        refine e4 h hne (g3 h hh fun k hk hEk => ?_)
        by_cases hki : k = i
        · subst hki; exact hne
        · exact hn k hk (by rw [dr_set_ne _ hki]; exact hEk)
    unfold wpOp
    rw [ho]
    simp only
    rw [hwant]
    cases hrun : (recAt cs i).run with
    | true =>
      rw [if_pos rfl]
      refine .inl (f4 hrun g w _ act _ _ g2 hun (fun p hp => ?_) hev (fun hf v w' g' e1 e2 e3 e4 => next hf v w' g' e1 e2 e3 e4) (fun hf v w' g' e1 e2 e3 e4 => ?_))
      · rw [t2 p.1 (List.mem_map.2 ⟨p, hp, rfl⟩)]
        exact f3.1 p hp
      · simp only [Bool.and_eq_true] at hf
        obtain ⟨hq, hf⟩ := hf
        have hiz : i = ops.size - 1 := by have := Nat.eq_of_beq_eq_true hf; omega
        have hall : ∀ k, k < ops.size → listed.getD k true = !Nat.beq k i := fun k hk => by
          by_cases hki : k = i
          · rw [hki, h2, Nat.beq_refl]; rfl
          · rw [beq_ne hki]
            have hb := hz hq k (by omega)
            rw [← hiz] at hb
            exact (bef_closed (E := fun j => listed.getD j true = true ∧ j < ops.size) (fun j hj d hd' => ⟨hcl j hj.2 hj.1 d hd', Nat.lt_trans (hup j hj.2 d hd') hj.2⟩) ops.size i k hb (fun d hd' => ⟨h3' d hd', Nat.lt_trans (hup i h1 d hd') h1⟩)).1
        have e : (List.range ops.size).filter (fun k => listed.getD k true) = List.range i := by
          have e1 : List.range ops.size = List.range i ++ [i] := by rw [← List.range_succ]; congr 1; omega
          rw [e1, List.filter_append]
          have e2 : (List.range i).filter (fun k => listed.getD k true) = List.range i := List.filter_eq_self.2 fun k hk => by
            have := List.mem_range.1 hk
            rw [hall k (by omega), beq_ne (by omega)]; rfl
          rw [e2]
          simp only [List.filter, h2, List.append_nil]
        rw [e] at g1 g2 e2
        subst hiz
        exact hP hq act w g hI.size hI.defers g1 g2 (fun h hh => g3 h (by omega) fun k hk hEk => by
          have := hall k hk
          have hEk : listed.getD k true = true := hEk
          rw [hEk] at this
          have hki : Nat.beq k (ops.size - 1) = false := by
            cases hb : Nat.beq k (ops.size - 1) with
            | false => rfl
            | true => rw [hb] at this; cases this
          intro e3
          have : k ≠ ops.size - 1 := fun e4 => by rw [e4, Nat.beq_refl] at hki; cases hki
          omega) g4 v w' g' e1 e2 e3 e4
    | false =>
      rw [if_neg (by simp)]
      obtain ⟨e1, e2⟩ := f5 hrun
      refine next ?_ undef w g (by rw [e1]; exact .und) (by rw [e2]; exact g2) (Grow.refl _ _) fun _ _ h => h
      cases hq : pz with
      | false => rfl
      | true =>
        rw [Bool.true_and]
        refine beq_ne fun e3 => ?_
        have := (hrz hq).2
        rw [show ops.size - 1 = i by omega, hrun] at this
        cases this

end
end Go.Proofs.YthboippafkcoiaaGreatDoor.am

namespace Go.Proofs.YthboippafkcoiaaGreatDoor.am
open Go
set_option linter.unusedSimpArgs false

structure LS where
  tl : List (Nat × AV)
  bl : List (Nat × Option Blk)
  nx : Nat
def lkM (bl : List (Nat × Option Blk)) : Mem := fun h => (lk bl h).join
def LS.st (s : LS) : AS := ⟨lk s.tl, lkM s.bl, s.nx⟩

/-! reckon, then go on -/
def fV (x : Value) (K : Value → Prop) : Prop := match x with
  | .int k n => K (.int k n)
  | .bool b => K (.bool b)
  | .string s => K (.string s)
  | x => K x
theorem fV_eq (x : Value) (K : Value → Prop) : fV x K = K x := by cases x <;> rfl
def fTr (t : Tr) (K : Tr → Prop) : Prop := match t with
  | .v x => fV x fun x => K (.v x)
  | .lst n B rows => K (.lst n B rows)
theorem fTr_eq (t : Tr) (K : Tr → Prop) : fTr t K = K t := by
  cases t with
  | v x => exact fV_eq x fun x => K (.v x)
  | lst n B rows => rfl
def fA1 (a : AV) (K : AV → Prop) : Prop := match a with
  | .tr t => fTr t fun t => K (.tr t)
  | a => K a
theorem fA1_eq (a : AV) (K : AV → Prop) : fA1 a K = K a := by
  cases a with
  | tr t => exact fTr_eq t fun t => K (.tr t)
  | _ => rfl
def fL : List AV → (List AV → Prop) → Prop
  | [], K => K []
  | a :: l, K => fL l fun l => fA1 a fun a => K (a :: l)
theorem fL_eq : ∀ (l : List AV) (K : List AV → Prop), fL l K = K l
  | [], K => rfl
  | a :: l, K => by unfold fL; rw [fL_eq l, fA1_eq]
def fA (a : AV) (K : AV → Prop) : Prop := match a with
  | .tr t => fTr t fun t => K (.tr t)
  | .agg l => fL l fun l => K (.agg l)
  | .tup l => fL l fun l => K (.tup l)
  | a => K a
theorem fA_eq (a : AV) (K : AV → Prop) : fA a K = K a := by
  cases a with
  | tr t => exact fTr_eq t fun t => K (.tr t)
  | agg l => exact fL_eq l fun l => K (.agg l)
  | tup l => exact fL_eq l fun l => K (.tup l)
  | _ => rfl
def fB (b : Option Blk) (K : Option Blk → Prop) : Prop := match b with
  | none => K none
  | some (.cells t l) => fL l fun l => K (some (.cells t l))
  | some b => K (some b)
theorem fB_eq (b : Option Blk) (K : Option Blk → Prop) : fB b K = K b := by
  rcases b with _ | b
  · rfl
  · cases b with
    | cells t l => exact fL_eq l fun l => K (some (.cells t l))
    | _ => rfl
def fN (n : Nat) (K : Nat → Prop) : Prop := match n with
  | 0 => K 0
  | k + 1 => K (k + 1)
theorem fN_eq (n : Nat) (K : Nat → Prop) : fN n K = K n := by cases n <;> rfl
def putL (tl : List (Nat × AV)) (dst : Option Nat) (a : AV) (K : List (Nat × AV) → Prop) : Prop := match dst with
  | some d => fA a fun a => K ((d, a) :: tl)
  | none => K tl
def putLs (tl : List (Nat × AV)) (dst : Option Nat) (a : AV) : List (Nat × AV) := match dst with
  | some d => (d, a) :: tl
  | none => tl
theorem putL_eq (tl : List (Nat × AV)) (dst : Option Nat) (a : AV) (K : List (Nat × AV) → Prop) : putL tl dst a K = K (putLs tl dst a) := by
  cases dst with
  | none => rfl
  | some d => exact fA_eq a fun a => K ((d, a) :: tl)
theorem beq_comm' (a b : Nat) : Nat.beq a b = Nat.beq b a := by
  cases h : Nat.beq a b with
  | true => rw [Nat.eq_of_beq_eq_true h, Nat.beq_refl]
  | false => cases h' : Nat.beq b a with
    | false => rfl
    | true => rw [Nat.eq_of_beq_eq_true h', Nat.beq_refl] at h; cases h
theorem putLs_lk (tl : List (Nat × AV)) (dst : Option Nat) (a : AV) : lk (putLs tl dst a) = putA (lk tl) dst a := by
  cases dst with
  | none => rfl
  | some d => funext i; show (bif Nat.beq d i then some a else lk tl i) = _; rw [beq_comm']; rfl
def putM : List (Nat × Option Blk) → List (Nat × Option Blk) → (List (Nat × Option Blk) → Prop) → Prop
  | [], bl, K => K bl
  | (h, b) :: r, bl, K => putM r bl fun bl => fB b fun b => K ((h, b) :: bl)
theorem putM_eq : ∀ (up bl : List (Nat × Option Blk)) (K : List (Nat × Option Blk) → Prop), putM up bl K = K (up ++ bl)
  | [], bl, K => rfl
  | (h, b) :: r, bl, K => by unfold putM; rw [putM_eq r, fB_eq]; rfl
theorem lk_app2 {α : Type} : ∀ (l r : List (Nat × α)) (h : Nat), lk (l ++ r) h = match lk l h with | some x => some x | none => lk r h
  | [], r, h => rfl
  | (k, x) :: l, r, h => by
      show (bif Nat.beq k h then some x else lk (l ++ r) h) = _
      rw [lk_app2 l r h, lk_cons]
      cases Nat.beq k h <;> rfl
theorem lkM_append (up bl : List (Nat × Option Blk)) : lkM (up ++ bl) = updM (lkM bl) up := by
  funext h
  unfold lkM updM
  rw [lk_app2]
  cases lk up h <;> rfl

def knowL (ops : Array Oper) (tl : List (Nat × AV)) (j : Nat) (b : Bool) : List (Nat × AV) := match ops[j]? with | some o => (match o.dst with | some d => (d, .tr (.v (.bool b))) :: tl | none => tl) | none => tl
theorem knowL_lk (ops : Array Oper) (tl : List (Nat × AV)) (j : Nat) (b : Bool) : lk (knowL ops tl j b) = gknow ops (lk tl) j b := by
  unfold knowL gknow
  cases ops[j]? with
  | none => rfl
  | some o => cases hd : o.dst with
    | none => simp only [hd]
    | some d => simp only [hd]; exact putLs_lk tl (some d) _
def fLt (l : List (Nat × AV)) (K : List (Nat × AV) → Prop) : Prop := match l with
  | [] => K []
  | p :: r => K (p :: r)
theorem fLt_eq (l : List (Nat × AV)) (K : List (Nat × AV) → Prop) : fLt l K = K l := by cases l <;> rfl
abbrev QL := AX → LS → Prop
abbrev RL := Nat → List (Nat × AV) → List (Nat × Option Blk) → Prop
/-- one operation, then the rest -/
def aopL (P : Program) (T : Ty) (N : Nat) (ops : Array Oper) (nh : Nat) (Q : QL) (o : Oper) (rest : RL) : RL := fun i tl bl =>
  bif dstOk N o.dst then
      (match o.guard with
      | none => astep P T true o (nh + i) (evA (lk tl)) (lkM bl) (fun a _ up => putL tl o.dst a fun tl => putM up bl fun bl => rest (i + 1) tl bl) (fun a _ up => putM up bl fun bl => Q (.pan a) ⟨tl, bl, nh + i + 1⟩)
      | some (j, want) => match gval ops (lk tl) j with
        | some .und => putL tl o.dst .und fun tl => rest (i + 1) tl bl
        | some (.tr (.v (.bool y))) => cond y
            (fLt (knowL ops tl j true) fun tl => gdo want (astep P T true o (nh + i) (evA (lk tl)) (lkM bl) (fun a _ up => putL tl o.dst a fun tl => putM up bl fun bl => rest (i + 1) tl bl) (fun a _ up => putM up bl fun bl => Q (.pan a) ⟨tl, bl, nh + i + 1⟩))
              (putL tl o.dst .und fun tl => rest (i + 1) tl bl))
            (fLt (knowL ops tl j false) fun tl => gdo (!want) (astep P T true o (nh + i) (evA (lk tl)) (lkM bl) (fun a _ up => putL tl o.dst a fun tl => putM up bl fun bl => rest (i + 1) tl bl) (fun a _ up => putM up bl fun bl => Q (.pan a) ⟨tl, bl, nh + i + 1⟩))
              (putL tl o.dst .und fun tl => rest (i + 1) tl bl))
        | _ => False) else False
noncomputable def aopsL (P : Program) (T : Ty) (N : Nat) (ops : Array Oper) (nh : Nat) (Q : QL) (l : List Oper) : RL :=
  List.rec (motive := fun _ => RL) (fun i tl bl => fN (nh + i) fun n => Q .normal ⟨tl, bl, n⟩) (fun o _ ih => aopL P T N ops nh Q o ih) l
theorem aopsL_nil (P : Program) (T : Ty) (N : Nat) (ops : Array Oper) (nh : Nat) (Q : QL) (i : Nat) (tl : List (Nat × AV)) (bl : List (Nat × Option Blk)) : aopsL P T N ops nh Q [] i tl bl = fN (nh + i) fun n => Q .normal ⟨tl, bl, n⟩ := rfl
theorem aopsL_cons (P : Program) (T : Ty) (N : Nat) (ops : Array Oper) (nh : Nat) (Q : QL) (o : Oper) (l : List Oper) (i : Nat) (tl : List (Nat × AV)) (bl : List (Nat × Option Blk)) : aopsL P T N ops nh Q (o :: l) i tl bl = aopL P T N ops nh Q o (aopsL P T N ops nh Q l) i tl bl := rfl
/-- what a state of lists says of one of functions -/
def Ql (Q : QL) : AX → AS → Prop := fun x s => ∃ l : LS, l.st = s ∧ Q x l
section
variable {X : Gh → World → Prop} {P : Program} {T : Ty} {k N : Nat} {ops : Array Oper} {g0 : Gh} {w0 : World}
theorem aopsL_sound (hT : TOk P T) (nh : Nat) (Q : QL) : ∀ (l : List Oper) (i : Nat) (tl : List (Nat × AV)) (bl : List (Nat × Option Blk)) (g : Gh) (act : Act) (w : World), nh + (i + l.length) ≤ HMod → aopsL P T N ops nh Q l i tl bl → StR g0 w0 N (nh + i) g act w (lk tl) (lkM bl) → wpList P ops (Post g0 w0 N (Ql Q)) l act w := by
  intro l
  induction l with
  | nil =>
    intro i tl bl g act w _ h hs
    rw [aopsL_nil, fN_eq] at h
    exact ⟨.normal, _, g, ⟨_, rfl, h⟩, ⟨hs.size, hs.defers, hs.fr, hs.mem, hs.un, hs.grow⟩, trivial⟩
  | cons o r ih =>
    intro i tl bl g act w hb h hs
    rw [List.length_cons] at hb
    have hnb : nh + i < HMod := by omega
    rw [aopsL_cons] at h
    unfold aopL at h
    cases hd : dstOk N o.dst with
    | false => rw [hd] at h; exact h.elim
    | true =>
    rw [hd, cond_true] at h
    simp only [putL_eq, putM_eq, fLt_eq] at h
    have run : ∀ (tl : List (Nat × AV)), (∀ i a, lk tl i = some a → i < N ∧ Rep g w (act.tmps.getD i undef) a) → astep P T true o (nh + i) (evA (lk tl)) (lkM bl) (fun a _ up => aopsL P T N ops nh Q r (i + 1) (putLs tl o.dst a) (up ++ bl)) (fun a _ up => Q (.pan a) ⟨tl, up ++ bl, nh + i + 1⟩) → o.wp P act w (wpList P ops (Post g0 w0 N (Ql Q)) r) (Post g0 w0 N (Ql Q)) := by
      intro tl hf h
      rcases astep_ok hnb hT h with ⟨a, rd, up, hK, hru, hw⟩ | ⟨a, rd, up, hK, hru, hw⟩
      · refine hw g w (lkM bl) act _ _ hs.mem (fun k hk => hs.un k (Nat.le_of_eq hk.symm)) hru.1 (evA_ok hf) (fun _ v w' g' e1 e2 e3 e4 => ?_) (fun h => by cases h)
        obtain ⟨p1, p2⟩ := put_ok (dst := o.dst) hs.size hf e3 hd e1
        refine ih (i + 1) (putLs tl o.dst a) (up ++ bl) g' _ w' (by omega) (hK fun _ => ⟨g', w', v, e1⟩) ⟨p1, (put_defers ..).trans hs.defers, ?_, ?_, fun h hh => e4 h (by omega) (hs.un h (by omega)), hs.grow.trans e3⟩
        · rw [putLs_lk]; exact p2
        · rw [lkM_append]; exact e2
      · refine hw g w (lkM bl) act _ _ hs.mem (fun k hk => hs.un k (Nat.le_of_eq hk.symm)) hru.1 (evA_ok hf) (fun h => by cases h) (fun _ v w' g' e1 e2 e3 e4 => ?_)
        exact ⟨.pan a, _, g', ⟨_, rfl, hK fun _ => ⟨g', w', v, e1⟩⟩, ⟨hs.size, hs.defers, fun i b hb => ⟨(hf i b hb).1, ((hf i b hb).2).grow e3⟩, by show MSt g' w' (lkM (up ++ bl)); rw [lkM_append]; exact e2, fun h (hh : nh + i + 1 ≤ h % HMod) => e4 h (by omega) (hs.un h (by omega)), hs.grow.trans e3⟩, v, rfl, e1⟩
    have skip : ∀ (tl : List (Nat × AV)), (∀ i a, lk tl i = some a → i < N ∧ Rep g w (act.tmps.getD i undef) a) → aopsL P T N ops nh Q r (i + 1) (putLs tl o.dst .und) bl → wpList P ops (Post g0 w0 N (Ql Q)) r (act.put o.dst undef) w := by
      intro tl hf h
      obtain ⟨p1, p2⟩ := put_ok (dst := o.dst) (v := undef) (a := .und) hs.size hf (Grow.refl g w) hd .und
      refine ih (i + 1) (putLs tl o.dst .und) bl g _ w (by omega) h ⟨p1, (put_defers ..).trans hs.defers, ?_, hs.mem, fun h hh => hs.un h (by omega), hs.grow⟩
      rw [putLs_lk]; exact p2
    unfold wpList
    split at h
    · rename_i hg
      rw [if_pos (by simp [Region.wanted, hg])]
      exact .inl (run tl hs.fr h)
    · rename_i j want hg
      split at h
      · rename_i hv
        have := (yielded_ok hs.size hs.fr hv).1 rfl
        rw [if_neg (by simp [Region.wanted, hg, this])]
        exact skip tl hs.fr h
      · rename_i y hv
        have hy := (yielded_ok hs.size hs.fr hv).2 y rfl
        have hk := gknow_ok hs.fr hv
        rw [← knowL_lk] at hk
        cases y <;> cases want <;> simp only [cond_true, cond_false, Bool.not_true, Bool.not_false, gdo] at h
        · rw [if_pos (by simp [Region.wanted, hg, hy])]; exact .inl (run _ hk h)
        · rw [if_neg (by simp [Region.wanted, hg, hy])]; exact skip _ hk h
        · rw [if_neg (by simp [Region.wanted, hg, hy])]; exact skip _ hk h
        · rw [if_pos (by simp [Region.wanted, hg, hy])]; exact .inl (run _ hk h)
      · exact h.elim

/-! regions that draw their order -/
abbrev RF := Nat → List (Nat × AV) → List (Nat × Option Blk) → List Ft → Prop
/-- the last operation waits for all others -/
def lastOk (ops : Array Oper) : Bool := (List.range (ops.size - 1)).all fun j => bef ops ops.size (ops.size - 1) j
def adrwL (P : Program) (T : Ty) (N : Nat) (ops : Array Oper) (nh : Nat) (QP : QL) (o : Oper) (last : Bool) (rest : RF) : RF := fun i tl bl acc =>
  bif dstOk N o.dst then
      (match o.guard with
      | none => astep P T false o (nh + i) (evR ops o (lk tl)) (lkM bl) (fun a rd up => putL tl o.dst a fun tl => putM up bl fun bl => rest (i + 1) tl bl (acc ++ [⟨rd.map (·.1), up.map (·.1)⟩]))
          (fun a rd up => gdo last (lastOk ops = true ∧ drawOk ops (acc ++ [⟨rd.map (·.1), up.map (·.1)⟩]) = true ∧ putM up bl fun bl => QP (.pan a) ⟨tl, bl, nh + i + 1⟩) False)
      | some (j, want) => match gval ops (lk tl) j with
        | some .und => putL tl o.dst .und fun tl => rest (i + 1) tl bl (acc ++ [⟨[], []⟩])
        | some (.tr (.v (.bool y))) => cond y (gdo want (astep P T false o (nh + i) (evR ops o (lk tl)) (lkM bl) (fun a rd up => putL tl o.dst a fun tl => putM up bl fun bl => rest (i + 1) tl bl (acc ++ [⟨rd.map (·.1), up.map (·.1)⟩])) (fun _ _ _ => False)) (putL tl o.dst .und fun tl => rest (i + 1) tl bl (acc ++ [⟨[], []⟩])))
            (gdo (!want) (astep P T false o (nh + i) (evR ops o (lk tl)) (lkM bl) (fun a rd up => putL tl o.dst a fun tl => putM up bl fun bl => rest (i + 1) tl bl (acc ++ [⟨rd.map (·.1), up.map (·.1)⟩])) (fun _ _ _ => False)) (putL tl o.dst .und fun tl => rest (i + 1) tl bl (acc ++ [⟨[], []⟩])))
        | _ => False) else False
noncomputable def adrawsL (P : Program) (T : Ty) (N : Nat) (ops : Array Oper) (nh : Nat) (Q : LS → Prop) (QP : QL) (l : List Oper) : RF :=
  List.rec (motive := fun _ => RF) (fun i tl bl acc => drawOk ops acc = true ∧ fN (nh + i) fun n => Q ⟨tl, bl, n⟩) (fun o r ih => adrwL P T N ops nh QP o r.isEmpty ih) l
theorem adrawsL_nil (P : Program) (T : Ty) (N : Nat) (ops : Array Oper) (nh : Nat) (Q : LS → Prop) (QP : QL) (i : Nat) (tl : List (Nat × AV)) (bl : List (Nat × Option Blk)) (acc : List Ft) : adrawsL P T N ops nh Q QP [] i tl bl acc = (drawOk ops acc = true ∧ fN (nh + i) fun n => Q ⟨tl, bl, n⟩) := rfl
theorem adrawsL_cons (P : Program) (T : Ty) (N : Nat) (ops : Array Oper) (nh : Nat) (Q : LS → Prop) (QP : QL) (o : Oper) (l : List Oper) (i : Nat) (tl : List (Nat × AV)) (bl : List (Nat × Option Blk)) (acc : List Ft) : adrawsL P T N ops nh Q QP (o :: l) i tl bl acc = adrwL P T N ops nh QP o l.isEmpty (adrawsL P T N ops nh Q QP l) i tl bl acc := rfl
theorem st_put (tl : List (Nat × AV)) (bl : List (Nat × Option Blk)) (n : Nat) (dst : Option Nat) (a : AV) (up : List (Nat × Option Blk)) : (LS.st ⟨putLs tl dst a, up ++ bl, n⟩) = (LS.st ⟨tl, bl, n⟩).put dst a up := by
  unfold LS.st AS.put
  simp only [putLs_lk, lkM_append]
/-- how a drawn region ends -/
def DrEnd (P : Program) (N : Nat) (ops : Array Oper) (nh : Nat) (Q : LS → Prop) (QP : QL) (l : List Oper) (i : Nat) (s : AS) (acc : List Ft) : Prop :=
  (∃ cs sf, Recs P N ops nh l i s cs sf ∧ drawOk ops (acc ++ cs.map Rc.ft) = true ∧ ∃ ls : LS, ls.st = { sf with nx := nh + (i + l.length) } ∧ Q ls) ∨
  ∃ pre o cs c sf, l = pre ++ [o] ∧ Recs P N ops nh pre i s cs sf ∧ dstOk N o.dst = true ∧ wants ops sf.t o true ∧ RdUp sf.m (nh + (i + pre.length)) c.rd c.up ∧
    WStep P o (nh + (i + pre.length)) (evR ops o sf.t) c.rd c.up c.a true ∧ c.run = true ∧ lastOk ops = true ∧ drawOk ops (acc ++ (cs ++ [c]).map Rc.ft) = true ∧
    ∃ ls : LS, ls.st = ⟨sf.t, updM sf.m c.up, nh + (i + pre.length) + 1⟩ ∧ QP (.pan c.a) ls
theorem DrEnd.cons {nh : Nat} {Q : LS → Prop} {QP : QL} {o : Oper} {r : List Oper} {i : Nat} {s : AS} {acc : List Ft} {c : Rc} (h : DrEnd P N ops nh Q QP r (i + 1) (s.put o.dst c.a c.up) (acc ++ [c.ft]))
    (hd : dstOk N o.dst = true) (hw : wants ops s.t o c.run) (hru : RdUp s.m (nh + i) c.rd c.up) (h1 : c.run = true → WStep P o (nh + i) (evR ops o s.t) c.rd c.up c.a false) (h2 : c.run = false → c.a = .und ∧ c.up = []) :
    DrEnd P N ops nh Q QP (o :: r) i s acc := by
  rcases h with ⟨cs, sf, q1, q2, ls, q3, q4⟩ | ⟨pre, o', cs, c', sf, rfl, q1, q2, q3, q4, q5, q6, q7, q8, ls, q9, q10⟩
  · refine .inl ⟨c :: cs, sf, ⟨hd, hw, hru, h1, h2, q1⟩, by simpa using q2, ls, ?_, q4⟩
    rw [q3, List.length_cons, show i + 1 + r.length = i + (r.length + 1) by omega]
  · have e : i + 1 + pre.length = i + (o :: pre).length := by rw [List.length_cons]; omega
    rw [e] at q4 q5 q9
    exact .inr ⟨o :: pre, o', c :: cs, c', sf, rfl, ⟨hd, hw, hru, h1, h2, q1⟩, q2, q3, q4, q5, q6, q7, by simpa using q8, ls, q9, q10⟩
theorem adrawsL_recs (hT : TOk P T) (nh : Nat) (Q : LS → Prop) (QP : QL) (n : Nat) : ∀ (l : List Oper) (i : Nat) (tl : List (Nat × AV)) (bl : List (Nat × Option Blk)) (acc : List Ft), nh + (i + l.length) ≤ HMod → adrawsL P T N ops nh Q QP l i tl bl acc → DrEnd P N ops nh Q QP l i (LS.st ⟨tl, bl, n⟩) acc := by
  intro l
  induction l with
  | nil =>
    intro i tl bl acc _ h
    rw [adrawsL_nil, fN_eq] at h
    exact .inl ⟨[], _, rfl, by simpa using h.1, _, rfl, h.2⟩
  | cons o r ih =>
    intro i tl bl acc hb h
    rw [List.length_cons] at hb
    have hnb : nh + i < HMod := by omega
    rw [adrawsL_cons] at h
    unfold adrwL at h
    cases hd : dstOk N o.dst with
    | false => rw [hd] at h; exact h.elim
    | true =>
    rw [hd, cond_true] at h
    simp only [putL_eq, putM_eq] at h
    have run : ∀ (Pn : KK), (∀ a rd up, Pn a rd up → r = [] ∧ lastOk ops = true ∧ drawOk ops (acc ++ [⟨rd.map (·.1), up.map (·.1)⟩]) = true ∧ QP (.pan a) ⟨tl, up ++ bl, nh + i + 1⟩) →
        astep P T false o (nh + i) (evR ops o (lk tl)) (lkM bl) (fun a rd up => adrawsL P T N ops nh Q QP r (i + 1) (putLs tl o.dst a) (up ++ bl) (acc ++ [⟨rd.map (·.1), up.map (·.1)⟩])) Pn → wants ops (lk tl) o true →
        DrEnd P N ops nh Q QP (o :: r) i (LS.st ⟨tl, bl, n⟩) acc := by
      intro Pn hPn h hw
      rcases astep_ok hnb hT h with ⟨a, rd, up, hK, hru, hws⟩ | ⟨a, rd, up, hK, hru, hws⟩
      · have h1 := ih (i + 1) _ _ _ (by omega) (hK (fun h => by cases h))
        rw [st_put] at h1
        exact DrEnd.cons (c := ⟨a, rd, up, true⟩) h1 hd hw hru (fun _ => hws) (fun h => by cases h)
      · obtain ⟨rfl, h1, h2, h3⟩ := hPn _ _ _ (hK (fun h => by cases h))
        refine .inr ⟨[], o, [], ⟨a, rd, up, true⟩, _, rfl, rfl, hd, hw, hru, hws, rfl, h1, h2, _, ?_, h3⟩
        show (⟨lk tl, lkM (up ++ bl), nh + i + 1⟩ : AS) = ⟨lk tl, updM (lkM bl) up, nh + (i + 0) + 1⟩
        rw [lkM_append]; rfl
    have skip : adrawsL P T N ops nh Q QP r (i + 1) (putLs tl o.dst .und) bl (acc ++ [⟨[], []⟩]) → wants ops (lk tl) o false → DrEnd P N ops nh Q QP (o :: r) i (LS.st ⟨tl, bl, n⟩) acc := by
      intro h hw
      have h1 := ih (i + 1) _ _ _ (by omega) h
      rw [show LS.st ⟨putLs tl o.dst .und, bl, n⟩ = (LS.st ⟨tl, bl, n⟩).put o.dst .und [] from st_put tl bl n o.dst .und []] at h1
      exact DrEnd.cons (c := ⟨.und, [], [], false⟩) h1 hd hw ⟨by simp, by simp⟩ (fun h => by cases h) (fun _ => ⟨rfl, rfl⟩)
    split at h
    · rename_i hg
      refine run _ (fun a rd up hp => ?_) h (by simp [wants, hg])
      cases r with
      | nil => exact ⟨rfl, hp⟩
      | cons => exact hp.elim
    · rename_i j want hg
      split at h
      · rename_i hv
        exact skip h (by simp [wants, hg, hv])
      · rename_i y hv
        cases y <;> cases want <;> simp only [cond_true, cond_false, Bool.not_true, Bool.not_false, gdo] at h
        · exact run _ (fun _ _ _ h => h.elim) h (by simp [wants, hg, hv])
        · exact skip h (by simp [wants, hg, hv])
        · exact skip h (by simp [wants, hg, hv])
        · exact run _ (fun _ _ _ h => h.elim) h (by simp [wants, hg, hv])
      · exact h.elim
noncomputable def adrawL (P : Program) (T : Ty) (N : Nat) (ops : Array Oper) (Q : QL) (s : LS) : Prop :=
  adrawsL P T N ops s.nx (fun s' => SOk s'.st → Q .normal s') Q ops.toList 0 s.tl s.bl []
theorem adrawL_sound (hT : TOk P T) (hmix : P.follows .mixedOrders = true) {Q : QL} {s : LS} (hb : s.nx + ops.size ≤ HMod) (h : adrawL P T N ops Q s) {g : Gh} {w : World} {act : Act} (hs : St g0 w0 N g act w s.st) {id : Nat} : (Code.region id ops true).wp P (Post g0 w0 N (Ql Q)) act w := by
  have hInv : ∀ (R : Nat → Rc), Inv g0 w0 N ops s.nx R s.st (fun i => (Array.replicate ops.size false).getD i true) act { w with drawn := w.drawn + 1 } := by
    intro R
    refine ⟨hs.size, hs.defers, g, ?_⟩
    have e : (List.range ops.size).filter (fun i => (Array.replicate ops.size false).getD i true) = [] := by
      rw [List.filter_eq_nil_iff]
      intro k hk
      have := List.mem_range.1 hk
      simp [Array.getD, this]
    rw [e]
    have hg : Grow g w g { w with drawn := w.drawn + 1 } := ⟨rfl, rfl, rfl, Nat.le_refl _, fun _ _ => rfl, fun _ _ => rfl, rfl, fun _ h => h, fun _ _ h => .inl h, fun h b e => .inl ⟨h, e⟩⟩
    refine ⟨fun i a ha => ⟨(hs.fr i a ha).1, ((hs.fr i a ha).2).grow hg⟩, ⟨fun k b hb => ?_, hs.mem.inj, hs.mem.lt, hs.mem.xlt, hs.mem.xl, hs.mem.gl.grow hg⟩, fun h hh _ => hs.un h hh, hs.grow.trans hg⟩
    obtain ⟨l, e1, e2⟩ := hs.mem.blk k b hb
    exact ⟨l, e1, e2.grow hg fun _ _ => rfl⟩
  have hli : ∀ i, i < ops.size → (Array.replicate ops.size false).getD i true = true → ∀ d ∈ deps ops i, (Array.replicate ops.size false).getD d true = true := fun i hi hl => by simp [Array.getD, hi] at hl
  refine wp_region_any hmix ?_
  rcases adrawsL_recs hT _ _ _ s.nx _ _ _ _ _ (by simpa using hb) h with ⟨cs, sf, h1, h2, ls, h3, h4⟩ | ⟨pre, o, cs, c, sf, hl, h1, hd, hw, hru, hws, hrun, hlast, h2, ls, h3, h4⟩
  · obtain ⟨q1, q2, q3⟩ := Recs.at (R := recAt cs) (s0 := s.st) ops.toList 0 s.st cs sf h1 (fun j => by simp) (fun j _ => by simp) rfl
    simp only [Nat.zero_add, Array.length_toList] at q1 q2 q3 h3
    refine draw_any (nh := s.nx) (s0 := s.st) (g0 := g0) (w0 := w0) (N := N) (by simpa using h2) rfl (fun i o ho => q3 i o (by simpa using ho)) (fun act w g hst => ?_) ops.size _ act _ (by simp) (Nat.le_trans List.countP_le_length (by simp)) hli (hInv _)
    rw [← q1] at hst
    rw [← h3] at hst
    exact ⟨.normal, _, g, ⟨ls, rfl, h4 hst.ok⟩, hst, trivial⟩
  · have hsz : ops.size = pre.length + 1 := by rw [← Array.length_toList, hl]; simp
    have hget : ∀ j : Nat, ops[j]? = (pre ++ [o])[j]? := fun j => by
      have e : ops[j]? = ops.toList[j]? := by simp
      rw [e, hl]
    have hcl : cs.length = pre.length := (Recs.at2 (R := recAt cs) (s0 := s.st) pre 0 s.st cs sf h1 (fun j o' ho' => by rw [Nat.zero_add, hget, List.getElem?_append_left (List.getElem?_eq_some_iff.1 ho').1]; exact ho') (fun j _ => by rw [Nat.zero_add]) rfl).2.1
    have hR1 : ∀ j, j < pre.length → recAt (cs ++ [c]) j = recAt cs j := fun j hj => by unfold recAt; rw [List.getD_eq_getElem?_getD, List.getD_eq_getElem?_getD, List.getElem?_append_left (by omega)]
    have hR2 : recAt (cs ++ [c]) pre.length = c := by unfold recAt; rw [List.getD_eq_getElem?_getD, List.getElem?_append_right (by omega), hcl, Nat.sub_self]; rfl
    obtain ⟨q1, q2, q3⟩ := Recs.at2 (R := recAt (cs ++ [c])) (s0 := s.st) pre 0 s.st cs sf h1 (fun j o' ho' => by rw [Nat.zero_add, hget, List.getElem?_append_left (List.getElem?_eq_some_iff.1 ho').1]; exact ho') (fun j hj => by rw [Nat.zero_add]; exact hR1 j hj) rfl
    simp only [Nat.zero_add] at q1 q3 hru hws h3
    have hz1 : ops.size - 1 = pre.length := by omega
    refine draw_any2 (pz := true) (nh := s.nx) (s0 := s.st) (g0 := g0) (w0 := w0) (N := N) (cs := cs ++ [c]) (by simpa using h2) rfl (fun i o' ho' => ?_) (fun _ j hj => ?_) (fun _ act w g a1 a2 a3 a4 a5 a6 v w' g' b1 b2 b3 b4 => ?_) (fun _ => ⟨by omega, by rw [hz1, hR2]; exact hrun⟩) (fun _ _ _ h => by cases h)
      ops.size _ act _ (by simp) (Nat.le_trans List.countP_le_length (by simp)) hli (fun _ => by rw [Array.getD, dif_pos (by simp; omega)]; simp) (hInv _)
    · rw [hget] at ho'
      by_cases hi : i < pre.length
      · rw [List.getElem?_append_left hi] at ho'
        have := q3 i o' ho'
        rw [show (true && Nat.beq (i + 1) ops.size) = false by rw [Bool.true_and]; exact beq_ne (by omega)]
        exact this
      · have hi' : i = pre.length := by
          have := (List.getElem?_eq_some_iff.1 ho').1
          simp at this
          omega
        subst hi'
        rw [List.getElem?_append_right (Nat.le_refl _), Nat.sub_self] at ho'
        cases ho'
        rw [show (true && Nat.beq (pre.length + 1) ops.size) = true by rw [Bool.true_and, hsz, Nat.beq_refl], hR2, ← q1]
        exact ⟨hd, by rw [hrun]; exact hw, hru, fun _ => hws, fun h => by rw [hrun] at h; cases h⟩
    · unfold lastOk at hlast
      exact List.all_eq_true.1 hlast j (List.mem_range.2 (by omega))
    · rw [hz1] at a3 a4 a5 b1 b2 b4
      rw [hR2] at b1 b2
      rw [← q1] at a3 a4 b2
      refine ⟨.pan c.a, ls.st, g', ⟨ls, rfl, h4⟩, ?_, v, rfl, b1⟩
      rw [h3]
      exact ⟨a1, a2, fun i b hb => ⟨(a3 i b hb).1, ((a3 i b hb).2).grow b3⟩, b2, fun h (hh : s.nx + pre.length + 1 ≤ h % HMod) => b4 h (by omega) (a5 h (by omega)), a6.trans b3⟩

/-- a loop's state: slots, blocks, handles -/
structure LJ where
  tl : List (Nat × AV)
  bl : List (Nat × Blk)
  nx : Nat
/-! code -/
def thnL (next : LS → Prop) (Q : QL) : QL
  | .normal, s => next s
  | x, s => Q x s
def blkL (id : Nat) (Q : QL) : QL
  | .exit i, s => (i = id → Q .normal s) ∧ (i ≠ id → Q (.exit i) s)
  | x, s => Q x s
def mkL (tl : List (Nat × AV)) (bl : List (Nat × Blk)) (nx : Nat) : LS := ⟨tl, bl.map fun p => (p.1, some p.2), nx⟩
theorem mkL_st (tl : List (Nat × AV)) (bl : List (Nat × Blk)) (nx : Nat) : (mkL tl bl nx).st = mkS tl bl nx := by
  unfold mkL LS.st mkS
  congr 1
  funext h
  unfold lkM
  simp only
  induction bl with
  | nil => rfl
  | cons p r ih =>
    obtain ⟨k, x⟩ := p
    rw [List.map_cons, lk_cons, lk_cons]
    cases Nat.beq k h with
    | true => rfl
    | false => exact ih
/-- a loop that goes round so many times -/
noncomputable def LoopU (body : QL → LS → Prop) (Q : QL) (n : Nat) : LS → Prop := Nat.rec (motive := fun _ => LS → Prop) (fun _ => False) (fun _ ih s => body (thnL ih Q) s) n
def LoopL (k : Nat) (body : QL → LS → Prop) (Q : QL) (s : LS) : Prop :=
  (∃ n, LoopU body Q n s) ∨ ∃ (σ : Type) (J : σ → LJ) (I : σ → Prop) (μ : σ → Nat) (x0 : σ) (ρ nl : List Nat), Sub k ρ nl s.st (mkS (J x0).tl (J x0).bl (J x0).nx) ∧ I x0 ∧
    ∀ x, I x → SOk (mkS (J x).tl (J x).bl (J x).nx) → body (thnL (fun s' => ∃ x' ρ nl, Sub k ρ nl s'.st (mkS (J x').tl (J x').bl (J x').nx) ∧ I x' ∧ μ x' < μ x) Q) (mkL (J x).tl (J x).bl (J x).nx)
theorem LoopL.by {k : Nat} {body : QL → LS → Prop} {Q : QL} {s : LS} {σ : Type} (J : σ → LJ) (I : σ → Prop) (μ : σ → Nat) (x0 : σ) (ρ nl : List Nat) (h0 : Sub k ρ nl s.st (mkS (J x0).tl (J x0).bl (J x0).nx)) (hI : I x0)
    (h : ∀ x, I x → SOk (mkS (J x).tl (J x).bl (J x).nx) → fN (J x).nx fun n => body (thnL (fun s' => ∃ x' ρ nl, Sub k ρ nl s'.st (mkS (J x').tl (J x').bl (J x').nx) ∧ I x' ∧ μ x' < μ x) Q) (mkL (J x).tl (J x).bl n)) : LoopL k body Q s := .inr ⟨σ, J, I, μ, x0, ρ, nl, h0, hI, fun x hI hok => (fN_eq _ _).mp (h x hI hok)⟩
theorem LoopL.un {k : Nat} {body : QL → LS → Prop} {Q : QL} {s : LS} (n : Nat) (h : LoopU body Q n s) : LoopL k body Q s := .inl ⟨n, h⟩
abbrev WL := QL → LS → Prop
noncomputable def regL (P : Program) (T : Ty) (N : Nat) (ops : Array Oper) (draw : Bool) : WL := fun Q s => match draw with
  | true => bif Nat.ble (s.nx + ops.size) HMod then adrawL P T N ops Q s else False
  | false => match s with
    | ⟨tl, bl, nx⟩ => bif Nat.ble (nx + ops.size) HMod then aopsL P T N ops nx Q ops.toList 0 tl bl else False
/-- a region whose step is shown by hand -/
noncomputable def regX (X : Gh → World → Prop) (P : Program) (T : Ty) (k N : Nat) (x : Bool) (id : Nat) (ops : Array Oper) (draw : Bool) : WL := match x with
  | true => fun Q s => Wp X P k N (.region id ops draw) (Ql Q) s.st
  | false => regL P T N ops draw
/-- a cut between two pieces of code: what holds there -/
def CutL (k : Nat) (a b : WL) (Q : QL) (s : LS) : Prop :=
  ∃ (σ : Type) (J : σ → LJ) (I : σ → Prop), a (thnL (fun s' => ∃ x ρ nl, Sub k ρ nl s'.st (mkS (J x).tl (J x).bl (J x).nx) ∧ I x) Q) s ∧
    ∀ x, I x → SOk (mkS (J x).tl (J x).bl (J x).nx) → b Q (mkL (J x).tl (J x).bl (J x).nx)
theorem CutL.by {k : Nat} {a b : WL} {Q : QL} {s : LS} {σ : Type} (J : σ → LJ) (I : σ → Prop) (h1 : a (thnL (fun s' => ∃ x ρ nl, Sub k ρ nl s'.st (mkS (J x).tl (J x).bl (J x).nx) ∧ I x) Q) s)
    (h2 : ∀ x, I x → SOk (mkS (J x).tl (J x).bl (J x).nx) → fN (J x).nx fun n => b Q (mkL (J x).tl (J x).bl n)) : CutL k a b Q s := ⟨σ, J, I, h1, fun x hI hok => (fN_eq _ _).mp (h2 x hI hok)⟩
/-- the number of the first region of a piece of code -/
noncomputable def firstId (c : Code) : Nat := Code.rec (motive := fun _ => Nat) 0 (fun id _ _ => id) (fun _ _ a _ => a) (fun _ _ _ i _ => 1000000 + i) (fun _ _ c => c) (fun _ c => c) (fun _ _ _ _ _ _ => 0) (fun _ => 0) (fun _ _ => 0) (fun _ => 0) (fun _ => 0) 0 (fun _ => 0) c
def seqL (k : Nat) (cut : Bool) (a b : WL) : WL := fun Q s => match cut with
  | true => CutL k a b Q s
  | false => a (thnL (b Q) Q) s
def condL (c : Operand) (a b : WL) : WL := fun Q s => acond (evA (lk s.tl) c) (a Q s) (b Q s)
noncomputable def awpL (X : Gh → World → Prop) (P : Program) (T : Ty) (k N : Nat) (cuts : List Nat) (c : Code) : WL :=
  Code.rec (motive := fun _ => WL) (fun Q s => Q .normal s) (fun id ops draw => regX X P T k N (has cuts (2000000 + id)) id ops draw) (fun _ cb a b => seqL k (has cuts (firstId cb)) a b) (fun c _ _ a b => condL c a b)
    (fun id _ c => fun Q s => c (blkL id Q) s) (fun _ c => fun Q s => LoopL k c Q s) (fun _ _ _ _ _ _ => fun _ _ => False) (fun id => fun Q s => Q (.exit id) s)
    (fun _ _ => fun _ _ => False) (fun _ => fun _ _ => False) (fun _ => fun _ _ => False) (fun Q s => Q .ret s) (fun _ => fun _ _ => False) c
theorem regL_sound (hT : TOk P T) (hmix : P.follows .mixedOrders = true) (id : Nat) (ops : Array Oper) : ∀ (draw : Bool) (Q : QL) (s : LS), regL P T N ops draw Q s → Wp X P k N (.region id ops draw) (Ql Q) s.st
  | false, Q, ⟨tl, bl, nx⟩, h => fun g0 g w0 w act hk hs => by
      have h : (bif Nat.ble (nx + ops.size) HMod then aopsL P T N ops nx Q ops.toList 0 tl bl else False) := h
      cases hb : Nat.ble (nx + ops.size) HMod with
      | false => rw [hb] at h; exact h.elim
      | true =>
        rw [hb, cond_true] at h
        exact wp_region_list (aopsL_sound hT nx Q ops.toList 0 tl bl g act w (by simpa using Nat.le_of_ble_eq_true hb) h ⟨hs.size, hs.defers, hs.fr, hs.mem, hs.un, hs.grow⟩)
  | true, Q, s, h => fun g0 g w0 w act hk hs => by
      have h : (bif Nat.ble (s.nx + ops.size) HMod then adrawL P T N ops Q s else False) := h
      cases hb : Nat.ble (s.nx + ops.size) HMod with
      | false => rw [hb] at h; exact h.elim
      | true =>
        rw [hb, cond_true] at h
        exact adrawL_sound hT hmix (Nat.le_of_ble_eq_true hb) h hs
theorem awpL_sound {cuts : List Nat} (hT : TOk P T) (hmix : P.follows .mixedOrders = true) : ∀ (c : Code) (Q : QL) (s : LS), awpL X P T k N cuts c Q s → Wp X P k N c (Ql Q) s.st
  | .skip, Q, s, h => fun g0 g w0 w act hk hs => wp_skip ⟨.normal, s.st, g, ⟨s, rfl, h⟩, hs, trivial⟩
  | .region id ops draw, Q, s, h => by
      have h : regX X P T k N (has cuts (2000000 + id)) id ops draw Q s := h
      cases hx : has cuts (2000000 + id) with
      | true => rw [hx] at h; exact h
      | false => rw [hx] at h; exact regL_sound hT hmix id ops draw Q s h
  | .seq a b, Q, s, h => by
      have h : seqL k (has cuts (firstId b)) (awpL X P T k N cuts a) (awpL X P T k N cuts b) Q s := h
      unfold seqL at h
      split at h
      · obtain ⟨σ, J, I, h1, h2⟩ := h
        refine Wp.seq ((awpL_sound hT hmix a _ s h1).mono fun x s' hx => ?_)
        obtain ⟨ls, rfl, hx⟩ := hx
        cases x with
        | normal =>
          obtain ⟨x, ρ, nl, hsub, hI⟩ := hx
          intro g0 g w0 w act hk hs
          obtain ⟨g', hst⟩ := hsub.st hk.2 hs
          have := awpL_sound hT hmix b Q _ (h2 x hI hst.ok)
          rw [mkL_st] at this
          exact this g0 _ w0 w act hk hst
        | _ => exact ⟨ls, rfl, hx⟩
      · refine Wp.seq ((awpL_sound hT hmix a _ s h).mono fun x s' hx => ?_)
        obtain ⟨ls, rfl, hx⟩ := hx
        cases x with
        | normal => exact awpL_sound hT hmix b Q ls hx
        | _ => exact ⟨ls, rfl, hx⟩
  | .cond c a b, Q, s, h => fun g0 g w0 w act hk hs => by
      change acond (evA (lk s.tl) c) (awpL X P T k N cuts a Q s) (awpL X P T k N cuts b Q s) at h
      unfold acond at h
      split at h
      · rename_i y hy
        obtain ⟨e, _⟩ := val_inv (evA_ok hs.fr _ _ hy)
        exact wp_cond_split e (fun ht => awpL_sound hT hmix a Q s (by rw [ht] at h; exact h) g0 g w0 w act hk hs) (fun hf => awpL_sound hT hmix b Q s (by rw [hf] at h; exact h) g0 g w0 w act hk hs)
      · exact h.elim
  | .block id c, Q, s, h => Wp.block ((awpL_sound hT hmix c _ s h).mono fun x s' hx => by
      obtain ⟨ls, rfl, hx⟩ := hx
      cases x with
      | exit i => exact ⟨fun e => ⟨ls, rfl, hx.1 e⟩, fun e => ⟨ls, rfl, hx.2 e⟩⟩
      | _ => exact ⟨ls, rfl, hx⟩)
  | .loop c, Q, s, h => by
      rcases h with ⟨n, h⟩ | ⟨σ, J, I, μ, x0, ρ, nl, h0, hI, hr⟩
      · intro g0 g w0 w act hk hs
        refine wp_loop_rounds n ?_
        revert s g w act
        induction n with
        | zero => intro s h; exact h.elim
        | succ n ih =>
          intro s h g w act hs
          have h : awpL X P T k N cuts c (thnL (LoopU (awpL X P T k N cuts c) Q n) Q) s := h
          refine Go.wp_mono (awpL_sound hT hmix c _ s h g0 g w0 w act hk hs) ?_
          rintro e act' w' ⟨x, s', g', h1, h2, h3⟩
          obtain ⟨ls, rfl, h1⟩ := h1
          cases x with
          | normal =>
            cases e with
            | normal => exact ih ls h1 g' w' act' h2
            | _ => exact h3.elim
          | _ => cases e <;> first | exact h3.elim | exact ⟨_, ls.st, g', ⟨ls, rfl, h1⟩, h2, h3⟩
      refine Wp.loop (fun x => mkS (J x).tl (J x).bl (J x).nx) I μ x0 h0 hI fun x hI hok => ?_
      have := awpL_sound hT hmix c _ _ (hr x hI hok)
      rw [mkL_st] at this
      refine this.mono fun y s' hy => ?_
      obtain ⟨ls, rfl, hy⟩ := hy
      cases y with
      | normal => exact hy
      | _ => exact ⟨ls, rfl, hy⟩
  | .exit id, Q, s, h => fun g0 g w0 w act hk hs => wp_exit ⟨.exit id, s.st, g, ⟨s, rfl, h⟩, hs, rfl⟩
  | .ret, Q, s, h => fun g0 g w0 w act hk hs => wp_ret ⟨.ret, s.st, g, ⟨s, rfl, h⟩, hs, trivial⟩
  | .rangeFunc .., _, _, h => h.elim
  | .scope _, _, _, h => h.elim
  | .label _, _, _, h => h.elim
  | .goto _, _, _, h => h.elim
  | .refuse _, _, _, h => h.elim
end
/-! functions -/
def numL : Nat → List AV → List (Nat × AV)
  | _, [] => []
  | i, a :: l => (i, a) :: numL (i + 1) l
def numB : Nat → List Blk → List (Nat × Option Blk)
  | _, [] => []
  | i, a :: l => (i, some a) :: numB (i + 1) l
theorem numL_lk : ∀ (l : List AV) (i j : Nat), lk (numL i l) j = if i ≤ j then l[j - i]? else none
  | [], i, j => by simp [numL, lk]
  | a :: l, i, j => by
      unfold numL
      rw [lk_cons, numL_lk l (i + 1) j]
      by_cases h : i = j
      · subst h; simp
      · rw [beq_ne h, cond_false]
        by_cases h2 : i ≤ j
        · rw [if_pos (by omega), if_pos h2, show j - i = (j - (i + 1)) + 1 by omega]; rfl
        · rw [if_neg (by omega), if_neg h2]
theorem numB_lk : ∀ (l : List Blk) (i j : Nat), lkM (numB i l) j = if i ≤ j then l[j - i]? else none
  | [], i, j => by simp [numB, lkM, lk]
  | a :: l, i, j => by
      have ih := numB_lk l (i + 1) j
      unfold lkM at ih ⊢
      unfold numB
      rw [lk_cons]
      by_cases h : i = j
      · subst h; simp
      · rw [beq_ne h, cond_false, ih]
        by_cases h2 : i ≤ j
        · rw [if_pos (by omega), if_pos h2, show j - i = (j - (i + 1)) + 1 by omega]; rfl
        · rw [if_neg (by omega), if_neg h2]
def initL (args : List AV) (bin : List Blk) : LS := ⟨numL 0 args, numB 0 bin, bin.length⟩
theorem initL_st (args : List AV) (bin : List Blk) : (initL args bin).st = AS.init args bin := by
  unfold initL LS.st AS.init
  congr 1
  · funext i; exact (numL_lk args 0 i).trans (by simp)
  · funext i; exact (numB_lk bin 0 i).trans (by simp [ofL])
/-- a function's contract, from its code: the machine over lists -/
theorem Ctr.cut (cuts : List Nat) {P : Program} {T : Ty} (hT : TOk P T) (hmix : P.follows .mixedOrders = true) {f : Nat} {fn : Func} {c : Code} (hf : P.funcs[f]? = some fn) (hb : fn.body = some c) (hcall : Callable P f) {args : List AV} {bin : List Blk} {res : AE} {bout : List (Option Blk)}
    (hN : Nat.ble args.length fn.ntmps = true) (h : SOk (AS.init args bin) → awpL XT P T bin.length fn.ntmps cuts c (fun x s => afin T bin.length fn.results.toList res bout x s.st) (initL args bin)) (hbo : Nat.beq bout.length bin.length = true := by rfl) : Ctr P f args bin res bout :=
  Ctr.intro (hbo := hbo) hT hf hb hcall hN fun hok => by
    have := awpL_sound hT hmix c _ _ (h hok)
    rw [initL_st] at this
    exact this.mono fun x s hx => by obtain ⟨ls, rfl, hx⟩ := hx; exact hx
theorem Ctr.of {P : Program} {T : Ty} (hT : TOk P T) (hmix : P.follows .mixedOrders = true) {f : Nat} {fn : Func} {c : Code} (hf : P.funcs[f]? = some fn) (hb : fn.body = some c) (hcall : Callable P f) {args : List AV} {bin : List Blk} {res : AE} {bout : List (Option Blk)}
    (hN : Nat.ble args.length fn.ntmps = true) (h : SOk (AS.init args bin) → awpL XT P T bin.length fn.ntmps [] c (fun x s => afin T bin.length fn.results.toList res bout x s.st) (initL args bin)) (hbo : Nat.beq bout.length bin.length = true := by rfl) : Ctr P f args bin res bout :=
  Ctr.cut (hbo := hbo) [] hT hmix hf hb hcall hN h
/-- a function that leaves new blocks: ρ lists the handles that are imported, and behind them the new ones -/
theorem Ctr.new (cuts : List Nat) {P : Program} {T : Ty} (hT : TOk P T) (hmix : P.follows .mixedOrders = true) {f : Nat} {fn : Func} {c : Code} (hf : P.funcs[f]? = some fn) (hb : fn.body = some c) (hcall : Callable P f) {args : List AV} {bin : List Blk} {res : AE} {bout : List (Option Blk)}
    (hN : Nat.ble args.length fn.ntmps = true) (h : SOk (AS.init args bin) → awpL XT P T bin.length fn.ntmps cuts c (fun x s => ∃ ρ, rhoOk bin.length ρ = true ∧ ρ.length = bout.length ∧ afinR T ρ fn.results.toList res bout x s.st) (initL args bin)) : Ctr P f args bin res bout :=
  Ctr.introR hT hf hb hcall hN fun hok => by
    have := awpL_sound hT hmix c _ _ (h hok)
    rw [initL_st] at this
    exact this.mono fun x s hx => by obtain ⟨ls, rfl, hx⟩ := hx; exact hx
/-- the same, where slices go back to their cells ahead of the return: hs lists the handles of those that have them within -/
theorem Ctr.pk (cuts : List Nat) {P : Program} {T : Ty} (hT : TOk P T) (hmix : P.follows .mixedOrders = true) {f : Nat} {fn : Func} {c : Code} (hf : P.funcs[f]? = some fn) (hb : fn.body = some c) (hcall : Callable P f) {args : List AV} {bin : List Blk} {res : AE} {bout : List (Option Blk)}
    (hN : Nat.ble args.length fn.ntmps = true) (h : SOk (AS.init args bin) → awpL XT P T bin.length fn.ntmps cuts c (fun x s => ∃ hs, apacks hs s.st.m fun m => ∃ ρ, rhoOk bin.length ρ = true ∧ ρ.length = bout.length ∧ afinR T ρ fn.results.toList res bout x ⟨s.st.t, m, s.st.nx⟩) (initL args bin)) : Ctr P f args bin res bout :=
  Ctr.introP hT hf hb hcall hN fun hok => by
    have := awpL_sound hT hmix c _ _ (h hok)
    rw [initL_st] at this
    exact this.mono fun x s hx => by obtain ⟨ls, rfl, hx⟩ := hx; exact hx
end Go.Proofs.YthboippafkcoiaaGreatDoor.am

namespace Go.Proofs.YthboippafkcoiaaGreatDoor.am
open Go

theorem acall.gen {P : Program} {m : Mem} {nh f : Nat} {xs : List AV} {K : EE} (ρ sn : List Nat) (as : List AV) (bin : List Blk) (res : AE) (bout : List (Option Blk)) (h : Ctr P f as bin res bout)
    (h1 : decide ρ.Nodup = true) (h2 : Nat.beq ρ.length bin.length = true) (h3 : Nat.beq bout.length bin.length = true) (h4 : boutOk ρ.length bout = true) (h5 : cvL m ρ [] (seenS ρ sn) xs as)
    (h6 : cvO m ρ (seenS ρ sn) 0 (bin.map some)) (h7 : (ρ ++ sn).all (fun k => (m k).isSome) = true) (h8 : res.lowH ρ.length = true)
    (hK : K (res.out ρ) (rdOf m (ρ ++ sn)) (callUp ρ sn res bout)) : acall P m nh f xs K := by
  refine ⟨ρ, ρ, sn, as, bin, res, bout, ⟨h, of_decide_eq_true h1, Nat.eq_of_beq_eq_true h2, by rw [Nat.sub_self]; simp [fresh], (Nat.eq_of_beq_eq_true h3).trans (Nat.eq_of_beq_eq_true h2).symm, h4, h5, ?_, fun k hk => ?_, h8⟩, hK⟩
  · have := cvO_ok h6
    have e : ofLO (bin.map some) = ofL bin := by
      funext i
      unfold ofLO ofL
      rw [List.getElem?_map]
      cases bin[i]? <;> rfl
    rw [e] at this
    exact this
  · exact Option.isSome_iff_exists.1 (List.all_eq_true.1 h7 k hk)
/-- the same; what is by computation is left out where it is used -/
theorem acall.au {P : Program} {m : Mem} {nh f : Nat} {xs : List AV} {K : EE} (ρ sn : List Nat) {as : List AV} {bin : List Blk} {res : AE} {bout : List (Option Blk)} (h : Ctr P f as bin res bout)
    (hK : K (res.out ρ) (rdOf m (ρ ++ sn)) (callUp ρ sn res bout))
    (h5 : cvL m ρ [] (seenS ρ sn) xs as := by repeat' (first | exact trivial | exact Or.inl (ti_succ (by assumption) (by assumption)) | exact Or.inl rfl | exact rfl | exact Nat.le_refl _ | apply And.intro))
    (h6 : cvO m ρ (seenS ρ sn) 0 (bin.map some) := by repeat' (first | exact trivial | exact Or.inl (ti_succ (by assumption) (by assumption)) | exact Or.inl rfl | exact rfl | exact Nat.le_refl _ | apply And.intro))
    (h1 : decide ρ.Nodup = true := by exact rfl) (h2 : Nat.beq ρ.length bin.length = true := by exact rfl) (h3 : Nat.beq bout.length bin.length = true := by exact rfl) (h4 : boutOk ρ.length bout = true := by exact rfl)
    (h7 : (ρ ++ sn).all (fun k => (m k).isSome) = true := by exact rfl) (h8 : res.lowH ρ.length = true := by exact rfl) : acall P m nh f xs K := acall.gen ρ sn as bin res bout h h1 h2 h3 h4 h5 h6 h7 h8 hK
/-- numbers, reckoned -/
def fNs : List Nat → (List Nat → Prop) → Prop
  | [], K => K []
  | a :: l, K => fN a fun a => fNs l fun l => K (a :: l)
theorem fNs_eq : ∀ (l : List Nat) (K : List Nat → Prop), fNs l K = K l
  | [], _ => rfl
  | a :: l, K => by unfold fNs; rw [fN_eq, fNs_eq l]
/-- a call that leaves new blocks -/
theorem acall.new {P : Program} {m : Mem} {nh f : Nat} {xs : List AV} {K : EE} (ρ sn : List Nat) (as : List AV) (bin : List Blk) (res : AE) (bout : List (Option Blk)) (h : Ctr P f as bin res bout)
    (h1 : decide ρ.Nodup = true) (h2 : Nat.beq ρ.length bin.length = true) (h3 : Nat.ble ρ.length bout.length = true) (h4 : boutOk bout.length bout = true) (h5 : cvL m ρ [] (seenS ρ sn) xs as)
    (h6 : cvO m ρ (seenS ρ sn) 0 (bin.map some)) (h7 : (ρ ++ sn).all (fun k => (m k).isSome) = true) (h8 : res.lowH bout.length = true)
    (hK : fNs (ρ ++ fresh nh (bout.length - ρ.length)) fun ro => K (res.out ro) (rdOf m (ρ ++ sn)) (callUp ro sn res bout)) : acall P m nh f xs K := by
  rw [fNs_eq] at hK
  have hle := Nat.le_of_ble_eq_true h3
  have hl : (ρ ++ fresh nh (bout.length - ρ.length)).length = bout.length := by rw [List.length_append, fresh_len]; omega
  refine ⟨ρ, ρ ++ fresh nh (bout.length - ρ.length), sn, as, bin, res, bout, ⟨h, of_decide_eq_true h1, Nat.eq_of_beq_eq_true h2, by rw [hl], hl.symm, by rw [hl]; exact h4, h5, ?_, fun k hk => ?_, by rw [hl]; exact h8⟩, hK⟩
  · have := cvO_ok h6
    have e : ofLO (bin.map some) = ofL bin := by
      funext i
      unfold ofLO ofL
      rw [List.getElem?_map]
      cases bin[i]? <;> rfl
    rw [e] at this
    exact this
  · exact Option.isSome_iff_exists.1 (List.all_eq_true.1 h7 k hk)
end Go.Proofs.YthboippafkcoiaaGreatDoor.am

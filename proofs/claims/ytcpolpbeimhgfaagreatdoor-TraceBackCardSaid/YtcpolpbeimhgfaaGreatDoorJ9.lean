/- What the rows read as objects, Dids and steps are trees. -/
import Derived.Test.YtcpolpbeimhgfaaGreatDoorJ6
import Derived.Test.YtcpolpbeimhgfaaGreatDoorJ7
import Derived.Test.YtcpolpbeimhgfaaGreatDoorJ8
set_option linter.all false

namespace Go.Proofs.YtcpolpbeimhgfaaGreatDoor.am
open Go Go.Proofs Go.RowKit
/-- a ghost of no handles -/
def gh0 : Gh := ⟨fun _ => .un, fun _ => False, [], fun _ _ => False⟩
theorem gh0_ok {w : World} {b : Nat} (h : b < w.heap.size) : okB gh0 w b := ⟨h, id, fun _ ⟨_, e, _⟩ => by cases e⟩
theorem gh0_mst (w : World) : MSt gh0 w (ofL []) := ⟨fun h b e => (by simp [ofL] at e), fun h h' b ⟨_, e, _⟩ => (by cases e), fun h b ⟨_, e, _⟩ => (by cases e), fun b (h : False) => h.elim, fun h b ⟨_, e, _⟩ => (by cases e), fun _ _ h => h.elim⟩
theorem gh0_below {g' : Gh} {w w' : World} (h : Grow gh0 w g' w') : Below w.heap.size w w' := ⟨h.os, h.tape, h.output, h.size, fun k hk => h.block k (gh0_ok hk)⟩
theorem K.calls {f : Nat} {args : List AV} {a : AV} (h : K f args [] (.ret a) []) (w : World) (vs : Array Value) (hsz : vs.size = args.length) (hv : ∀ (i : Nat) (v : Value) (a : AV), vs[i]? = some v → args[i]? = some a → Rep gh0 w v a) :
    Calls Tryz.prog f vs w fun e w' => Below w.heap.size w w' ∧ ∃ v, e = .returned v ∧ ∃ g', Rep g' w' v a := by
  refine (h.run gh0 w vs (fun _ _ => rfl) (gh0_mst w) hsz hv).mono ?_
  rintro e w' ⟨g', hG, _, _, hR⟩
  cases e with
  | returned v => exact ⟨gh0_below hG, v, rfl, g', hR⟩
  | _ => exact hR.elim
section
variable {P : Program} {t : Nat} {l : List Tr}
theorem fits_int {k : IntKind} (hu : P.underlying t = some (.int k)) (h : Fits P t l) : ∃ n, l = [.v (.int k n)] := by
  cases h with
  | int n h => rw [hu] at h; cases h; exact ⟨n, rfl⟩
  | bool b h => rw [hu] at h; cases h
  | str s h => rw [hu] at h; cases h
  | slice rows h => rw [hu] at h; cases h
  | struct l h => rw [hu] at h; cases h
theorem fits_bool (hu : P.underlying t = some .bool) (h : Fits P t l) : ∃ n, l = [.v (.bool n)] := by
  cases h with
  | int n h => rw [hu] at h; cases h
  | bool b h => exact ⟨b, rfl⟩
  | str s h => rw [hu] at h; cases h
  | slice rows h => rw [hu] at h; cases h
  | struct l h => rw [hu] at h; cases h
theorem fits_slice {e n B : Nat} (hu : P.underlying t = some (.slice e)) (hn : P.cellsOf e = n) (hB : P.bytesOf e = B) (h : Fits P t l) : ∃ rows, l = [.lst n B rows] ∧ FitsR P e rows := by
  cases h with
  | int n h => rw [hu] at h; cases h
  | bool b h => rw [hu] at h; cases h
  | str s h => rw [hu] at h; cases h
  | slice rows h hr => rw [hu] at h; cases h; rw [hn, hB]; exact ⟨rows, rfl, hr⟩
  | struct l h => rw [hu] at h; cases h
theorem fits_struct {fs : Array Field} {ts : List Nat} (hu : P.underlying t = some (.struct fs)) (hts : fs.toList.map (·.type) = ts) (h : Fits P t l) : FitsL P ts l := by
  cases h with
  | int n h => rw [hu] at h; cases h
  | bool b h => rw [hu] at h; cases h
  | str s h => rw [hu] at h; cases h
  | slice rows h => rw [hu] at h; cases h
  | struct l h hl => rw [hu] at h; cases h; rw [← hts]; exact hl
theorem fitsL_cons {ts : List Nat} (h : FitsL P (t :: ts) l) : ∃ a b, l = a ++ b ∧ Fits P t a ∧ FitsL P ts b := by
  cases h with
  | cons h1 h2 => exact ⟨_, _, rfl, h1, h2⟩
theorem fitsL_nil (h : FitsL P [] l) : l = [] := by cases h; rfl
theorem fitsR_all {e : Nat} {α : Type} {f : α → List Tr} (hf : ∀ r, Fits P e r → ∃ x, r = f x) : ∀ {rows : List (List Tr)}, FitsR P e rows → ∃ l : List α, rows = l.map f
  | [], _ => ⟨[], rfl⟩
  | r :: rows, h => by
    cases h with
    | cons h1 h2 =>
      obtain ⟨x, rfl⟩ := hf r h1
      obtain ⟨l, rfl⟩ := fitsR_all hf h2
      exact ⟨x :: l, rfl⟩
end
noncomputable abbrev PP : Program := Tryz.prog

def objTypes : List Nat := [58, 55, 2, 3, 56, 98, 9, 96, 95, 92, 93]
theorem arr_get {l : List Value} {i : Nat} {c : Value} (h : l.toArray[i]? = some c) : l[i]? = some c := by simpa using h
theorem dids_fits {l : List Tr} (h : Fits PP 38 l) : ∃ d : Did, l = d.cells := by
  obtain ⟨a0, r0, rfl, h0, q0⟩ := fitsL_cons (fits_struct Tryz.underlying38 rfl h)
  obtain ⟨a1, r1, rfl, h1, q1⟩ := fitsL_cons q0
  obtain ⟨a2, r2, rfl, h2, q2⟩ := fitsL_cons q1
  obtain ⟨a3, r3, rfl, h3, q3⟩ := fitsL_cons q2
  obtain ⟨a4, r4, rfl, h4, q4⟩ := fitsL_cons q3
  obtain ⟨a5, r5, rfl, h5, q5⟩ := fitsL_cons q4
  obtain ⟨a6, r6, rfl, h6, q6⟩ := fitsL_cons q5
  obtain rfl := fitsL_nil q6
  obtain ⟨x0, rfl⟩ := fits_int Tryz.underlying36 h0
  obtain ⟨x1, rfl⟩ := fits_int Tryz.underlying3 h1
  obtain ⟨x2, rfl⟩ := fits_int Tryz.underlying3 h2
  obtain ⟨x3, rfl⟩ := fits_int Tryz.underlying3 h3
  obtain ⟨x4, rfl⟩ := fits_int Tryz.underlying2 h4
  obtain ⟨x5, rfl⟩ := fits_int Tryz.underlying2 h5
  obtain ⟨x6, rfl⟩ := fits_bool Tryz.underlying4 h6
  exact ⟨⟨x0, x1, x2, x3, x4, x5, x6⟩, rfl⟩
def didsTypes : List Nat := [22, 38, 36, 3, 2, 4]
theorem dids_closed : closedB PP didsTypes = true := by kernel_rfl
set_option maxRecDepth 100000 in
theorem open_dids {H : Type} {enc : TypeId × Value → H} {W : World} {v : Value} {d : DataW H} {ps : List MemPlace} {base : Nat} (hv : Value.okWide Tryz.prog W .any base 22 v) (h : DataW.Trod enc PP W 0 (fun _ => true) true 22 v d ps)
    (hw : (d.weights PP 22).all (· ≤ reachBytes) = true) (hp : ∀ x ∈ ps, x.block < W.heap.size) : ∃ b : List Did, Rep gh0 W v (.tr (didsT b)) := by
  have hcells : v.cells = #[v] := by
    cases v with
    | agg cs => simp [Value.okWide, Cell.okWide, Cell.ok, Tryz.underlying22] at hv
    | _ => rfl
  obtain ⟨fuel, hf⟩ := h
  obtain ⟨trs, h1, h2⟩ := read (ok := okB gh0 W) dids_closed (fun b hb => gh0_ok hb) fuel _ _ _ _ (by decide) hf hw hp
  obtain ⟨rows, rfl, hr⟩ := fits_slice (n := 7) (B := 56) Tryz.underlying22 (by kernel_rfl) (by kernel_rfl) h1
  obtain ⟨l, rfl⟩ := fitsR_all (fun r h => dids_fits h) hr
  exact ⟨l, .tr (h2.2 0 v _ (by rw [hcells]; rfl) rfl)⟩
def stepsTypes : List Nat := [60, 52, 50, 3]
end Go.Proofs.YtcpolpbeimhgfaaGreatDoor.am

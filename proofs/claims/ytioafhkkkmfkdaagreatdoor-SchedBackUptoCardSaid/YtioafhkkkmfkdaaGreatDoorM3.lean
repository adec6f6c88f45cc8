/- What a row reads as steps is a tree. -/
import Derived.Test.YtioafhkkkmfkdaaGreatDoorK11
set_option linter.all false

namespace Go.Proofs.YtioafhkkkmfkdaaGreatDoor.am
open Go Go.Proofs Go.RowKit

theorem steps_fits {l : List Tr} (h : Fits PP 51 l) : ∃ d : Stp, l = d.cells := by
  obtain ⟨a0, r0, rfl, h0, q0⟩ := fitsL_cons (fits_struct Tryz.underlying51 rfl h)
  obtain ⟨a1, r1, rfl, h1, q1⟩ := fitsL_cons q0
  obtain rfl := fitsL_nil q1
  obtain ⟨x0, rfl⟩ := fits_int Tryz.underlying49 h0
  obtain ⟨x1, rfl⟩ := fits_int Tryz.underlying3 h1
  exact ⟨⟨x0, x1⟩, rfl⟩
theorem steps_closed : closedB PP stepsTypes = true := by kernel_rfl
set_option maxRecDepth 100000 in
theorem open_steps {H : Type} {enc : TypeId × Value → H} {W : World} {v : Value} {d : DataW H} {ps : List MemPlace} {base : Nat} (hv : Value.okWide Tryz.prog W .any base 26 v) (h : DataW.Trod enc PP W 0 (fun _ => true) true 26 v d ps)
    (hw : (d.weights PP 26).all (· ≤ reachBytes) = true) (hp : ∀ x ∈ ps, x.block < W.heap.size) : ∃ b : List Stp, Rep gh0 W v (.tr (stepsT b)) := by
  have hcells : v.cells = #[v] := by
    cases v with
    | agg cs => simp [Value.okWide, Cell.okWide, Cell.ok, Tryz.underlying26] at hv
    | _ => rfl
  obtain ⟨fuel, hf⟩ := h
  obtain ⟨trs, h1, h2⟩ := read (ok := okB gh0 W) steps_closed (fun b hb => gh0_ok hb) fuel _ _ _ _ (by decide) hf hw hp
  obtain ⟨rows, rfl, hr⟩ := fits_slice (n := 2) (B := 16) Tryz.underlying26 (by kernel_rfl) (by kernel_rfl) h1
  obtain ⟨l, rfl⟩ := fitsR_all (fun r h => steps_fits h) hr
  exact ⟨l, .tr (h2.2 0 v _ (by rw [hcells]; rfl) rfl)⟩
end Go.Proofs.YtioafhkkkmfkdaaGreatDoor.am

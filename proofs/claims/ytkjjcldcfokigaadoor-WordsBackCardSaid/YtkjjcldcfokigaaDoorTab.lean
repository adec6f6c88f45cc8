/- What the row's list gives: the table of signs. -/
import Derived.Test.YtkjjcldcfokigaaDoorTie
import Derived.Test.YtkjjcldcfokigaaDoorW4
import Derived.ProofKit
import Derived.OpenShut
import Derived.Lib.LaidTab
namespace Go.Proofs.YtkjjcldcfokigaaDoor.ws
open Go Go.RowKit Go.ChangeShapes Go.WideShapes Go.ChangeAt

/-- the variable's name, as the row has it -/
def signsName : String :=
  match (Rows.wordsDoesRow.laid : List (String × DataW Unit)) with
  | x :: _ => x.1
  | [] => Rows.wordsDoesRow.func
theorem gSigns : Tryd.prog.globalNamed signsName = some 0 := by kernel_rfl
theorem gSignsType : (Tryd.prog.globals[0]?).map (·.type) = some 63 := by kernel_rfl
theorem gSignsUnd : Tryd.prog.underlying 63 = some (.array 19 62) := by kernel_rfl
theorem gSignCells : Tryd.prog.cellsOf 62 = 2 := by kernel_rfl
theorem one_str : Tryd.prog.cellsOf 9 = 1 := by kernel_rfl
theorem one_int : Tryd.prog.cellsOf 3 = 1 := by kernel_rfl

theorem data_eq {H : Type} : (Rows.laid_stile_words_signs : DataW H) = .agg ((List.range 19).map fun k => .agg [.lit (.string (sgL.getD k [])), .lit (.int .i64 (lvL.getD k 0))]) := rfl

theorem tab_of {W : World} {rest : List (String × DataW Unit)} (h : laidMet Tryd.prog ((signsName, Rows.laid_stile_words_signs) :: rest) W) : Tab W := by
  obtain ⟨ps, ⟨g', t', cs, fuel, p, q, hg', ht', hvar, hd, _, _⟩, _⟩ := h
  obtain rfl := Option.some.inj (gSigns.symm.trans hg')
  obtain rfl := Option.some.inj (gSignsType.symm.trans ht')
  obtain ⟨xs, m, _, hx, hl, hxl, hi⟩ := DataW.trod_array gSignsUnd hd
  have hxs : xs.map (·.1) = (List.range 19).map fun k => DataW.agg [.lit (.string (sgL.getD k [])), .lit (.int .i64 (lvL.getD k 0))] := by
    have := congrArg Prod.fst hx
    simp only [data_eq, DataW.agg.injEq] at this
    exact this.symm
  have hc := World.var?_cell gSigns hvar
  have key : ∀ k, k < 19 → cs[k * 2]? = some (.string (sg k)) ∧ cs[k * 2 + 1]? = some (.int .i64 (lv k)) := by
    intro k hk
    have h1 := hi k hk
    have h2 : xs[k]? = some (xs[k]'(by omega)) := List.getElem?_eq_getElem (by omega)
    rw [h2] at h1
    obtain ⟨y0, y1, n, hy, hlen, hf0, hf1⟩ := trod_struct2 Tryd.underlying62 h1
    have h3 : (xs.map (·.1))[k]? = some (DataW.agg [y0.1, y1.1]) := by rw [List.getElem?_map, h2, hy]; rfl
    rw [hxs] at h3
    simp only [List.getElem?_map, List.getElem?_range hk, Option.map_some, Option.some.injEq, DataW.agg.injEq, List.cons.injEq, and_true] at h3
    obtain ⟨e0, e1⟩ := h3
    obtain ⟨s, hs, hy0, _⟩ := DataW.trod_string Tryd.underlying9 hf0
    obtain ⟨z, hz, hy1, _⟩ := DataW.trod_int Tryd.underlying3 hf1
    rw [hy0] at e0
    rw [hy1] at e1
    simp only [DataW.lit.injEq, Lit.string.injEq, Lit.int.injEq, true_and] at e0 e1
    have c0 := congrArg (·[0]?) hs
    have c1 := congrArg (·[0]?) hz
    simp only [gSignCells, one_str, one_int, List.getElem?_take, List.getElem?_drop] at c0 c1
    constructor
    · have : cs[k * 2]? = some (.string s) := by simpa using c0
      rw [this]
      unfold sg
      rw [e0]
    · have : cs[k * 2 + 1]? = some (.int .i64 z) := by simpa using c1
      rw [this]
      unfold lv
      rw [e1]
  exact ⟨fun k hk => (hc _).trans (key k hk).1, fun k hk => (hc _).trans (key k hk).2⟩
end Go.Proofs.YtkjjcldcfokigaaDoor.ws

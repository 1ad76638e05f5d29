/- The listed table of kinds, laid: it reads as the walk's premise. -/
import Derived.Test.YtlmlbdmbgfclkaaDoorTrA
import Derived.Test.YtlmlbdmbgfclkaaDoorRows
import Derived.OpenShut
import Derived.Deep.Slices
import Derived.ChangeSame
namespace Go.Proofs.YtlmlbdmbgfclkaaDoor
open Go.ChangeShapes Go.WideShapes Go.ChangeAt Go.RowKit Go.ChangeMaps Go.WideElems Go.Deep

theorem cellsMany : Tryd.prog.cellsOf 66 = 2 := by kernel_rfl
theorem cellsManys : Tryd.prog.cellsOf 67 = 20 := by kernel_rfl
theorem cellsInt1 : Tryd.prog.cellsOf 3 = 1 := by kernel_rfl
theorem undManys : Tryd.prog.underlying 67 = some (.array 10 66) := by kernel_rfl
theorem kids_type : (Tryd.prog.globals[0]?).map (·.type) = some 67 := by kernel_rfl
theorem pair_cells {H : Type} {enc : TypeId × Value → H} {W : World} {b : Nat} {sp : Nat → Bool} {hd : Bool} {m : Nat} {c0 c1 : Value} {y : DataW H × List MemPlace} {z0 z1 : Int}
    (h : DataW.trod enc Tryd.prog W b sp hd m 66 [c0, c1] = some y) (hy : y.1 = .agg [.lit (.int .i64 z0), .lit (.int .i64 z1)]) : c0 = .int .i64 z0 ∧ c1 = .int .i64 z1 := by
  obtain ⟨y0, y1, k, rfl, _, h0, h1⟩ := trod_struct2 Tryd.underlying66 h
  simp only [cellsInt1, List.drop_zero, List.take_succ_cons, List.take_zero, List.drop_succ_cons] at h0 h1
  obtain ⟨a0, g0, e0, _⟩ := DataW.trod_int Tryd.underlying3 h0
  obtain ⟨a1, g1, e1, _⟩ := DataW.trod_int Tryd.underlying3 h1
  subst e0; subst e1
  simp at hy g0 g1
  exact ⟨by rw [g0, hy.1], by rw [g1, hy.2]⟩
theorem kids_cells {H : Type} {enc : TypeId × Value → H} {W : World} {b : Nat} {sp : Nat → Bool} {hd : Bool} {fuel : Nat} {cs : List Value} {p : List MemPlace}
    (h : DataW.trod enc Tryd.prog W b sp hd fuel 67 cs = some (Rows.laid_bonsai_tree_kids, p)) : cs = kidsTab.map (Value.int .i64) := by
  obtain ⟨xs, m, _, hx, hl, hxl, hf⟩ := DataW.trod_array undManys h
  rw [cellsManys] at hl
  simp only [Rows.laid_bonsai_tree_kids, Prod.mk.injEq, DataW.agg.injEq] at hx
  have hx1 := hx.1
  match xs, hxl with
  | [x0, x1, x2, x3, x4, x5, x6, x7, x8, x9], _ =>
    match cs, hl with
    | [c0, c1, c2, c3, c4, c5, c6, c7, c8, c9, c10, c11, c12, c13, c14, c15, c16, c17, c18, c19], _ =>
      simp only [List.map_cons, List.map_nil, List.cons.injEq, and_true] at hx1
      obtain ⟨a0, a1, a2, a3, a4, a5, a6, a7, a8, a9⟩ := hx1
      have f0 := hf 0 (by omega)
      have f1 := hf 1 (by omega)
      have f2 := hf 2 (by omega)
      have f3 := hf 3 (by omega)
      have f4 := hf 4 (by omega)
      have f5 := hf 5 (by omega)
      have f6 := hf 6 (by omega)
      have f7 := hf 7 (by omega)
      have f8 := hf 8 (by omega)
      have f9 := hf 9 (by omega)
      simp only [cellsMany, Nat.zero_mul, Nat.one_mul, Nat.reduceMul, List.drop_zero, List.take_succ_cons, List.take_zero, List.drop_succ_cons, List.getElem?_cons_zero, List.getElem?_cons_succ] at f0 f1 f2 f3 f4 f5 f6 f7 f8 f9
      obtain ⟨rfl, rfl⟩ := pair_cells f0 a0.symm
      obtain ⟨rfl, rfl⟩ := pair_cells f1 a1.symm
      obtain ⟨rfl, rfl⟩ := pair_cells f2 a2.symm
      obtain ⟨rfl, rfl⟩ := pair_cells f3 a3.symm
      obtain ⟨rfl, rfl⟩ := pair_cells f4 a4.symm
      obtain ⟨rfl, rfl⟩ := pair_cells f5 a5.symm
      obtain ⟨rfl, rfl⟩ := pair_cells f6 a6.symm
      obtain ⟨rfl, rfl⟩ := pair_cells f7 a7.symm
      obtain ⟨rfl, rfl⟩ := pair_cells f8 a8.symm
      obtain ⟨rfl, rfl⟩ := pair_cells f9 a9.symm
      rfl
theorem ktab_of {W : World} {rest : List (String × DataW Unit)} (h : laidMet Tryd.prog (("bonsai/tree.kids", Rows.laid_bonsai_tree_kids) :: rest) W) : KTab W := by
  obtain ⟨ps, ⟨g', t', cs, fuel, p, q, hg', ht', hvar, hd, _, _⟩, _⟩ := h
  obtain rfl := Option.some.inj (gKids.symm.trans hg')
  obtain rfl := Option.some.inj (kids_type.symm.trans ht')
  unfold KTab
  rw [hvar, ← kids_cells hd]
end Go.Proofs.YtlmlbdmbgfclkaaDoor

/- Two sets of bytes compared (==): four numbers each. -/
import Derived.Test.YtlmlbdmbgfclkaaDoorProg
import Derived.ChangeKeysEq
import Derived.Laws.StructEq
import Derived.WalkKit
import Derived.ProofKit
namespace Go.Proofs.YtlmlbdmbgfclkaaDoor
open Go.RowKit

theorem plain_u64 : Tryd.prog.plainKey 30 = true := by kernel_rfl
theorem cells_u64 : Tryd.prog.cellsOf 30 = 1 := by kernel_rfl
@[go_sem] theorem guard_set : Tryd.prog.eqGuardType Tryd.prog.depth 32 = false := by kernel_rfl
theorem und_set : Tryd.prog.underlying 32 = some (.array 4 30) := by kernel_rfl
@[go_sem] theorem run_eq_set (a0 a1 a2 a3 b0 b1 b2 b3 : Int) (W : World) :
    (Op.equalIn 10000 32 (.agg #[.int .u64 a0, .int .u64 a1, .int .u64 a2, .int .u64 a3]) (.agg #[.int .u64 b0, .int .u64 b1, .int .u64 b2, .int .u64 b3])).run Tryd.prog W = .ok (decide (a0 = b0 ∧ a1 = b1 ∧ a2 = b2 ∧ a3 = b3)) W := by
  obtain ⟨i', hi'⟩ := Option.isSome_iff_exists.1 (show (Tryd.prog.info? 30).isSome = true by kernel_rfl)
  rw [show (10000 : Nat) = 9999 + 1 from rfl, run_equalIn_array (P := Tryd.prog) W 9999 _ _ und_set hi']
  simp only [cells_u64, show List.range 4 = [0, 1, 2, 3] from rfl, Op.eqItems, Sem.run_bind]
  have he : ∀ a b : Int, (Op.equalIn 9999 30 (.int .u64 a) (.int .u64 b)).run Tryd.prog W = .ok (a == b) W := fun a b => run_equalIn_int W 9998 _ _ _ _ _ Tryd.underlying30
  simp only [run_part_plain W plain_u64 (xs := #[Value.int .u64 a0, .int .u64 a1, .int .u64 a2, .int .u64 a3]) (off := 0) (v := .int .u64 a0) rfl, run_part_plain W plain_u64 (xs := #[Value.int .u64 a0, .int .u64 a1, .int .u64 a2, .int .u64 a3]) (off := 1) (v := .int .u64 a1) rfl, run_part_plain W plain_u64 (xs := #[Value.int .u64 a0, .int .u64 a1, .int .u64 a2, .int .u64 a3]) (off := 2) (v := .int .u64 a2) rfl, run_part_plain W plain_u64 (xs := #[Value.int .u64 a0, .int .u64 a1, .int .u64 a2, .int .u64 a3]) (off := 3) (v := .int .u64 a3) rfl, run_part_plain W plain_u64 (xs := #[Value.int .u64 b0, .int .u64 b1, .int .u64 b2, .int .u64 b3]) (off := 0) (v := .int .u64 b0) rfl, run_part_plain W plain_u64 (xs := #[Value.int .u64 b0, .int .u64 b1, .int .u64 b2, .int .u64 b3]) (off := 1) (v := .int .u64 b1) rfl, run_part_plain W plain_u64 (xs := #[Value.int .u64 b0, .int .u64 b1, .int .u64 b2, .int .u64 b3]) (off := 2) (v := .int .u64 b2) rfl, run_part_plain W plain_u64 (xs := #[Value.int .u64 b0, .int .u64 b1, .int .u64 b2, .int .u64 b3]) (off := 3) (v := .int .u64 b3) rfl, Nat.mul_one, Result.andThen_ok, he, Sem.run_bind, Sem.run_ite, Sem.run_pure]
  by_cases h0 : a0 = b0 <;> by_cases h1 : a1 = b1 <;> by_cases h2 : a2 = b2 <;> by_cases h3 : a3 = b3 <;> simp [h0, h1, h2, h3]
end Go.Proofs.YtlmlbdmbgfclkaaDoor

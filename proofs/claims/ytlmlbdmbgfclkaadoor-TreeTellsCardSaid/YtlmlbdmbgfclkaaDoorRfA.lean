/- The contracts of bonsairef04.Fits, Leaf. Conditions: a node's fields as Go has them. -/
import Derived.Test.YtlmlbdmbgfclkaaDoorTrA
import Derived.Test.YtlmlbdmbgfclkaaDoorRfN
import Derived.Test.YtlmlbdmbgfclkaaDoorOwnN
import Derived.Outline
import Derived.Deep.CutBlock
import Derived.Deep.Cut
namespace Go.Proofs.YtlmlbdmbgfclkaaDoor
open Go.RowKit

set_option maxRecDepth 100000 in
set_option maxHeartbeats 4000000 in
theorem rfits_any (n : Nd) (hn : n.d.Ok) (kv : Value) (k : Int) (W : World) :
    Calls Tryd.prog 52 #[.agg (nodeCells n kv).toArray, .int .i64 k] W fun e w' => e = .returned (.bool (fits n.d k)) ∧ Below W.heap.size W w' := by
  obtain ⟨⟨kind, s0, s1, s2, s3, text, mn, mx⟩, kids⟩ := n
  obtain ⟨⟨k1, k2⟩, hset, htx, hmn, hmx⟩ := hn
  have htx' : (⟨text.toArray⟩ : ByteArray).size ≤ maxLen := by rw [size_mk]; exact htx
  have HM := Lib.hid (fun wx => rmay_any ⟨text.toArray⟩ htx' wx)
  clear hmn hmx hset htx htx'
  simp only [nodeCells] at *
  go_enter Tryd.func52, Tryd.ntmps52
  go_upto_region 2 with fail
  obtain ⟨wb, hwb⟩ : ∃ wb, wb = (W.alloc (.cells #[.int .u8 kind, .int .u64 s0, .int .u64 s1, .int .u64 s2, .int .u64 s3, .string ⟨text.toArray⟩, .int .i64 mn, .int .i64 mx, kv] 34)).alloc (.cells #[.int .u64 0, .int .u64 0, .int .u64 0, .int .u64 0] 32) := ⟨_, rfl⟩
  obtain ⟨V0, hV0⟩ : ∃ V0 : Value, V0 = .agg #[.int .u8 kind, .int .u64 s0, .int .u64 s1, .int .u64 s2, .int .u64 s3, .string ⟨text.toArray⟩, .int .i64 mn, .int .i64 mx, kv] := ⟨_, rfl⟩
  rw [← hwb, ← hV0]
  have hB0 : Blk wb W.heap.size 34 #[.int .u8 kind, .int .u64 s0, .int .u64 s1, .int .u64 s2, .int .u64 s3, .string ⟨text.toArray⟩, .int .i64 mn, .int .i64 mx, kv] := by rw [hwb]; exact (Blk.new W _ _).alloc _
  have hB1 : Blk wb (W.heap.size + 1) 32 #[.int .u64 0, .int .u64 0, .int .u64 0, .int .u64 0] := by rw [hwb]; exact Blk.new1 _ _ _ _
  have hbb : Below W.heap.size W wb := by rw [hwb]; exact ((Below.refl _ _).alloc (Nat.le_refl _) _).alloc (by simp) _
  obtain ⟨c0, c1, c2, c3, c4, c5, c6, c7, c8⟩ := hB0.nine
  have e0 : wb.cell? ⟨W.heap.size + 1, 0, none⟩ = some (.int .u64 0) := hB1.cell 0
  have e1 : wb.cell? ⟨W.heap.size + 1, 1, none⟩ = some (.int .u64 0) := hB1.cell 1
  have e2 : wb.cell? ⟨W.heap.size + 1, 2, none⟩ = some (.int .u64 0) := hB1.cell 2
  have e3 : wb.cell? ⟨W.heap.size + 1, 3, none⟩ = some (.int .u64 0) := hB1.cell 3
  clear hV0 hwb hB0 hB1
  go_cut [6] from 7 to 26 (fun x wx => x = .bool (decide (noSet ⟨kind, s0, s1, s2, s3, text, mn, mx⟩ ∧ text = [] ∧ noNum ⟨kind, s0, s1, s2, s3, text, mn, mx⟩)) ∧ wx = wb)
  case first =>
    go_wp2_with fail
    all_goals go_meet
    all_goals refine ⟨?_, rfl⟩
    all_goals simp [noSet, noNum, *]
    all_goals (rw [Bool.eq_iff_iff]; simp)
  case rest =>
    obtain ⟨rfl, rfl⟩ := hcut
    obtain ⟨pl, hpl⟩ : ∃ pl, pl = decide (noSet ⟨kind, s0, s1, s2, s3, text, mn, mx⟩ ∧ text = [] ∧ noNum ⟨kind, s0, s1, s2, s3, text, mn, mx⟩) := ⟨_, rfl⟩
    rw [← hpl]
    have HPL := Lib.hid hpl
    clear hpl
    have hk : kind = 0 ∨ kind = 1 ∨ kind = 2 ∨ kind = 3 ∨ kind = 4 ∨ kind = 5 ∨ kind = 6 ∨ kind = 7 ∨ kind = 8 ∨ kind = 9 ∨ 10 ≤ kind := by omega
    rcases hk with rfl | rfl | rfl | rfl | rfl | rfl | rfl | rfl | rfl | rfl | hk
    rotate_right
    · have b0 : (kind == 0) = false := beq_eq_false_iff_ne.2 (by omega)
      have b1 : (kind == 1) = false := beq_eq_false_iff_ne.2 (by omega)
      have b2 : (kind == 2) = false := beq_eq_false_iff_ne.2 (by omega)
      have b3 : (kind == 3) = false := beq_eq_false_iff_ne.2 (by omega)
      have b4 : (kind == 4) = false := beq_eq_false_iff_ne.2 (by omega)
      have b5 : (kind == 5) = false := beq_eq_false_iff_ne.2 (by omega)
      have b6 : (kind == 6) = false := beq_eq_false_iff_ne.2 (by omega)
      have b7 : (kind == 7) = false := beq_eq_false_iff_ne.2 (by omega)
      have b8 : (kind == 8) = false := beq_eq_false_iff_ne.2 (by omega)
      have b9 : (kind == 9) = false := beq_eq_false_iff_ne.2 (by omega)
      go_wp2_with fail
      go_ret
      refine ⟨ret_bool ?_, hbb⟩
      rw [eq_comm, fits, decide_eq_false_iff_not]
      rintro ⟨h, -⟩
      simp only [fitsD] at h
      omega
    all_goals go_wp2_with (go_at_call 57; refine (HM.out _).mono ?_; rintro e w' ⟨rfl, rfl⟩)
    all_goals go_ret
    all_goals refine ⟨ret_bool ?_, hbb⟩
    all_goals have hpl := HPL.out
    all_goals clear HM HPL c0 c1 c2 c3 c4 c5 c6 c7 c8 e0 e1 e2 e3 hbb
    all_goals rw [Bool.eq_iff_iff]
    all_goals simp only [fits, fitsD, fitsK, noSet, noNum, decide_eq_true_eq] at hpl ⊢
    all_goals simp [*]
    all_goals have htl : text = [] ↔ text.length = 0 := List.length_eq_zero_iff.symm
    all_goals simp only [htl] at *
    all_goals clear htl
    all_goals first
      | (cases pl
         · have hq := of_decide_eq_false hpl.symm
           clear hpl
           first | omega | (exfalso; simp at *; done) | (simp; omega)
         · have hq := of_decide_eq_true hpl.symm
           clear hpl
           first | omega | (exfalso; simp at *; done) | (simp; omega))
      | (clear hpl; omega)
end Go.Proofs.YtlmlbdmbgfclkaaDoor

/- ExprBrackets: for every input the law answers true and the input reads as it did (the tied card: the listed package variables lie as their text lays them). No other condition. -/
import Derived.Test.YtclfpjfjebheoaaDoorP4
import Derived.Test.YtclfpjfjebheoaaDoorCards
import Derived.Test.YtclfpjfjebheoaaDoorTie
import Derived.LaidHandle
import Derived.LaidSub
/- The law ExprBrackets, walked: it answers true. -/
namespace Go.Proofs.YtclfpjfjebheoaaDoor
set_option linter.unusedSimpArgs false
open Go.RowKit
open Classical

set_option maxRecDepth 20000 in
set_option maxHeartbeats 8000000 in
theorem lexprbrackets_any (ta tb tc : Tr) (va vb vc : Value) (w : World) (ha : HasT w va ta) (hb : HasT w vb tb) (hc : HasT w vc tc) (hk : KTab w) (ht : TogTab w) : Calls Tryd.prog 5 #[va, vb, vc] w (TruePost w) := by
  obtain ⟨na, rfl, hna, _⟩ := id ha
  obtain ⟨nb, rfl, hnb, _⟩ := id hb
  obtain ⟨nc, rfl, hnc, _⟩ := id hc
  obtain ⟨Aa, ca, rfl, _⟩ := hna.at_
  obtain ⟨Ab, cb, rfl, _⟩ := hnb.at_
  obtain ⟨Ac, cc, rfl, _⟩ := hnc.at_
  have Va : Hid (RT w [] Aa ca ta) := Lib.hid (RT.old ha)
  have Vb : Hid (RT w [] Ab cb tb) := Lib.hid (RT.old hb)
  have Vc : Hid (RT w [] Ac cc tc) := Lib.hid (RT.old hc)
  have HE : Hid (Ev w w) := Lib.hid ⟨Below.refl _ _, hk, ht⟩
  have HL : Hid (BL w []) := Lib.hid (BL.nil w)
  have HG : Hid (∀ b ∈ ([] : List Nat), w.heap.size ≤ b) := Lib.hid (fun b hm => by cases hm)
  have HN : Hid (([] : List Nat).Nodup) := Lib.hid List.nodup_nil
  clear ha hb hc hna hnb hnc hk ht
  go_enter Tryd.func5, Tryd.ntmps5
  replace HG := Lib.hid (ge_box (g := w.heap.size) HG.out HE.out rfl)
  replace HN := Lib.hid (nd_box (g := w.heap.size) HN.out HL.out rfl)
  have K3 := Lib.hid (TB.newN (g := w.heap.size) Va.out rfl)
  replace HE := Lib.hid (HE.out.alloc (.cells #[.slice Aa ta.nodes.length ca, .int .i64 ta.root] 34))
  replace HL := Lib.hid (BL.boxN (g := w.heap.size) HL.out (.cells #[.slice Aa ta.nodes.length ca, .int .i64 ta.root] 34) rfl)
  replace Vb := Lib.hid (RT.boxN (g := w.heap.size) Vb.out (.cells #[.slice Aa ta.nodes.length ca, .int .i64 ta.root] 34) rfl)
  replace Vc := Lib.hid (RT.boxN (g := w.heap.size) Vc.out (.cells #[.slice Aa ta.nodes.length ca, .int .i64 ta.root] 34) rfl)
  replace HG := Lib.hid (ge_box (g := w.heap.size + 1) HG.out HE.out (by simp))
  replace HN := Lib.hid (nd_box (g := w.heap.size + 1) HN.out HL.out (by simp))
  have K4 := Lib.hid (TB.newN (g := w.heap.size + 1) Vb.out (by simp))
  replace HE := Lib.hid (HE.out.alloc (.cells #[.slice Ab tb.nodes.length cb, .int .i64 tb.root] 34))
  replace HL := Lib.hid (BL.boxN (g := w.heap.size + 1) HL.out (.cells #[.slice Ab tb.nodes.length cb, .int .i64 tb.root] 34) (by simp))
  replace K3 := Lib.hid (TB.boxN (g := w.heap.size + 1) K3.out (.cells #[.slice Ab tb.nodes.length cb, .int .i64 tb.root] 34) (by simp))
  replace Vc := Lib.hid (RT.boxN (g := w.heap.size + 1) Vc.out (.cells #[.slice Ab tb.nodes.length cb, .int .i64 tb.root] 34) (by simp))
  replace HG := Lib.hid (ge_box (g := w.heap.size + 1 + 1) HG.out HE.out (by simp))
  replace HN := Lib.hid (nd_box (g := w.heap.size + 1 + 1) HN.out HL.out (by simp))
  have K5 := Lib.hid (TB.newN (g := w.heap.size + 1 + 1) Vc.out (by simp))
  replace HE := Lib.hid (HE.out.alloc (.cells #[.slice Ac tc.nodes.length cc, .int .i64 tc.root] 34))
  replace HL := Lib.hid (BL.boxN (g := w.heap.size + 1 + 1) HL.out (.cells #[.slice Ac tc.nodes.length cc, .int .i64 tc.root] 34) (by simp))
  replace K3 := Lib.hid (TB.boxN (g := w.heap.size + 1 + 1) K3.out (.cells #[.slice Ac tc.nodes.length cc, .int .i64 tc.root] 34) (by simp))
  replace K4 := Lib.hid (TB.boxN (g := w.heap.size + 1 + 1) K4.out (.cells #[.slice Ac tc.nodes.length cc, .int .i64 tc.root] 34) (by simp))
  have d30 : (((w.alloc (.cells #[.slice Aa ta.nodes.length ca, .int .i64 ta.root] 34)).alloc (.cells #[.slice Ab tb.nodes.length cb, .int .i64 tb.root] 34)).alloc (.cells #[.slice Ac tc.nodes.length cc, .int .i64 tc.root] 34)).cell? ⟨w.heap.size, 0, none⟩ = some (.slice Aa ta.nodes.length ca) := K3.out.blk.cell 0
  have d31 : (((w.alloc (.cells #[.slice Aa ta.nodes.length ca, .int .i64 ta.root] 34)).alloc (.cells #[.slice Ab tb.nodes.length cb, .int .i64 tb.root] 34)).alloc (.cells #[.slice Ac tc.nodes.length cc, .int .i64 tc.root] 34)).cell? ⟨w.heap.size, 1, none⟩ = some (.int .i64 ta.root) := K3.out.blk.cell 1
  have d40 : (((w.alloc (.cells #[.slice Aa ta.nodes.length ca, .int .i64 ta.root] 34)).alloc (.cells #[.slice Ab tb.nodes.length cb, .int .i64 tb.root] 34)).alloc (.cells #[.slice Ac tc.nodes.length cc, .int .i64 tc.root] 34)).cell? ⟨w.heap.size + 1, 0, none⟩ = some (.slice Ab tb.nodes.length cb) := K4.out.blk.cell 0
  have d41 : (((w.alloc (.cells #[.slice Aa ta.nodes.length ca, .int .i64 ta.root] 34)).alloc (.cells #[.slice Ab tb.nodes.length cb, .int .i64 tb.root] 34)).alloc (.cells #[.slice Ac tc.nodes.length cc, .int .i64 tc.root] 34)).cell? ⟨w.heap.size + 1, 1, none⟩ = some (.int .i64 tb.root) := K4.out.blk.cell 1
  have d50 : (((w.alloc (.cells #[.slice Aa ta.nodes.length ca, .int .i64 ta.root] 34)).alloc (.cells #[.slice Ab tb.nodes.length cb, .int .i64 tb.root] 34)).alloc (.cells #[.slice Ac tc.nodes.length cc, .int .i64 tc.root] 34)).cell? ⟨w.heap.size + 1 + 1, 0, none⟩ = some (.slice Ac tc.nodes.length cc) := K5.out.blk.cell 0
  have d51 : (((w.alloc (.cells #[.slice Aa ta.nodes.length ca, .int .i64 ta.root] 34)).alloc (.cells #[.slice Ab tb.nodes.length cb, .int .i64 tb.root] 34)).alloc (.cells #[.slice Ac tc.nodes.length cc, .int .i64 tc.root] 34)).cell? ⟨w.heap.size + 1 + 1, 1, none⟩ = some (.int .i64 tc.root) := K5.out.blk.cell 1
  go_wp2_with fail
  clear d30 d31 d40 d41 d50 d51
  refine Calls.mono (large3_c K3.out.tree K4.out.tree K5.out.tree (by simp)) ?_
  rintro e w1 ⟨r, rfl, HS, B1⟩
  replace HE := Lib.hid (HE.out.below B1.out)
  replace HL := Lib.hid (HL.out.below B1.out)
  replace K3 := Lib.hid (K3.out.below B1.out)
  replace K4 := Lib.hid (K4.out.below B1.out)
  replace K5 := Lib.hid (K5.out.below B1.out)
  rcases r with _ | _
  · have HZ := Lib.hid (show ta.nodes.length + (tb.nodes.length + tc.nodes.length) ≤ 400 by have := (HS.out rfl).sum; simpa [nodesSum] using this)
    clear HS
    go_wp2_with fail
    refine Calls.mono (awake_c HE.out) ?_
    rintro e w2 ⟨rfl, B2⟩
    replace HE := Lib.hid (HE.out.below B2.out)
    replace HL := Lib.hid (HL.out.below B2.out)
    replace K3 := Lib.hid (K3.out.below B2.out)
    replace K4 := Lib.hid (K4.out.below B2.out)
    replace K5 := Lib.hid (K5.out.below B2.out)
    have d30 : (w2).cell? ⟨w.heap.size, 0, none⟩ = some (.slice Aa ta.nodes.length ca) := K3.out.blk.cell 0
    have d31 : (w2).cell? ⟨w.heap.size, 1, none⟩ = some (.int .i64 ta.root) := K3.out.blk.cell 1
    have d40 : (w2).cell? ⟨w.heap.size + 1, 0, none⟩ = some (.slice Ab tb.nodes.length cb) := K4.out.blk.cell 0
    have d41 : (w2).cell? ⟨w.heap.size + 1, 1, none⟩ = some (.int .i64 tb.root) := K4.out.blk.cell 1
    have d50 : (w2).cell? ⟨w.heap.size + 1 + 1, 0, none⟩ = some (.slice Ac tc.nodes.length cc) := K5.out.blk.cell 0
    have d51 : (w2).cell? ⟨w.heap.size + 1 + 1, 1, none⟩ = some (.int .i64 tc.root) := K5.out.blk.cell 1
    go_wp2_with fail
    clear d30 d31 d40 d41 d50 d51
    by_cases hr : ∀ t ∈ [ta, tb, tc], RightT t
    · have RA := Lib.hid (hr ta (by simp))
      have RB := Lib.hid (hr tb (by simp))
      have RC := Lib.hid (hr tc (by simp))
      clear hr
      refine Calls.mono (seq3_c HE.out HL.out K3.out.tree K4.out.tree K5.out.tree (by have := HZ.out; omega) (by simp)) ?_
      rintro e w3 ⟨A3, c3, x3, rfl, X3, V3, B3⟩
      rw [show ofEB seqD [ta, tb, tc] = true from by rw [ofEB_seq]; exact decide_eq_true (by simp [RA.out, RB.out, RC.out])]
      replace HE := Lib.hid (HE.out.below B3.out)
      replace HL := Lib.hid (HL.out.below B3.out)
      replace K3 := Lib.hid (K3.out.below B3.out)
      replace K4 := Lib.hid (K4.out.below B3.out)
      replace K5 := Lib.hid (K5.out.below B3.out)
      have R3 := Lib.hid (show RightT x3 by rw [X3.out]; exact seq_right (by simp [RA.out, RB.out, RC.out]))
      have Z3 := Lib.hid (show x3.nodes.length ≤ 1 + (ta.nodes.length + (tb.nodes.length + (tc.nodes.length))) by rw [X3.out]; exact Nat.le_trans (seq_len (by simp [RA.out, RB.out, RC.out])) (by simp))
      replace HG := Lib.hid (ge_box (g := w3.heap.size) HG.out HE.out rfl)
      replace HN := Lib.hid (nd_box (g := w3.heap.size) HN.out HL.out rfl)
      have K7 := Lib.hid (TB.newN (g := w3.heap.size) V3.out rfl)
      replace HE := Lib.hid (HE.out.alloc (.cells #[.slice A3 x3.nodes.length c3, .int .i64 x3.root] 34))
      replace HL := Lib.hid (BL.boxN (g := w3.heap.size) HL.out (.cells #[.slice A3 x3.nodes.length c3, .int .i64 x3.root] 34) rfl)
      replace K3 := Lib.hid (TB.boxN (g := w3.heap.size) K3.out (.cells #[.slice A3 x3.nodes.length c3, .int .i64 x3.root] 34) rfl)
      replace K4 := Lib.hid (TB.boxN (g := w3.heap.size) K4.out (.cells #[.slice A3 x3.nodes.length c3, .int .i64 x3.root] 34) rfl)
      replace K5 := Lib.hid (TB.boxN (g := w3.heap.size) K5.out (.cells #[.slice A3 x3.nodes.length c3, .int .i64 x3.root] 34) rfl)
      have d30 : (w3.alloc (.cells #[.slice A3 x3.nodes.length c3, .int .i64 x3.root] 34)).cell? ⟨w.heap.size, 0, none⟩ = some (.slice Aa ta.nodes.length ca) := K3.out.blk.cell 0
      have d31 : (w3.alloc (.cells #[.slice A3 x3.nodes.length c3, .int .i64 x3.root] 34)).cell? ⟨w.heap.size, 1, none⟩ = some (.int .i64 ta.root) := K3.out.blk.cell 1
      have d40 : (w3.alloc (.cells #[.slice A3 x3.nodes.length c3, .int .i64 x3.root] 34)).cell? ⟨w.heap.size + 1, 0, none⟩ = some (.slice Ab tb.nodes.length cb) := K4.out.blk.cell 0
      have d41 : (w3.alloc (.cells #[.slice A3 x3.nodes.length c3, .int .i64 x3.root] 34)).cell? ⟨w.heap.size + 1, 1, none⟩ = some (.int .i64 tb.root) := K4.out.blk.cell 1
      go_wp2_with fail
      clear d30 d31 d40 d41
      refine Calls.mono (seq2_c HE.out HL.out K3.out.tree K4.out.tree (by have := HZ.out; omega) (by simp)) ?_
      rintro e w4 ⟨A4, c4, x4, rfl, X4, V4, B4⟩
      rw [show ofEB seqD [ta, tb] = true from by rw [ofEB_seq]; exact decide_eq_true (by simp [RA.out, RB.out])]
      replace HE := Lib.hid (HE.out.below B4.out)
      replace HL := Lib.hid (HL.out.below B4.out)
      replace K3 := Lib.hid (K3.out.below B4.out)
      replace K4 := Lib.hid (K4.out.below B4.out)
      replace K5 := Lib.hid (K5.out.below B4.out)
      replace K7 := Lib.hid (K7.out.below B4.out)
      have R4 := Lib.hid (show RightT x4 by rw [X4.out]; exact seq_right (by simp [RA.out, RB.out]))
      have Z4 := Lib.hid (show x4.nodes.length ≤ 1 + (ta.nodes.length + (tb.nodes.length)) by rw [X4.out]; exact Nat.le_trans (seq_len (by simp [RA.out, RB.out])) (by simp))
      replace HG := Lib.hid (ge_box (g := w4.heap.size) HG.out HE.out rfl)
      replace HN := Lib.hid (nd_box (g := w4.heap.size) HN.out HL.out rfl)
      have K9 := Lib.hid (TB.newN (g := w4.heap.size) V4.out rfl)
      replace HE := Lib.hid (HE.out.alloc (.cells #[.slice A4 x4.nodes.length c4, .int .i64 x4.root] 34))
      replace HL := Lib.hid (BL.boxN (g := w4.heap.size) HL.out (.cells #[.slice A4 x4.nodes.length c4, .int .i64 x4.root] 34) rfl)
      replace K3 := Lib.hid (TB.boxN (g := w4.heap.size) K3.out (.cells #[.slice A4 x4.nodes.length c4, .int .i64 x4.root] 34) rfl)
      replace K4 := Lib.hid (TB.boxN (g := w4.heap.size) K4.out (.cells #[.slice A4 x4.nodes.length c4, .int .i64 x4.root] 34) rfl)
      replace K5 := Lib.hid (TB.boxN (g := w4.heap.size) K5.out (.cells #[.slice A4 x4.nodes.length c4, .int .i64 x4.root] 34) rfl)
      replace K7 := Lib.hid (TB.boxN (g := w4.heap.size) K7.out (.cells #[.slice A4 x4.nodes.length c4, .int .i64 x4.root] 34) rfl)
      have d40 : (w4.alloc (.cells #[.slice A4 x4.nodes.length c4, .int .i64 x4.root] 34)).cell? ⟨w.heap.size + 1, 0, none⟩ = some (.slice Ab tb.nodes.length cb) := K4.out.blk.cell 0
      have d41 : (w4.alloc (.cells #[.slice A4 x4.nodes.length c4, .int .i64 x4.root] 34)).cell? ⟨w.heap.size + 1, 1, none⟩ = some (.int .i64 tb.root) := K4.out.blk.cell 1
      have d50 : (w4.alloc (.cells #[.slice A4 x4.nodes.length c4, .int .i64 x4.root] 34)).cell? ⟨w.heap.size + 1 + 1, 0, none⟩ = some (.slice Ac tc.nodes.length cc) := K5.out.blk.cell 0
      have d51 : (w4.alloc (.cells #[.slice A4 x4.nodes.length c4, .int .i64 x4.root] 34)).cell? ⟨w.heap.size + 1 + 1, 1, none⟩ = some (.int .i64 tc.root) := K5.out.blk.cell 1
      go_wp2_with fail
      clear d40 d41 d50 d51
      refine Calls.mono (seq2_c HE.out HL.out K4.out.tree K5.out.tree (by have := HZ.out; omega) (by simp)) ?_
      rintro e w5 ⟨A5, c5, x5, rfl, X5, V5, B5⟩
      rw [show ofEB seqD [tb, tc] = true from by rw [ofEB_seq]; exact decide_eq_true (by simp [RB.out, RC.out])]
      replace HE := Lib.hid (HE.out.below B5.out)
      replace HL := Lib.hid (HL.out.below B5.out)
      replace K3 := Lib.hid (K3.out.below B5.out)
      replace K4 := Lib.hid (K4.out.below B5.out)
      replace K5 := Lib.hid (K5.out.below B5.out)
      replace K7 := Lib.hid (K7.out.below B5.out)
      replace K9 := Lib.hid (K9.out.below B5.out)
      have R5 := Lib.hid (show RightT x5 by rw [X5.out]; exact seq_right (by simp [RB.out, RC.out]))
      have Z5 := Lib.hid (show x5.nodes.length ≤ 1 + (tb.nodes.length + (tc.nodes.length)) by rw [X5.out]; exact Nat.le_trans (seq_len (by simp [RB.out, RC.out])) (by simp))
      replace HG := Lib.hid (ge_box (g := w5.heap.size) HG.out HE.out rfl)
      replace HN := Lib.hid (nd_box (g := w5.heap.size) HN.out HL.out rfl)
      have K11 := Lib.hid (TB.newN (g := w5.heap.size) V5.out rfl)
      replace HE := Lib.hid (HE.out.alloc (.cells #[.slice A5 x5.nodes.length c5, .int .i64 x5.root] 34))
      replace HL := Lib.hid (BL.boxN (g := w5.heap.size) HL.out (.cells #[.slice A5 x5.nodes.length c5, .int .i64 x5.root] 34) rfl)
      replace K3 := Lib.hid (TB.boxN (g := w5.heap.size) K3.out (.cells #[.slice A5 x5.nodes.length c5, .int .i64 x5.root] 34) rfl)
      replace K4 := Lib.hid (TB.boxN (g := w5.heap.size) K4.out (.cells #[.slice A5 x5.nodes.length c5, .int .i64 x5.root] 34) rfl)
      replace K5 := Lib.hid (TB.boxN (g := w5.heap.size) K5.out (.cells #[.slice A5 x5.nodes.length c5, .int .i64 x5.root] 34) rfl)
      replace K7 := Lib.hid (TB.boxN (g := w5.heap.size) K7.out (.cells #[.slice A5 x5.nodes.length c5, .int .i64 x5.root] 34) rfl)
      replace K9 := Lib.hid (TB.boxN (g := w5.heap.size) K9.out (.cells #[.slice A5 x5.nodes.length c5, .int .i64 x5.root] 34) rfl)
      have d90 : (w5.alloc (.cells #[.slice A5 x5.nodes.length c5, .int .i64 x5.root] 34)).cell? ⟨w4.heap.size, 0, none⟩ = some (.slice A4 x4.nodes.length c4) := K9.out.blk.cell 0
      have d91 : (w5.alloc (.cells #[.slice A5 x5.nodes.length c5, .int .i64 x5.root] 34)).cell? ⟨w4.heap.size, 1, none⟩ = some (.int .i64 x4.root) := K9.out.blk.cell 1
      have d50 : (w5.alloc (.cells #[.slice A5 x5.nodes.length c5, .int .i64 x5.root] 34)).cell? ⟨w.heap.size + 1 + 1, 0, none⟩ = some (.slice Ac tc.nodes.length cc) := K5.out.blk.cell 0
      have d51 : (w5.alloc (.cells #[.slice A5 x5.nodes.length c5, .int .i64 x5.root] 34)).cell? ⟨w.heap.size + 1 + 1, 1, none⟩ = some (.int .i64 tc.root) := K5.out.blk.cell 1
      go_wp2_with fail
      clear d90 d91 d50 d51
      refine Calls.mono (seq2_c HE.out HL.out K9.out.tree K5.out.tree (by have := HZ.out; have := Z4.out; omega) (by simp)) ?_
      rintro e w6 ⟨A6, c6, x6, rfl, X6, V6, B6⟩
      rw [show ofEB seqD [x4, tc] = true from by rw [ofEB_seq]; exact decide_eq_true (by simp [R4.out, RC.out])]
      replace HE := Lib.hid (HE.out.below B6.out)
      replace HL := Lib.hid (HL.out.below B6.out)
      replace K3 := Lib.hid (K3.out.below B6.out)
      replace K4 := Lib.hid (K4.out.below B6.out)
      replace K5 := Lib.hid (K5.out.below B6.out)
      replace K7 := Lib.hid (K7.out.below B6.out)
      replace K9 := Lib.hid (K9.out.below B6.out)
      replace K11 := Lib.hid (K11.out.below B6.out)
      have R6 := Lib.hid (show RightT x6 by rw [X6.out]; exact seq_right (by simp [R4.out, RC.out]))
      have Z6 := Lib.hid (show x6.nodes.length ≤ 1 + (x4.nodes.length + (tc.nodes.length)) by rw [X6.out]; exact Nat.le_trans (seq_len (by simp [R4.out, RC.out])) (by simp))
      replace HG := Lib.hid (ge_box (g := w6.heap.size) HG.out HE.out rfl)
      replace HN := Lib.hid (nd_box (g := w6.heap.size) HN.out HL.out rfl)
      have K13 := Lib.hid (TB.newN (g := w6.heap.size) V6.out rfl)
      replace HE := Lib.hid (HE.out.alloc (.cells #[.slice A6 x6.nodes.length c6, .int .i64 x6.root] 34))
      replace HL := Lib.hid (BL.boxN (g := w6.heap.size) HL.out (.cells #[.slice A6 x6.nodes.length c6, .int .i64 x6.root] 34) rfl)
      replace K3 := Lib.hid (TB.boxN (g := w6.heap.size) K3.out (.cells #[.slice A6 x6.nodes.length c6, .int .i64 x6.root] 34) rfl)
      replace K4 := Lib.hid (TB.boxN (g := w6.heap.size) K4.out (.cells #[.slice A6 x6.nodes.length c6, .int .i64 x6.root] 34) rfl)
      replace K5 := Lib.hid (TB.boxN (g := w6.heap.size) K5.out (.cells #[.slice A6 x6.nodes.length c6, .int .i64 x6.root] 34) rfl)
      replace K7 := Lib.hid (TB.boxN (g := w6.heap.size) K7.out (.cells #[.slice A6 x6.nodes.length c6, .int .i64 x6.root] 34) rfl)
      replace K9 := Lib.hid (TB.boxN (g := w6.heap.size) K9.out (.cells #[.slice A6 x6.nodes.length c6, .int .i64 x6.root] 34) rfl)
      replace K11 := Lib.hid (TB.boxN (g := w6.heap.size) K11.out (.cells #[.slice A6 x6.nodes.length c6, .int .i64 x6.root] 34) rfl)
      have d30 : (w6.alloc (.cells #[.slice A6 x6.nodes.length c6, .int .i64 x6.root] 34)).cell? ⟨w.heap.size, 0, none⟩ = some (.slice Aa ta.nodes.length ca) := K3.out.blk.cell 0
      have d31 : (w6.alloc (.cells #[.slice A6 x6.nodes.length c6, .int .i64 x6.root] 34)).cell? ⟨w.heap.size, 1, none⟩ = some (.int .i64 ta.root) := K3.out.blk.cell 1
      have d110 : (w6.alloc (.cells #[.slice A6 x6.nodes.length c6, .int .i64 x6.root] 34)).cell? ⟨w5.heap.size, 0, none⟩ = some (.slice A5 x5.nodes.length c5) := K11.out.blk.cell 0
      have d111 : (w6.alloc (.cells #[.slice A6 x6.nodes.length c6, .int .i64 x6.root] 34)).cell? ⟨w5.heap.size, 1, none⟩ = some (.int .i64 x5.root) := K11.out.blk.cell 1
      go_wp2_with fail
      clear d30 d31 d110 d111
      refine Calls.mono (seq2_c HE.out HL.out K3.out.tree K11.out.tree (by have := HZ.out; have := Z5.out; omega) (by simp)) ?_
      rintro e w7 ⟨A7, c7, x7, rfl, X7, V7, B7⟩
      rw [show ofEB seqD [ta, x5] = true from by rw [ofEB_seq]; exact decide_eq_true (by simp [RA.out, R5.out])]
      replace HE := Lib.hid (HE.out.below B7.out)
      replace HL := Lib.hid (HL.out.below B7.out)
      replace K3 := Lib.hid (K3.out.below B7.out)
      replace K4 := Lib.hid (K4.out.below B7.out)
      replace K5 := Lib.hid (K5.out.below B7.out)
      replace K7 := Lib.hid (K7.out.below B7.out)
      replace K9 := Lib.hid (K9.out.below B7.out)
      replace K11 := Lib.hid (K11.out.below B7.out)
      replace K13 := Lib.hid (K13.out.below B7.out)
      have R7 := Lib.hid (show RightT x7 by rw [X7.out]; exact seq_right (by simp [RA.out, R5.out]))
      have Z7 := Lib.hid (show x7.nodes.length ≤ 1 + (ta.nodes.length + (x5.nodes.length)) by rw [X7.out]; exact Nat.le_trans (seq_len (by simp [RA.out, R5.out])) (by simp))
      replace HG := Lib.hid (ge_box (g := w7.heap.size) HG.out HE.out rfl)
      replace HN := Lib.hid (nd_box (g := w7.heap.size) HN.out HL.out rfl)
      have K15 := Lib.hid (TB.newN (g := w7.heap.size) V7.out rfl)
      replace HE := Lib.hid (HE.out.alloc (.cells #[.slice A7 x7.nodes.length c7, .int .i64 x7.root] 34))
      replace HL := Lib.hid (BL.boxN (g := w7.heap.size) HL.out (.cells #[.slice A7 x7.nodes.length c7, .int .i64 x7.root] 34) rfl)
      replace K3 := Lib.hid (TB.boxN (g := w7.heap.size) K3.out (.cells #[.slice A7 x7.nodes.length c7, .int .i64 x7.root] 34) rfl)
      replace K4 := Lib.hid (TB.boxN (g := w7.heap.size) K4.out (.cells #[.slice A7 x7.nodes.length c7, .int .i64 x7.root] 34) rfl)
      replace K5 := Lib.hid (TB.boxN (g := w7.heap.size) K5.out (.cells #[.slice A7 x7.nodes.length c7, .int .i64 x7.root] 34) rfl)
      replace K7 := Lib.hid (TB.boxN (g := w7.heap.size) K7.out (.cells #[.slice A7 x7.nodes.length c7, .int .i64 x7.root] 34) rfl)
      replace K9 := Lib.hid (TB.boxN (g := w7.heap.size) K9.out (.cells #[.slice A7 x7.nodes.length c7, .int .i64 x7.root] 34) rfl)
      replace K11 := Lib.hid (TB.boxN (g := w7.heap.size) K11.out (.cells #[.slice A7 x7.nodes.length c7, .int .i64 x7.root] 34) rfl)
      replace K13 := Lib.hid (TB.boxN (g := w7.heap.size) K13.out (.cells #[.slice A7 x7.nodes.length c7, .int .i64 x7.root] 34) rfl)
      have d130 : (w7.alloc (.cells #[.slice A7 x7.nodes.length c7, .int .i64 x7.root] 34)).cell? ⟨w6.heap.size, 0, none⟩ = some (.slice A6 x6.nodes.length c6) := K13.out.blk.cell 0
      have d131 : (w7.alloc (.cells #[.slice A7 x7.nodes.length c7, .int .i64 x7.root] 34)).cell? ⟨w6.heap.size, 1, none⟩ = some (.int .i64 x6.root) := K13.out.blk.cell 1
      have d70 : (w7.alloc (.cells #[.slice A7 x7.nodes.length c7, .int .i64 x7.root] 34)).cell? ⟨w3.heap.size, 0, none⟩ = some (.slice A3 x3.nodes.length c3) := K7.out.blk.cell 0
      have d71 : (w7.alloc (.cells #[.slice A7 x7.nodes.length c7, .int .i64 x7.root] 34)).cell? ⟨w3.heap.size, 1, none⟩ = some (.int .i64 x3.root) := K7.out.blk.cell 1
      go_wp2_with fail
      clear d130 d131 d70 d71
      refine Calls.mono (is_cc HE.out K13.out.tree K7.out.tree (by rw [X6.out, X4.out, X3.out]; exact seq_left (ts := [ta, tb]) (us := [tc]) (by simp [RA.out, RB.out]) (by simp [RC.out])) (by have := HZ.out; have := Z6.out; have := Z4.out; omega) rfl) ?_
      rintro e w8 ⟨rfl, B8⟩
      replace HE := Lib.hid (HE.out.below B8.out)
      replace HL := Lib.hid (HL.out.below B8.out)
      replace K3 := Lib.hid (K3.out.below B8.out)
      replace K4 := Lib.hid (K4.out.below B8.out)
      replace K5 := Lib.hid (K5.out.below B8.out)
      replace K7 := Lib.hid (K7.out.below B8.out)
      replace K9 := Lib.hid (K9.out.below B8.out)
      replace K11 := Lib.hid (K11.out.below B8.out)
      replace K13 := Lib.hid (K13.out.below B8.out)
      replace K15 := Lib.hid (K15.out.below B8.out)
      have d150 : (w8).cell? ⟨w7.heap.size, 0, none⟩ = some (.slice A7 x7.nodes.length c7) := K15.out.blk.cell 0
      have d151 : (w8).cell? ⟨w7.heap.size, 1, none⟩ = some (.int .i64 x7.root) := K15.out.blk.cell 1
      have d70 : (w8).cell? ⟨w3.heap.size, 0, none⟩ = some (.slice A3 x3.nodes.length c3) := K7.out.blk.cell 0
      have d71 : (w8).cell? ⟨w3.heap.size, 1, none⟩ = some (.int .i64 x3.root) := K7.out.blk.cell 1
      go_wp2_with fail
      clear d150 d151 d70 d71
      refine Calls.mono (is_cc HE.out K15.out.tree K7.out.tree (by rw [X7.out, X5.out, X3.out]; exact seq_right_ (ts := [ta]) (us := [tb, tc]) (by simp [RA.out]) (by simp [RB.out, RC.out])) (by have := HZ.out; have := Z7.out; have := Z5.out; omega) rfl) ?_
      rintro e w9 ⟨rfl, B9⟩
      replace HE := Lib.hid (HE.out.below B9.out)
      replace HL := Lib.hid (HL.out.below B9.out)
      replace K3 := Lib.hid (K3.out.below B9.out)
      replace K4 := Lib.hid (K4.out.below B9.out)
      replace K5 := Lib.hid (K5.out.below B9.out)
      replace K7 := Lib.hid (K7.out.below B9.out)
      replace K9 := Lib.hid (K9.out.below B9.out)
      replace K11 := Lib.hid (K11.out.below B9.out)
      replace K13 := Lib.hid (K13.out.below B9.out)
      replace K15 := Lib.hid (K15.out.below B9.out)
      have d30 : (w9).cell? ⟨w.heap.size, 0, none⟩ = some (.slice Aa ta.nodes.length ca) := K3.out.blk.cell 0
      have d31 : (w9).cell? ⟨w.heap.size, 1, none⟩ = some (.int .i64 ta.root) := K3.out.blk.cell 1
      have d40 : (w9).cell? ⟨w.heap.size + 1, 0, none⟩ = some (.slice Ab tb.nodes.length cb) := K4.out.blk.cell 0
      have d41 : (w9).cell? ⟨w.heap.size + 1, 1, none⟩ = some (.int .i64 tb.root) := K4.out.blk.cell 1
      have d50 : (w9).cell? ⟨w.heap.size + 1 + 1, 0, none⟩ = some (.slice Ac tc.nodes.length cc) := K5.out.blk.cell 0
      have d51 : (w9).cell? ⟨w.heap.size + 1 + 1, 1, none⟩ = some (.int .i64 tc.root) := K5.out.blk.cell 1
      go_wp2_with fail
      clear d30 d31 d40 d41 d50 d51
      refine Calls.mono (choice3_c HE.out HL.out K3.out.tree K4.out.tree K5.out.tree (by have := HZ.out; omega) (by simp)) ?_
      rintro e w10 ⟨A10, c10, x10, rfl, X10, V10, B10⟩
      rw [show ofEB choiceD [ta, tb, tc] = true from by rw [ofEB_choice]; exact decide_eq_true (by simp [RA.out, RB.out, RC.out])]
      replace HE := Lib.hid (HE.out.below B10.out)
      replace HL := Lib.hid (HL.out.below B10.out)
      replace K3 := Lib.hid (K3.out.below B10.out)
      replace K4 := Lib.hid (K4.out.below B10.out)
      replace K5 := Lib.hid (K5.out.below B10.out)
      replace K7 := Lib.hid (K7.out.below B10.out)
      replace K9 := Lib.hid (K9.out.below B10.out)
      replace K11 := Lib.hid (K11.out.below B10.out)
      replace K13 := Lib.hid (K13.out.below B10.out)
      replace K15 := Lib.hid (K15.out.below B10.out)
      have R10 := Lib.hid (show RightT x10 by rw [X10.out]; exact choice_right (by simp [RA.out, RB.out, RC.out]))
      have Z10 := Lib.hid (show x10.nodes.length ≤ 1 + (ta.nodes.length + (tb.nodes.length + (tc.nodes.length))) by rw [X10.out]; exact Nat.le_trans (choice_len (by simp [RA.out, RB.out, RC.out])) (by simp))
      replace HG := Lib.hid (ge_box (g := w10.heap.size) HG.out HE.out rfl)
      replace HN := Lib.hid (nd_box (g := w10.heap.size) HN.out HL.out rfl)
      have K17 := Lib.hid (TB.newN (g := w10.heap.size) V10.out rfl)
      replace HE := Lib.hid (HE.out.alloc (.cells #[.slice A10 x10.nodes.length c10, .int .i64 x10.root] 34))
      replace HL := Lib.hid (BL.boxN (g := w10.heap.size) HL.out (.cells #[.slice A10 x10.nodes.length c10, .int .i64 x10.root] 34) rfl)
      replace K3 := Lib.hid (TB.boxN (g := w10.heap.size) K3.out (.cells #[.slice A10 x10.nodes.length c10, .int .i64 x10.root] 34) rfl)
      replace K4 := Lib.hid (TB.boxN (g := w10.heap.size) K4.out (.cells #[.slice A10 x10.nodes.length c10, .int .i64 x10.root] 34) rfl)
      replace K5 := Lib.hid (TB.boxN (g := w10.heap.size) K5.out (.cells #[.slice A10 x10.nodes.length c10, .int .i64 x10.root] 34) rfl)
      replace K7 := Lib.hid (TB.boxN (g := w10.heap.size) K7.out (.cells #[.slice A10 x10.nodes.length c10, .int .i64 x10.root] 34) rfl)
      replace K9 := Lib.hid (TB.boxN (g := w10.heap.size) K9.out (.cells #[.slice A10 x10.nodes.length c10, .int .i64 x10.root] 34) rfl)
      replace K11 := Lib.hid (TB.boxN (g := w10.heap.size) K11.out (.cells #[.slice A10 x10.nodes.length c10, .int .i64 x10.root] 34) rfl)
      replace K13 := Lib.hid (TB.boxN (g := w10.heap.size) K13.out (.cells #[.slice A10 x10.nodes.length c10, .int .i64 x10.root] 34) rfl)
      replace K15 := Lib.hid (TB.boxN (g := w10.heap.size) K15.out (.cells #[.slice A10 x10.nodes.length c10, .int .i64 x10.root] 34) rfl)
      have d30 : (w10.alloc (.cells #[.slice A10 x10.nodes.length c10, .int .i64 x10.root] 34)).cell? ⟨w.heap.size, 0, none⟩ = some (.slice Aa ta.nodes.length ca) := K3.out.blk.cell 0
      have d31 : (w10.alloc (.cells #[.slice A10 x10.nodes.length c10, .int .i64 x10.root] 34)).cell? ⟨w.heap.size, 1, none⟩ = some (.int .i64 ta.root) := K3.out.blk.cell 1
      have d40 : (w10.alloc (.cells #[.slice A10 x10.nodes.length c10, .int .i64 x10.root] 34)).cell? ⟨w.heap.size + 1, 0, none⟩ = some (.slice Ab tb.nodes.length cb) := K4.out.blk.cell 0
      have d41 : (w10.alloc (.cells #[.slice A10 x10.nodes.length c10, .int .i64 x10.root] 34)).cell? ⟨w.heap.size + 1, 1, none⟩ = some (.int .i64 tb.root) := K4.out.blk.cell 1
      go_wp2_with fail
      clear d30 d31 d40 d41
      refine Calls.mono (choice2_c HE.out HL.out K3.out.tree K4.out.tree (by have := HZ.out; omega) (by simp)) ?_
      rintro e w11 ⟨A11, c11, x11, rfl, X11, V11, B11⟩
      rw [show ofEB choiceD [ta, tb] = true from by rw [ofEB_choice]; exact decide_eq_true (by simp [RA.out, RB.out])]
      replace HE := Lib.hid (HE.out.below B11.out)
      replace HL := Lib.hid (HL.out.below B11.out)
      replace K3 := Lib.hid (K3.out.below B11.out)
      replace K4 := Lib.hid (K4.out.below B11.out)
      replace K5 := Lib.hid (K5.out.below B11.out)
      replace K7 := Lib.hid (K7.out.below B11.out)
      replace K9 := Lib.hid (K9.out.below B11.out)
      replace K11 := Lib.hid (K11.out.below B11.out)
      replace K13 := Lib.hid (K13.out.below B11.out)
      replace K15 := Lib.hid (K15.out.below B11.out)
      replace K17 := Lib.hid (K17.out.below B11.out)
      have R11 := Lib.hid (show RightT x11 by rw [X11.out]; exact choice_right (by simp [RA.out, RB.out]))
      have Z11 := Lib.hid (show x11.nodes.length ≤ 1 + (ta.nodes.length + (tb.nodes.length)) by rw [X11.out]; exact Nat.le_trans (choice_len (by simp [RA.out, RB.out])) (by simp))
      have e90 : (w11).cell? ⟨w4.heap.size, 0, none⟩ = some (.slice A4 x4.nodes.length c4) := K9.out.blk.cell 0
      have f90 : (w11).frozen? ⟨w4.heap.size, 0, none⟩ = false := K9.out.frozen 0
      have e91 : (w11).cell? ⟨w4.heap.size, 1, none⟩ = some (.int .i64 x4.root) := K9.out.blk.cell 1
      have f91 : (w11).frozen? ⟨w4.heap.size, 1, none⟩ = false := K9.out.frozen 1
      replace K3 := Lib.hid (K3.out.far (List.mem_of_getElem? (i := 4) rfl) (nodup_ne HN.out 8 4 (by decide) rfl rfl) (.slice A11 x11.nodes.length c11) (.int .i64 x11.root))
      replace K4 := Lib.hid (K4.out.far (List.mem_of_getElem? (i := 4) rfl) (nodup_ne HN.out 7 4 (by decide) rfl rfl) (.slice A11 x11.nodes.length c11) (.int .i64 x11.root))
      replace K5 := Lib.hid (K5.out.far (List.mem_of_getElem? (i := 4) rfl) (nodup_ne HN.out 6 4 (by decide) rfl rfl) (.slice A11 x11.nodes.length c11) (.int .i64 x11.root))
      replace K7 := Lib.hid (K7.out.far (List.mem_of_getElem? (i := 4) rfl) (nodup_ne HN.out 5 4 (by decide) rfl rfl) (.slice A11 x11.nodes.length c11) (.int .i64 x11.root))
      replace K11 := Lib.hid (K11.out.far (List.mem_of_getElem? (i := 4) rfl) (nodup_ne HN.out 3 4 (by decide) rfl rfl) (.slice A11 x11.nodes.length c11) (.int .i64 x11.root))
      replace K13 := Lib.hid (K13.out.far (List.mem_of_getElem? (i := 4) rfl) (nodup_ne HN.out 2 4 (by decide) rfl rfl) (.slice A11 x11.nodes.length c11) (.int .i64 x11.root))
      replace K15 := Lib.hid (K15.out.far (List.mem_of_getElem? (i := 4) rfl) (nodup_ne HN.out 1 4 (by decide) rfl rfl) (.slice A11 x11.nodes.length c11) (.int .i64 x11.root))
      replace K17 := Lib.hid (K17.out.far (List.mem_of_getElem? (i := 4) rfl) (nodup_ne HN.out 0 4 (by decide) rfl rfl) (.slice A11 x11.nodes.length c11) (.int .i64 x11.root))
      replace K9 := Lib.hid (K9.out.set2 (List.mem_of_getElem? (i := 4) rfl) V11.out)
      replace HE := Lib.hid (HE.out.set2 (HG.out _ (List.mem_of_getElem? (i := 4) rfl)) (.slice A11 x11.nodes.length c11) (.int .i64 x11.root))
      replace HL := Lib.hid (HL.out.set2 w4.heap.size (.slice A11 x11.nodes.length c11) (.int .i64 x11.root))
      have d40 : ((w11.setCell ⟨w4.heap.size, 0, none⟩ (.slice A11 x11.nodes.length c11)).setCell ⟨w4.heap.size, 1, none⟩ (.int .i64 x11.root)).cell? ⟨w.heap.size + 1, 0, none⟩ = some (.slice Ab tb.nodes.length cb) := K4.out.blk.cell 0
      have d41 : ((w11.setCell ⟨w4.heap.size, 0, none⟩ (.slice A11 x11.nodes.length c11)).setCell ⟨w4.heap.size, 1, none⟩ (.int .i64 x11.root)).cell? ⟨w.heap.size + 1, 1, none⟩ = some (.int .i64 tb.root) := K4.out.blk.cell 1
      have d50 : ((w11.setCell ⟨w4.heap.size, 0, none⟩ (.slice A11 x11.nodes.length c11)).setCell ⟨w4.heap.size, 1, none⟩ (.int .i64 x11.root)).cell? ⟨w.heap.size + 1 + 1, 0, none⟩ = some (.slice Ac tc.nodes.length cc) := K5.out.blk.cell 0
      have d51 : ((w11.setCell ⟨w4.heap.size, 0, none⟩ (.slice A11 x11.nodes.length c11)).setCell ⟨w4.heap.size, 1, none⟩ (.int .i64 x11.root)).cell? ⟨w.heap.size + 1 + 1, 1, none⟩ = some (.int .i64 tc.root) := K5.out.blk.cell 1
      go_wp2_with fail
      clear d40 d41 d50 d51 e90 f90 e91 f91
      refine Calls.mono (choice2_c HE.out HL.out K4.out.tree K5.out.tree (by have := HZ.out; omega) (by simp)) ?_
      rintro e w12 ⟨A12, c12, x12, rfl, X12, V12, B12⟩
      rw [show ofEB choiceD [tb, tc] = true from by rw [ofEB_choice]; exact decide_eq_true (by simp [RB.out, RC.out])]
      replace HE := Lib.hid (HE.out.below B12.out)
      replace HL := Lib.hid (HL.out.below B12.out)
      replace K3 := Lib.hid (K3.out.below B12.out)
      replace K4 := Lib.hid (K4.out.below B12.out)
      replace K5 := Lib.hid (K5.out.below B12.out)
      replace K7 := Lib.hid (K7.out.below B12.out)
      replace K9 := Lib.hid (K9.out.below B12.out)
      replace K11 := Lib.hid (K11.out.below B12.out)
      replace K13 := Lib.hid (K13.out.below B12.out)
      replace K15 := Lib.hid (K15.out.below B12.out)
      replace K17 := Lib.hid (K17.out.below B12.out)
      have R12 := Lib.hid (show RightT x12 by rw [X12.out]; exact choice_right (by simp [RB.out, RC.out]))
      have Z12 := Lib.hid (show x12.nodes.length ≤ 1 + (tb.nodes.length + (tc.nodes.length)) by rw [X12.out]; exact Nat.le_trans (choice_len (by simp [RB.out, RC.out])) (by simp))
      have e110 : (w12).cell? ⟨w5.heap.size, 0, none⟩ = some (.slice A5 x5.nodes.length c5) := K11.out.blk.cell 0
      have f110 : (w12).frozen? ⟨w5.heap.size, 0, none⟩ = false := K11.out.frozen 0
      have e111 : (w12).cell? ⟨w5.heap.size, 1, none⟩ = some (.int .i64 x5.root) := K11.out.blk.cell 1
      have f111 : (w12).frozen? ⟨w5.heap.size, 1, none⟩ = false := K11.out.frozen 1
      replace K3 := Lib.hid (K3.out.far (List.mem_of_getElem? (i := 3) rfl) (nodup_ne HN.out 8 3 (by decide) rfl rfl) (.slice A12 x12.nodes.length c12) (.int .i64 x12.root))
      replace K4 := Lib.hid (K4.out.far (List.mem_of_getElem? (i := 3) rfl) (nodup_ne HN.out 7 3 (by decide) rfl rfl) (.slice A12 x12.nodes.length c12) (.int .i64 x12.root))
      replace K5 := Lib.hid (K5.out.far (List.mem_of_getElem? (i := 3) rfl) (nodup_ne HN.out 6 3 (by decide) rfl rfl) (.slice A12 x12.nodes.length c12) (.int .i64 x12.root))
      replace K7 := Lib.hid (K7.out.far (List.mem_of_getElem? (i := 3) rfl) (nodup_ne HN.out 5 3 (by decide) rfl rfl) (.slice A12 x12.nodes.length c12) (.int .i64 x12.root))
      replace K9 := Lib.hid (K9.out.far (List.mem_of_getElem? (i := 3) rfl) (nodup_ne HN.out 4 3 (by decide) rfl rfl) (.slice A12 x12.nodes.length c12) (.int .i64 x12.root))
      replace K13 := Lib.hid (K13.out.far (List.mem_of_getElem? (i := 3) rfl) (nodup_ne HN.out 2 3 (by decide) rfl rfl) (.slice A12 x12.nodes.length c12) (.int .i64 x12.root))
      replace K15 := Lib.hid (K15.out.far (List.mem_of_getElem? (i := 3) rfl) (nodup_ne HN.out 1 3 (by decide) rfl rfl) (.slice A12 x12.nodes.length c12) (.int .i64 x12.root))
      replace K17 := Lib.hid (K17.out.far (List.mem_of_getElem? (i := 3) rfl) (nodup_ne HN.out 0 3 (by decide) rfl rfl) (.slice A12 x12.nodes.length c12) (.int .i64 x12.root))
      replace K11 := Lib.hid (K11.out.set2 (List.mem_of_getElem? (i := 3) rfl) V12.out)
      replace HE := Lib.hid (HE.out.set2 (HG.out _ (List.mem_of_getElem? (i := 3) rfl)) (.slice A12 x12.nodes.length c12) (.int .i64 x12.root))
      replace HL := Lib.hid (HL.out.set2 w5.heap.size (.slice A12 x12.nodes.length c12) (.int .i64 x12.root))
      have d90 : ((w12.setCell ⟨w5.heap.size, 0, none⟩ (.slice A12 x12.nodes.length c12)).setCell ⟨w5.heap.size, 1, none⟩ (.int .i64 x12.root)).cell? ⟨w4.heap.size, 0, none⟩ = some (.slice A11 x11.nodes.length c11) := K9.out.blk.cell 0
      have d91 : ((w12.setCell ⟨w5.heap.size, 0, none⟩ (.slice A12 x12.nodes.length c12)).setCell ⟨w5.heap.size, 1, none⟩ (.int .i64 x12.root)).cell? ⟨w4.heap.size, 1, none⟩ = some (.int .i64 x11.root) := K9.out.blk.cell 1
      have d50 : ((w12.setCell ⟨w5.heap.size, 0, none⟩ (.slice A12 x12.nodes.length c12)).setCell ⟨w5.heap.size, 1, none⟩ (.int .i64 x12.root)).cell? ⟨w.heap.size + 1 + 1, 0, none⟩ = some (.slice Ac tc.nodes.length cc) := K5.out.blk.cell 0
      have d51 : ((w12.setCell ⟨w5.heap.size, 0, none⟩ (.slice A12 x12.nodes.length c12)).setCell ⟨w5.heap.size, 1, none⟩ (.int .i64 x12.root)).cell? ⟨w.heap.size + 1 + 1, 1, none⟩ = some (.int .i64 tc.root) := K5.out.blk.cell 1
      go_wp2_with fail
      clear d90 d91 d50 d51 e110 f110 e111 f111
      refine Calls.mono (choice2_c HE.out HL.out K9.out.tree K5.out.tree (by have := HZ.out; have := Z11.out; omega) (by simp)) ?_
      rintro e w13 ⟨A13, c13, x13, rfl, X13, V13, B13⟩
      rw [show ofEB choiceD [x11, tc] = true from by rw [ofEB_choice]; exact decide_eq_true (by simp [R11.out, RC.out])]
      replace HE := Lib.hid (HE.out.below B13.out)
      replace HL := Lib.hid (HL.out.below B13.out)
      replace K3 := Lib.hid (K3.out.below B13.out)
      replace K4 := Lib.hid (K4.out.below B13.out)
      replace K5 := Lib.hid (K5.out.below B13.out)
      replace K7 := Lib.hid (K7.out.below B13.out)
      replace K9 := Lib.hid (K9.out.below B13.out)
      replace K11 := Lib.hid (K11.out.below B13.out)
      replace K13 := Lib.hid (K13.out.below B13.out)
      replace K15 := Lib.hid (K15.out.below B13.out)
      replace K17 := Lib.hid (K17.out.below B13.out)
      have R13 := Lib.hid (show RightT x13 by rw [X13.out]; exact choice_right (by simp [R11.out, RC.out]))
      have Z13 := Lib.hid (show x13.nodes.length ≤ 1 + (x11.nodes.length + (tc.nodes.length)) by rw [X13.out]; exact Nat.le_trans (choice_len (by simp [R11.out, RC.out])) (by simp))
      have e130 : (w13).cell? ⟨w6.heap.size, 0, none⟩ = some (.slice A6 x6.nodes.length c6) := K13.out.blk.cell 0
      have f130 : (w13).frozen? ⟨w6.heap.size, 0, none⟩ = false := K13.out.frozen 0
      have e131 : (w13).cell? ⟨w6.heap.size, 1, none⟩ = some (.int .i64 x6.root) := K13.out.blk.cell 1
      have f131 : (w13).frozen? ⟨w6.heap.size, 1, none⟩ = false := K13.out.frozen 1
      replace K3 := Lib.hid (K3.out.far (List.mem_of_getElem? (i := 2) rfl) (nodup_ne HN.out 8 2 (by decide) rfl rfl) (.slice A13 x13.nodes.length c13) (.int .i64 x13.root))
      replace K4 := Lib.hid (K4.out.far (List.mem_of_getElem? (i := 2) rfl) (nodup_ne HN.out 7 2 (by decide) rfl rfl) (.slice A13 x13.nodes.length c13) (.int .i64 x13.root))
      replace K5 := Lib.hid (K5.out.far (List.mem_of_getElem? (i := 2) rfl) (nodup_ne HN.out 6 2 (by decide) rfl rfl) (.slice A13 x13.nodes.length c13) (.int .i64 x13.root))
      replace K7 := Lib.hid (K7.out.far (List.mem_of_getElem? (i := 2) rfl) (nodup_ne HN.out 5 2 (by decide) rfl rfl) (.slice A13 x13.nodes.length c13) (.int .i64 x13.root))
      replace K9 := Lib.hid (K9.out.far (List.mem_of_getElem? (i := 2) rfl) (nodup_ne HN.out 4 2 (by decide) rfl rfl) (.slice A13 x13.nodes.length c13) (.int .i64 x13.root))
      replace K11 := Lib.hid (K11.out.far (List.mem_of_getElem? (i := 2) rfl) (nodup_ne HN.out 3 2 (by decide) rfl rfl) (.slice A13 x13.nodes.length c13) (.int .i64 x13.root))
      replace K15 := Lib.hid (K15.out.far (List.mem_of_getElem? (i := 2) rfl) (nodup_ne HN.out 1 2 (by decide) rfl rfl) (.slice A13 x13.nodes.length c13) (.int .i64 x13.root))
      replace K17 := Lib.hid (K17.out.far (List.mem_of_getElem? (i := 2) rfl) (nodup_ne HN.out 0 2 (by decide) rfl rfl) (.slice A13 x13.nodes.length c13) (.int .i64 x13.root))
      replace K13 := Lib.hid (K13.out.set2 (List.mem_of_getElem? (i := 2) rfl) V13.out)
      replace HE := Lib.hid (HE.out.set2 (HG.out _ (List.mem_of_getElem? (i := 2) rfl)) (.slice A13 x13.nodes.length c13) (.int .i64 x13.root))
      replace HL := Lib.hid (HL.out.set2 w6.heap.size (.slice A13 x13.nodes.length c13) (.int .i64 x13.root))
      have d30 : ((w13.setCell ⟨w6.heap.size, 0, none⟩ (.slice A13 x13.nodes.length c13)).setCell ⟨w6.heap.size, 1, none⟩ (.int .i64 x13.root)).cell? ⟨w.heap.size, 0, none⟩ = some (.slice Aa ta.nodes.length ca) := K3.out.blk.cell 0
      have d31 : ((w13.setCell ⟨w6.heap.size, 0, none⟩ (.slice A13 x13.nodes.length c13)).setCell ⟨w6.heap.size, 1, none⟩ (.int .i64 x13.root)).cell? ⟨w.heap.size, 1, none⟩ = some (.int .i64 ta.root) := K3.out.blk.cell 1
      have d110 : ((w13.setCell ⟨w6.heap.size, 0, none⟩ (.slice A13 x13.nodes.length c13)).setCell ⟨w6.heap.size, 1, none⟩ (.int .i64 x13.root)).cell? ⟨w5.heap.size, 0, none⟩ = some (.slice A12 x12.nodes.length c12) := K11.out.blk.cell 0
      have d111 : ((w13.setCell ⟨w6.heap.size, 0, none⟩ (.slice A13 x13.nodes.length c13)).setCell ⟨w6.heap.size, 1, none⟩ (.int .i64 x13.root)).cell? ⟨w5.heap.size, 1, none⟩ = some (.int .i64 x12.root) := K11.out.blk.cell 1
      go_wp2_with fail
      clear d30 d31 d110 d111 e130 f130 e131 f131
      refine Calls.mono (choice2_c HE.out HL.out K3.out.tree K11.out.tree (by have := HZ.out; have := Z12.out; omega) (by simp)) ?_
      rintro e w14 ⟨A14, c14, x14, rfl, X14, V14, B14⟩
      rw [show ofEB choiceD [ta, x12] = true from by rw [ofEB_choice]; exact decide_eq_true (by simp [RA.out, R12.out])]
      replace HE := Lib.hid (HE.out.below B14.out)
      replace HL := Lib.hid (HL.out.below B14.out)
      replace K3 := Lib.hid (K3.out.below B14.out)
      replace K4 := Lib.hid (K4.out.below B14.out)
      replace K5 := Lib.hid (K5.out.below B14.out)
      replace K7 := Lib.hid (K7.out.below B14.out)
      replace K9 := Lib.hid (K9.out.below B14.out)
      replace K11 := Lib.hid (K11.out.below B14.out)
      replace K13 := Lib.hid (K13.out.below B14.out)
      replace K15 := Lib.hid (K15.out.below B14.out)
      replace K17 := Lib.hid (K17.out.below B14.out)
      have R14 := Lib.hid (show RightT x14 by rw [X14.out]; exact choice_right (by simp [RA.out, R12.out]))
      have Z14 := Lib.hid (show x14.nodes.length ≤ 1 + (ta.nodes.length + (x12.nodes.length)) by rw [X14.out]; exact Nat.le_trans (choice_len (by simp [RA.out, R12.out])) (by simp))
      have e150 : (w14).cell? ⟨w7.heap.size, 0, none⟩ = some (.slice A7 x7.nodes.length c7) := K15.out.blk.cell 0
      have f150 : (w14).frozen? ⟨w7.heap.size, 0, none⟩ = false := K15.out.frozen 0
      have e151 : (w14).cell? ⟨w7.heap.size, 1, none⟩ = some (.int .i64 x7.root) := K15.out.blk.cell 1
      have f151 : (w14).frozen? ⟨w7.heap.size, 1, none⟩ = false := K15.out.frozen 1
      replace K3 := Lib.hid (K3.out.far (List.mem_of_getElem? (i := 1) rfl) (nodup_ne HN.out 8 1 (by decide) rfl rfl) (.slice A14 x14.nodes.length c14) (.int .i64 x14.root))
      replace K4 := Lib.hid (K4.out.far (List.mem_of_getElem? (i := 1) rfl) (nodup_ne HN.out 7 1 (by decide) rfl rfl) (.slice A14 x14.nodes.length c14) (.int .i64 x14.root))
      replace K5 := Lib.hid (K5.out.far (List.mem_of_getElem? (i := 1) rfl) (nodup_ne HN.out 6 1 (by decide) rfl rfl) (.slice A14 x14.nodes.length c14) (.int .i64 x14.root))
      replace K7 := Lib.hid (K7.out.far (List.mem_of_getElem? (i := 1) rfl) (nodup_ne HN.out 5 1 (by decide) rfl rfl) (.slice A14 x14.nodes.length c14) (.int .i64 x14.root))
      replace K9 := Lib.hid (K9.out.far (List.mem_of_getElem? (i := 1) rfl) (nodup_ne HN.out 4 1 (by decide) rfl rfl) (.slice A14 x14.nodes.length c14) (.int .i64 x14.root))
      replace K11 := Lib.hid (K11.out.far (List.mem_of_getElem? (i := 1) rfl) (nodup_ne HN.out 3 1 (by decide) rfl rfl) (.slice A14 x14.nodes.length c14) (.int .i64 x14.root))
      replace K13 := Lib.hid (K13.out.far (List.mem_of_getElem? (i := 1) rfl) (nodup_ne HN.out 2 1 (by decide) rfl rfl) (.slice A14 x14.nodes.length c14) (.int .i64 x14.root))
      replace K17 := Lib.hid (K17.out.far (List.mem_of_getElem? (i := 1) rfl) (nodup_ne HN.out 0 1 (by decide) rfl rfl) (.slice A14 x14.nodes.length c14) (.int .i64 x14.root))
      replace K15 := Lib.hid (K15.out.set2 (List.mem_of_getElem? (i := 1) rfl) V14.out)
      replace HE := Lib.hid (HE.out.set2 (HG.out _ (List.mem_of_getElem? (i := 1) rfl)) (.slice A14 x14.nodes.length c14) (.int .i64 x14.root))
      replace HL := Lib.hid (HL.out.set2 w7.heap.size (.slice A14 x14.nodes.length c14) (.int .i64 x14.root))
      have d130 : ((w14.setCell ⟨w7.heap.size, 0, none⟩ (.slice A14 x14.nodes.length c14)).setCell ⟨w7.heap.size, 1, none⟩ (.int .i64 x14.root)).cell? ⟨w6.heap.size, 0, none⟩ = some (.slice A13 x13.nodes.length c13) := K13.out.blk.cell 0
      have d131 : ((w14.setCell ⟨w7.heap.size, 0, none⟩ (.slice A14 x14.nodes.length c14)).setCell ⟨w7.heap.size, 1, none⟩ (.int .i64 x14.root)).cell? ⟨w6.heap.size, 1, none⟩ = some (.int .i64 x13.root) := K13.out.blk.cell 1
      have d170 : ((w14.setCell ⟨w7.heap.size, 0, none⟩ (.slice A14 x14.nodes.length c14)).setCell ⟨w7.heap.size, 1, none⟩ (.int .i64 x14.root)).cell? ⟨w10.heap.size, 0, none⟩ = some (.slice A10 x10.nodes.length c10) := K17.out.blk.cell 0
      have d171 : ((w14.setCell ⟨w7.heap.size, 0, none⟩ (.slice A14 x14.nodes.length c14)).setCell ⟨w7.heap.size, 1, none⟩ (.int .i64 x14.root)).cell? ⟨w10.heap.size, 1, none⟩ = some (.int .i64 x10.root) := K17.out.blk.cell 1
      go_wp2_with fail
      clear d130 d131 d170 d171 e150 f150 e151 f151
      refine Calls.mono (is_cc HE.out K13.out.tree K17.out.tree (by rw [X13.out, X11.out, X10.out]; exact choice_left (ts := [ta, tb]) (us := [tc]) (by simp [RA.out, RB.out]) (by simp [RC.out]) (by simp)) (by have := HZ.out; have := Z13.out; have := Z11.out; omega) rfl) ?_
      rintro e w15 ⟨rfl, B15⟩
      replace HE := Lib.hid (HE.out.below B15.out)
      replace HL := Lib.hid (HL.out.below B15.out)
      replace K3 := Lib.hid (K3.out.below B15.out)
      replace K4 := Lib.hid (K4.out.below B15.out)
      replace K5 := Lib.hid (K5.out.below B15.out)
      replace K7 := Lib.hid (K7.out.below B15.out)
      replace K9 := Lib.hid (K9.out.below B15.out)
      replace K11 := Lib.hid (K11.out.below B15.out)
      replace K13 := Lib.hid (K13.out.below B15.out)
      replace K15 := Lib.hid (K15.out.below B15.out)
      replace K17 := Lib.hid (K17.out.below B15.out)
      have d150 : (w15).cell? ⟨w7.heap.size, 0, none⟩ = some (.slice A14 x14.nodes.length c14) := K15.out.blk.cell 0
      have d151 : (w15).cell? ⟨w7.heap.size, 1, none⟩ = some (.int .i64 x14.root) := K15.out.blk.cell 1
      have d170 : (w15).cell? ⟨w10.heap.size, 0, none⟩ = some (.slice A10 x10.nodes.length c10) := K17.out.blk.cell 0
      have d171 : (w15).cell? ⟨w10.heap.size, 1, none⟩ = some (.int .i64 x10.root) := K17.out.blk.cell 1
      go_wp2_with fail
      clear d150 d151 d170 d171
      refine Calls.mono (is_cc HE.out K15.out.tree K17.out.tree (by rw [X14.out, X12.out, X10.out]; exact choice_right_ (ts := [ta]) (us := [tb, tc]) (by simp [RA.out]) (by simp [RB.out, RC.out]) (by simp)) (by have := HZ.out; have := Z14.out; have := Z12.out; omega) rfl) ?_
      rintro e w16 ⟨rfl, B16⟩
      replace HE := Lib.hid (HE.out.below B16.out)
      replace HL := Lib.hid (HL.out.below B16.out)
      replace K3 := Lib.hid (K3.out.below B16.out)
      replace K4 := Lib.hid (K4.out.below B16.out)
      replace K5 := Lib.hid (K5.out.below B16.out)
      replace K7 := Lib.hid (K7.out.below B16.out)
      replace K9 := Lib.hid (K9.out.below B16.out)
      replace K11 := Lib.hid (K11.out.below B16.out)
      replace K13 := Lib.hid (K13.out.below B16.out)
      replace K15 := Lib.hid (K15.out.below B16.out)
      replace K17 := Lib.hid (K17.out.below B16.out)
      go_wp2_with fail
      go_ret
      exact ⟨rfl, HE.out.bel⟩
    · have HR := Lib.hid hr
      clear hr
      refine Calls.mono (seq3_c HE.out HL.out K3.out.tree K4.out.tree K5.out.tree (by have := HZ.out; omega) (by simp)) ?_
      rintro e w3 ⟨A3, c3, x3, rfl, X3, V3, B3⟩
      rw [show ofEB seqD [ta, tb, tc] = false from by rw [ofEB_seq]; exact decide_eq_false HR.out]
      replace HE := Lib.hid (HE.out.below B3.out)
      replace HL := Lib.hid (HL.out.below B3.out)
      replace K3 := Lib.hid (K3.out.below B3.out)
      replace K4 := Lib.hid (K4.out.below B3.out)
      replace K5 := Lib.hid (K5.out.below B3.out)
      replace HG := Lib.hid (ge_box (g := w3.heap.size) HG.out HE.out rfl)
      replace HN := Lib.hid (nd_box (g := w3.heap.size) HN.out HL.out rfl)
      have K7 := Lib.hid (TB.newN (g := w3.heap.size) V3.out rfl)
      replace HE := Lib.hid (HE.out.alloc (.cells #[.slice A3 x3.nodes.length c3, .int .i64 x3.root] 34))
      replace HL := Lib.hid (BL.boxN (g := w3.heap.size) HL.out (.cells #[.slice A3 x3.nodes.length c3, .int .i64 x3.root] 34) rfl)
      replace K3 := Lib.hid (TB.boxN (g := w3.heap.size) K3.out (.cells #[.slice A3 x3.nodes.length c3, .int .i64 x3.root] 34) rfl)
      replace K4 := Lib.hid (TB.boxN (g := w3.heap.size) K4.out (.cells #[.slice A3 x3.nodes.length c3, .int .i64 x3.root] 34) rfl)
      replace K5 := Lib.hid (TB.boxN (g := w3.heap.size) K5.out (.cells #[.slice A3 x3.nodes.length c3, .int .i64 x3.root] 34) rfl)
      have d30 : (w3.alloc (.cells #[.slice A3 x3.nodes.length c3, .int .i64 x3.root] 34)).cell? ⟨w.heap.size, 0, none⟩ = some (.slice Aa ta.nodes.length ca) := K3.out.blk.cell 0
      have d31 : (w3.alloc (.cells #[.slice A3 x3.nodes.length c3, .int .i64 x3.root] 34)).cell? ⟨w.heap.size, 1, none⟩ = some (.int .i64 ta.root) := K3.out.blk.cell 1
      go_wp2_with fail
      clear d30 d31
      refine Calls.mono (right_c HE.out K3.out.tree (by have := HZ.out; omega)) ?_
      rintro e w4 ⟨rfl, B4⟩
      replace HE := Lib.hid (HE.out.below B4.out)
      replace HL := Lib.hid (HL.out.below B4.out)
      replace K3 := Lib.hid (K3.out.below B4.out)
      replace K4 := Lib.hid (K4.out.below B4.out)
      replace K5 := Lib.hid (K5.out.below B4.out)
      replace K7 := Lib.hid (K7.out.below B4.out)
      by_cases hA : RightT ta
      · rw [decide_eq_true hA]
        have HA := Lib.hid hA
        clear hA
        have d40 : (w4).cell? ⟨w.heap.size + 1, 0, none⟩ = some (.slice Ab tb.nodes.length cb) := K4.out.blk.cell 0
        have d41 : (w4).cell? ⟨w.heap.size + 1, 1, none⟩ = some (.int .i64 tb.root) := K4.out.blk.cell 1
        go_wp2_with fail
        clear d40 d41
        refine Calls.mono (right_c HE.out K4.out.tree (by have := HZ.out; omega)) ?_
        rintro e w5 ⟨rfl, B5⟩
        replace HE := Lib.hid (HE.out.below B5.out)
        replace HL := Lib.hid (HL.out.below B5.out)
        replace K3 := Lib.hid (K3.out.below B5.out)
        replace K4 := Lib.hid (K4.out.below B5.out)
        replace K5 := Lib.hid (K5.out.below B5.out)
        replace K7 := Lib.hid (K7.out.below B5.out)
        by_cases hB : RightT tb
        · rw [decide_eq_true hB]
          have HB := Lib.hid hB
          clear hB
          have d50 : (w5).cell? ⟨w.heap.size + 1 + 1, 0, none⟩ = some (.slice Ac tc.nodes.length cc) := K5.out.blk.cell 0
          have d51 : (w5).cell? ⟨w.heap.size + 1 + 1, 1, none⟩ = some (.int .i64 tc.root) := K5.out.blk.cell 1
          go_wp2_with fail
          clear d50 d51
          refine Calls.mono (right_c HE.out K5.out.tree (by have := HZ.out; omega)) ?_
          rintro e w6 ⟨rfl, B6⟩
          replace HE := Lib.hid (HE.out.below B6.out)
          replace HL := Lib.hid (HL.out.below B6.out)
          replace K3 := Lib.hid (K3.out.below B6.out)
          replace K4 := Lib.hid (K4.out.below B6.out)
          replace K5 := Lib.hid (K5.out.below B6.out)
          replace K7 := Lib.hid (K7.out.below B6.out)
          rw [decide_eq_false (fun hC : RightT tc => HR.out (by simp [HA.out, HB.out, hC]))]
          go_wp2_with fail
          go_ret
          exact ⟨rfl, HE.out.bel⟩
        · rw [decide_eq_false hB]
          clear hB
          go_wp2_with fail
          go_ret
          exact ⟨rfl, HE.out.bel⟩
      · rw [decide_eq_false hA]
        clear hA
        go_wp2_with fail
        go_ret
        exact ⟨rfl, HE.out.bel⟩
  · go_wp2_with fail
    refine Calls.mono (awake_c HE.out) ?_
    rintro e w2 ⟨rfl, B2⟩
    replace HE := Lib.hid (HE.out.below B2.out)
    replace HL := Lib.hid (HL.out.below B2.out)
    replace K3 := Lib.hid (K3.out.below B2.out)
    replace K4 := Lib.hid (K4.out.below B2.out)
    replace K5 := Lib.hid (K5.out.below B2.out)
    go_wp2_with fail
    go_ret
    exact ⟨rfl, HE.out.bel⟩
end Go.Proofs.YtclfpjfjebheoaaDoor
/- ExprBrackets: for every input the law answers true and the input reads as it did (the tied card: the listed package variables lie as their text lays them). No other condition. -/
namespace Go.Proofs.YtclfpjfjebheoaaDoor.ExprBrackets
open Go.ChangeShapes Go.WideShapes Go.ChangeAt Go.RowKit Go.ChangeMaps Go.WideElems

theorem own : ownKnob Tryd.prog.godebug = none := by kernel_rfl
theorem laidOut : laidOutB Tryd.prog = true := by kernel_rfl
theorem laid_data : Rows.exprBracketsRow.laid.filter (fun x => x.2.handleName?.isNone) = [("bonsai/tree.kids", Rows.laid_bonsai_tree_kids)] := by rfl
theorem prem_of {W : World} (h : laidMetH Tryd.prog Rows.exprBracketsRow.laid W) : KTab W ∧ TogTab W := ⟨ktab_of (rest := []) (laid_data ▸ (laidMetH_iff.1 h).1), tog_of h (List.mem_cons_of_mem _ (List.mem_singleton.2 rfl))⟩

set_option maxRecDepth 8000 in
theorem contract (H : Type) (enc : TypeId × Value → H) (W : World) (base : Nat) (args : Array Value) (ds gs : List (DataW H)) (before : List MemPlace)
    (hval : ∀ (j : Nat) t v, Tryd.f5.params[j]? = some t → args[j]? = some v → Value.okWide Tryd.prog W .any base t v)
    (hW : DataW.Whole enc Tryd.prog Tryd.f5.params.toList Rows.exprBracketsSpec.vars false W args.toList ds gs before) (hL : laidMetH Tryd.prog Rows.exprBracketsRow.laid W) :
    Calls Tryd.prog 5 args W fun e W' => ∃ v, e = .returned v ∧ Rows.exprBracketsSpec.post enc Tryd.prog Tryd.f5 false true false false W args v W' := by
  have hW' := hW
  have hlt : ∀ x ∈ before, x.block < W.heap.size := fun x hx => hW.lt x hx
  obtain ⟨p, q, hA0, hV, rfl, hfz, hnd⟩ := hW
  have hA : DataW.TrodAll enc Tryd.prog W 0 (fun _ => true) true Tryd.f5.params.toList args.toList ds p := hA0
  rw [Tryd.params5] at hA hval
  obtain ⟨v0, vs0, d0, ds0, p0, q0, hargs, rfl, rfl, h0, r0⟩ := trodAll_cons hA
  obtain ⟨v1, vs1, d1, ds1, p1, q1, rfl, rfl, rfl, h1, r1⟩ := trodAll_cons r0
  obtain ⟨v2, vs2, d2, ds2, p2, q2, rfl, rfl, rfl, h2, r2⟩ := trodAll_cons r1
  obtain ⟨rfl, rfl, rfl⟩ := trodAll_nil r2
  obtain rfl : args = #[v0, v1, v2] := by cases args; simp_all
  obtain ⟨rfl, rfl⟩ := trodVars_none hV
  obtain ⟨t0, w0⟩ := open_tree (hval 0 34 v0 rfl rfl) h0
  obtain ⟨t1, w1⟩ := open_tree (hval 1 34 v1 rfl rfl) h1
  obtain ⟨t2, w2⟩ := open_tree (hval 2 34 v2 rfl rfl) h2
  clear hA0
  refine (lexprbrackets_any t0 t1 t2 v0 v1 v2 W w0 w1 w2 (prem_of hL).1 (prem_of hL).2).mono fun e W' ⟨he, hb⟩ => ?_
  subst he
  exact ⟨_, rfl, post_true laidOut (by kernel_rfl) (by kernel_rfl) Tryd.underlying4 rfl rfl rfl rfl hW' hb⟩

noncomputable def laidWorld (os : Os) : World :=
  (setTab (setTab (World.holding Tryd.prog os ⟨#[], #[], []⟩) 1 (kidsTab.map (Value.int .i64))) 2 (togFns.map fun f => Value.func (.func f) #[] #[]))
theorem laid_met (os : Os) : laidMetH Tryd.prog Rows.exprBracketsRow.laid ((laidWorld os).forCall (fun _ _ => 0) ⟨#[], #[.agg #[.slice none 0 0, .int .i64 0], .agg #[.slice none 0 0, .int .i64 0], .agg #[.slice none 0 0, .int .i64 0]], []⟩).memory :=
  laidMetH_of_parts3 (fuel := 8) (laidMet_of_run' 8 (by kernel_rfl) (by kernel_rfl)) (by kernel_rfl) (by kernel_rfl)
theorem reads (os : Os) {H : Type} (enc : TypeId × Value → H) : ∃ places, DataW.whole enc Tryd.prog ((laidWorld os).forCall (fun _ _ => 0) ⟨#[], #[.agg #[.slice none 0 0, .int .i64 0], .agg #[.slice none 0 0, .int .i64 0], .agg #[.slice none 0 0, .int .i64 0]], []⟩).memory Tryd.f5.params.toList Rows.exprBracketsSpec.vars false #[Value.agg #[.slice none 0 0, .int .i64 0], Value.agg #[.slice none 0 0, .int .i64 0], Value.agg #[.slice none 0 0, .int .i64 0]].toList 8 = some ([.agg [.nil, .lit (.int .i64 0)], .agg [.nil, .lit (.int .i64 0)], .agg [.nil, .lit (.int .i64 0)]], [], places) :=
  ⟨[], by kernel_rfl⟩

set_option maxRecDepth 100000 in
theorem lifted (os : Os) (started : os.Started) (H : Type) (enc : TypeId × Value → H) (F : Stop.Interp) :
    ReturnsInHanded {} Tryd.checked os 5 .any ((OpenSpec.ofChange Rows.exprBracketsSpec).preRow enc Tryd.prog Tryd.f5 Rows.exprBracketsRow.domain false Rows.exprBracketsRow.laid) (((OpenSpec.ofChange Rows.exprBracketsSpec).at F).post enc Tryd.prog Tryd.f5 false true false false) := by
  obtain ⟨places, hx⟩ := reads os enc
  refine returnsInHanded_of_row (C := Tryd.checked) (s := OpenSpec.ofChange Rows.exprBracketsSpec) own started (by kernel_rfl) Tryd.func5
    (witness_row_at (enc := enc) (C := Tryd.checked) false (laidWorld os) #[.agg #[.slice none 0 0, .int .i64 0], .agg #[.slice none 0 0, .int .i64 0], .agg #[.slice none 0 0, .int .i64 0]] rfl (by kernel_rfl) (by kernel_rfl) (by kernel_rfl)
      (OpenSpec.preRow_of_cond 8 hx (by kernel_rfl) (fun k hk => by cases hk) (by kernel_rfl) (laid_met os))) ?_
  intro W base args ds gs before hval hW _ _ _ hL _ _
  exact contract H enc W base args ds gs before hval hW hL

theorem said : Rows.ExprBracketsSaid :=
  OpenClaim.holds_of_cond 5 Tryd.f5 rfl rfl rfl rfl rfl rfl rfl ⟨rfl, rfl, rfl, rfl, rfl⟩ rfl rfl rfl rfl rfl (by kernel_rfl) Tryd.func5 (by kernel_rfl)
    (of_decide_eq_true (by kernel_rfl)) (by unfold Func.isWrapper; first | (rw [if_pos (by decide +kernel)]; kernel_rfl) | (rw [if_neg (by decide +kernel)]; exact ⟨rfl, rfl⟩))
    (fun os started H enc _ F => by rw [OpenClaim.pre_eq_preRow]; exact lifted os started H enc F)

theorem plain (f : FuncId) (fn : Func) (hf : Tryd.pinned.checked.prog.funcNamed "bonsai/bonsailaw05.ExprBrackets" = some f) (hfn : Tryd.pinned.checked.prog.funcs[f]? = some fn) :
    false = Tryd.pinned.checked.prog.looks [] ∧ ∀ (j : Nat) t, fn.params[j]? = some t → Tryd.pinned.checked.prog.wantsStandIn t = false := by
  obtain rfl : f = 5 := Option.some.inj ((show Tryd.prog.funcNamed "bonsai/bonsailaw05.ExprBrackets" = some 5 by kernel_rfl).symm.trans hf) |>.symm
  obtain rfl : fn = Tryd.f5 := (Option.some.inj (Tryd.func5.symm.trans hfn)).symm
  refine ⟨by kernel_rfl, fun j t ht => ?_⟩
  have hall : Tryd.f5.params.toList.all (fun t => Tryd.prog.wantsStandIn t == false) = true := by kernel_rfl
  have := List.all_eq_true.1 hall t (Array.mem_toList_iff.2 (Array.mem_of_getElem? ht))
  exact eq_of_beq this

/-- THE CARD. -/
theorem card : Rows.ExprBracketsCardSaid :=
  Claim7.holds_tied_plain_at .later [] _ _ _ _ said (fun _ h => by cases h) (by kernel_rfl) (fun _ h => by cases h) exprBrackets_row_tie rfl ⟨rfl, rfl⟩ (by kernel_rfl) rfl plain (by kernel_rfl)
end Go.Proofs.YtclfpjfjebheoaaDoor.ExprBrackets

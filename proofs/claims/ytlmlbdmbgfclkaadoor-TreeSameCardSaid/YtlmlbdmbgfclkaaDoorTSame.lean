/- The law TreeSame, walked: it answers true. -/
import Derived.Test.YtlmlbdmbgfclkaaDoorTRow
import Derived.Test.YtlmlbdmbgfclkaaDoorBoxT
import Derived.Deep.RegionHeld3
import Derived.Deep.CutBlock
import Derived.Deep.Cut
namespace Go.Proofs.YtlmlbdmbgfclkaaDoor
set_option linter.unusedSimpArgs false
open Go.RowKit
open Classical

theorem RTrees.three {w : World} {S : Nat → Prop} {g : Nat} {ty : TypeId} {t u s : Tr} {nv mv lv : Value} (hb : Blk w g ty #[nv, .int .i64 t.root, mv, .int .i64 u.root, lv, .int .i64 s.root]) (hS : S g)
    (h : RTree w S (.agg #[nv, .int .i64 t.root]) t) (h' : RTree w S (.agg #[mv, .int .i64 u.root]) u) (h'' : RTree w S (.agg #[lv, .int .i64 s.root]) s) : RTrees w S (.slice (some ⟨g, 0, none⟩) 3 3) [t, u, s] := by
  obtain ⟨nv', hv, h1⟩ := h
  obtain ⟨mv', hv', h1'⟩ := h'
  obtain ⟨lv', hv'', h1''⟩ := h''
  have e : nv = nv' := by simpa using hv
  subst e
  have e : mv = mv' := by simpa using hv'
  subst e
  have e : lv = lv' := by simpa using hv''
  subst e
  exact RTrees.of_blk (ts := [t, u, s]) (nvs := [nv, mv, lv]) rfl hb hS (by simp [maxLen]) fun j t' nv' h2 h3 => by
    rcases j with _ | _ | _ | j
    · simp at h2 h3; subst h2; subst h3; exact h1
    · simp at h2 h3; subst h2; subst h3; exact h1'
    · simp at h2 h3; subst h2; subst h3; exact h1''
    · simp at h2
/-- Three boxes of trees. -/
structure Boxes3 (w : World) (B : Nat) (v0 v1 v2 : Value) (t0 t1 t2 : Tr) : Prop where
  b0 : Blk w B 24 #[v0, .int .i64 t0.root]
  b1 : Blk w (B + 1) 24 #[v1, .int .i64 t1.root]
  b2 : Blk w (B + 1 + 1) 24 #[v2, .int .i64 t2.root]
theorem Boxes3.below {w w' : World} {B : Nat} {v0 v1 v2 : Value} {t0 t1 t2 : Tr} (h : Boxes3 w B v0 v1 v2 t0 t1 t2) (hb : Below w.heap.size w w') : Boxes3 w' B v0 v1 v2 t0 t1 t2 :=
  ⟨h.b0.below hb h.b0.lt, h.b1.below hb h.b1.lt, h.b2.below hb h.b2.lt⟩

theorem clean_root {t : Tr} (h : t.nodes.length ≤ 500000) : -9223372036854775808 ≤ (cleanOf t).root ∧ (cleanOf t).root ≤ 9223372036854775807 := by
  unfold cleanOf
  split
  · rename_i hr
    simp only [flatT]
    rw [hr.size]; omega
  · simp [zeroT]

theorem clean_small {t : Tr} (h : t.nodes.length ≤ 4000) : (cleanOf t).nodes.length ≤ 500000 := by
  unfold cleanOf
  split
  · rename_i hr
    rw [flatT_len, hr.size]; omega
  · simp [zeroT]
theorem not_right_zero : ¬ RightT zeroT := fun h => by have := h.shape.root_lt; simp [zeroT] at this
theorem right_clean (t : Tr) : RightT (cleanOf t) ↔ RightT t := by
  unfold cleanOf
  by_cases h : RightT t
  · rw [if_pos h]; exact ⟨fun _ => h, fun _ => right_flat h.fitT⟩
  · rw [if_neg h]; exact ⟨fun h' => absurd h' not_right_zero, fun h' => absurd h' h⟩
theorem decide_right_clean (t : Tr) : decide (RightT (cleanOf t)) = decide (RightT t) := by
  by_cases h : RightT t
  · rw [decide_eq_true h, decide_eq_true ((right_clean t).2 h)]
  · rw [decide_eq_false h, decide_eq_false (fun h' => h ((right_clean t).1 h'))]

theorem treeOf_clean {t : Tr} (h : RightT t) : treeOf (cleanOf t) = treeOf t := by rw [cleanOf, if_pos h, treeOf_flat]
theorem clean_clean (t : Tr) : cleanOf (cleanOf t) = cleanOf t := by
  by_cases h : RightT t
  · have h2 := (right_clean t).2 h
    rw [cleanOf, if_pos h2, treeOf_clean h, cleanOf, if_pos h]
  · have h2 : ¬ RightT (cleanOf t) := fun h' => h ((right_clean t).1 h')
    rw [cleanOf, if_neg h2, cleanOf, if_neg h]
theorem same_clean (t : Tr) : decide (SameT t (cleanOf t)) = decide (RightT t) := by
  by_cases h : RightT t
  · rw [decide_eq_true h]; exact decide_eq_true ⟨h, (right_clean t).2 h, (treeOf_clean h).symm⟩
  · rw [decide_eq_false h]; exact decide_eq_false fun h' => h h'.1

theorem same_symm (a b : Tr) : decide (SameT a b) = decide (SameT b a) := by
  by_cases h : SameT b a
  · rw [decide_eq_true h]; exact decide_eq_true ⟨h.2.1, h.1, h.2.2.symm⟩
  · rw [decide_eq_false h]; exact decide_eq_false fun h' => h ⟨h'.2.1, h'.1, h'.2.2.symm⟩
theorem same_self (a : Tr) : decide (SameT a a) = decide (RightT a) := by
  by_cases h : RightT a
  · rw [decide_eq_true h]; exact decide_eq_true ⟨h, h, rfl⟩
  · rw [decide_eq_false h]; exact decide_eq_false fun h' => h h'.1
theorem exact_clean {a b : Tr} (ha : RightT a) (hb : RightT b) : decide (cleanOf a = cleanOf b) = decide (SameT a b) := by
  by_cases h : SameT a b
  · rw [decide_eq_true h]; exact decide_eq_true (by rw [cleanOf, cleanOf, if_pos ha, if_pos hb, h.2.2])
  · rw [decide_eq_false h]; exact decide_eq_false fun h' => h ⟨ha, hb, by rw [← treeOf_clean ha, h', treeOf_clean hb]⟩

set_option maxHeartbeats 4000000 in
theorem ltreesame_any (ta tb tc : Tr) (va vb vc : Value) (w : World) (ha : HasT w va ta) (hb : HasT w vb tb) (hc : HasT w vc tc) (hk : KTab w) : Calls Tryd.prog 4 #[va, vb, vc] w (TruePost w) := by
  have HK := Lib.hid (fun wx (hb : Below w.heap.size w wx) => hk.below hb)
  have HA := Lib.hid ha
  have HB := Lib.hid hb
  have HC := Lib.hid hc
  obtain ⟨na, rfl, hna, _⟩ := id ha
  obtain ⟨nb, rfl, hnb, _⟩ := id hb
  obtain ⟨nc, rfl, hnc, _⟩ := id hc
  obtain ⟨Aa, ca, rfl, _⟩ := hna.at_
  obtain ⟨Ab, cb, rfl, _⟩ := hnb.at_
  obtain ⟨Ac, cc, rfl, _⟩ := hnc.at_
  clear ha hb hc hna hnb hnc hk
  go_enter Tryd.func4, Tryd.ntmps4
  go_wp2_with fail
  have hb03 : Below w.heap.size w (((w.alloc (.cells #[.slice Aa ta.nodes.length ca, .int .i64 ta.root] 24)).alloc (.cells #[.slice Ab tb.nodes.length cb, .int .i64 tb.root] 24)).alloc (.cells #[.slice Ac tc.nodes.length cc, .int .i64 tc.root] 24)) :=
    ((((Below.refl _ _).alloc (Nat.le_refl _) _).alloc (by simp) _).alloc (by simp; omega) _)
  refine (works_g _ (HK.out _ hb03)).mono ?_
  rintro e w1 ⟨rfl, hb1⟩
  have hX0 : Boxes3 w1 w.heap.size (.slice Aa ta.nodes.length ca) (.slice Ab tb.nodes.length cb) (.slice Ac tc.nodes.length cc) ta tb tc := Boxes3.below ⟨((Blk.new w _ _).alloc _).alloc _, (Blk.new1 w _ _ _).alloc _, Blk.new2 w _ _ _ _⟩ hb1
  have d0 : w1.cell? ⟨w.heap.size, 0, none⟩ = some (.slice Aa ta.nodes.length ca) := hX0.b0.cell 0
  have d1 : w1.cell? ⟨w.heap.size, 1, none⟩ = some (.int .i64 ta.root) := hX0.b0.cell 1
  have d2 : w1.cell? ⟨w.heap.size + 1, 0, none⟩ = some (.slice Ab tb.nodes.length cb) := hX0.b1.cell 0
  have d3 : w1.cell? ⟨w.heap.size + 1, 1, none⟩ = some (.int .i64 tb.root) := hX0.b1.cell 1
  have d4 : w1.cell? ⟨w.heap.size + 1 + 1, 0, none⟩ = some (.slice Ac tc.nodes.length cc) := hX0.b2.cell 0
  have d5 : w1.cell? ⟨w.heap.size + 1 + 1, 1, none⟩ = some (.int .i64 tc.root) := hX0.b2.cell 1
  have HW1 := Lib.hid (hb03.trans (hb1.mono hb03.size))
  have HX := Lib.hid hX0
  clear hb03 hb1 hX0
  go_wp2_with fail
  have hL := long_g (w := w1.alloc (.cells #[.slice Aa ta.nodes.length ca, .int .i64 ta.root, .slice Ab tb.nodes.length cb, .int .i64 tb.root, .slice Ac tc.nodes.length cc, .int .i64 tc.root] 24)) (ts := [ta, tb, tc]) (v := .slice (some ⟨w1.heap.size, 0, none⟩) 3 3) (S := fun b => b < w1.heap.size + 1)
    (RTrees.three (ty := 24) (Blk.new w1 _ _) (Nat.lt_succ_self _) (((HA.out.below HW1.out).below ((Below.refl _ _).alloc (Nat.le_refl _) _)).more fun b hb => by simpa using hb) (((HB.out.below HW1.out).below ((Below.refl _ _).alloc (Nat.le_refl _) _)).more fun b hb => by simpa using hb) (((HC.out.below HW1.out).below ((Below.refl _ _).alloc (Nat.le_refl _) _)).more fun b hb => by simpa using hb)) (fun b hb => by simpa using hb)
  refine hL.mono ?_
  rintro e w2 ⟨r, rfl, hsh, hb2⟩
  have hb12 : Below w1.heap.size w1 w2 := ((Below.refl _ _).alloc (Nat.le_refl _) _).trans (hb2.mono (by simp <;> omega))
  have hX2 := HX.out.below hb12
  have HW2 := Lib.hid (HW1.out.trans (hb12.mono HW1.out.size))
  have d0 : w2.cell? ⟨w.heap.size, 0, none⟩ = some (.slice Aa ta.nodes.length ca) := hX2.b0.cell 0
  have d1 : w2.cell? ⟨w.heap.size, 1, none⟩ = some (.int .i64 ta.root) := hX2.b0.cell 1
  have d2 : w2.cell? ⟨w.heap.size + 1, 0, none⟩ = some (.slice Ab tb.nodes.length cb) := hX2.b1.cell 0
  have d3 : w2.cell? ⟨w.heap.size + 1, 1, none⟩ = some (.int .i64 tb.root) := hX2.b1.cell 1
  have d4 : w2.cell? ⟨w.heap.size + 1 + 1, 0, none⟩ = some (.slice Ac tc.nodes.length cc) := hX2.b2.cell 0
  have d5 : w2.cell? ⟨w.heap.size + 1 + 1, 1, none⟩ = some (.int .i64 tc.root) := hX2.b2.cell 1
  have HX2 := Lib.hid hX2
  clear hb2 hb12 hL hX2 HX HW1
  cases r
  case true =>
    clear hsh
    go_wp2_with fail
    refine (works_g _ (HK.out _ HW2.out)).mono ?_
    rintro e w3 ⟨rfl, hb3⟩
    go_wp2_with fail
    go_ret
    exact ⟨rfl, HW2.out.trans (hb3.mono HW2.out.size)⟩
  case false =>
    have hsum := (hsh rfl).sum
    simp [nodesSum] at hsum
    have hsa : ta.nodes.length ≤ 4000 := by omega
    have hsb : tb.nodes.length ≤ 4000 := by omega
    have hsc : tc.nodes.length ≤ 4000 := by omega
    clear hsum hsh
    go_upto_region 4 with fail
    go_cut [7, 8] from 22 to 25 (fun X Y wx => ∃ (gx gy : Nat) (Ax Ay : Option Addr) (nx ny cx cy : Nat), X = .pointer (some ⟨gx, 0, none⟩) ∧ Y = .pointer (some ⟨gy, 0, none⟩) ∧ Hid (Blk wx gx 24 #[.slice Ax nx cx, .int .i64 (cleanOf ta).root]) ∧
      Hid (Blk wx gy 24 #[.slice Ay ny cy, .int .i64 (cleanOf tb).root]) ∧ Hid (HasT wx (.agg #[.slice Ax nx cx, .int .i64 (cleanOf ta).root]) (cleanOf ta)) ∧ Hid (HasT wx (.agg #[.slice Ay ny cy, .int .i64 (cleanOf tb).root]) (cleanOf tb)) ∧ Hid (Below w2.heap.size w2 wx))
    case first =>
      refine wp_region_inv (G := BG) BG.none_ (BE TT ZT) (BN [.other, .other, .other, .other, .box, .box, .store 4, .store 5])
        [fun v _ => v = .agg #[.slice Aa ta.nodes.length ca, .int .i64 ta.root], RFreeT (cleanOf ta), fun v _ => v = .agg #[.slice Ab tb.nodes.length cb, .int .i64 tb.root], RFreeT (cleanOf tb), RBox 4, RBox 5, RFillT 4 (cleanOf ta), RFillT 5 (cleanOf tb)]
        (by kernel_rfl) (fun _ _ _ => BE.trans) (BE.refl _) (by kernel_rfl) (by kernel_rfl) (BN.none_ _) ?st ?steps ?fin
      case st =>
        intro R hR v s s' _ h hr
        simp only [List.mem_cons, List.not_mem_nil, or_false] at hR
        rcases hR with rfl | rfl | rfl | rfl | rfl | rfl | rfl | rfl
        · exact hr
        · exact hr.keep h
        · exact hr
        · exact hr.keep h
        · exact hr.keep h
        · exact hr.keep h
        · exact hr.keep h
        · exact hr.keep h
      case steps =>
        refine ⟨?_, ?_, ?_, ?_, ?_, ?_, ?_, ?_, trivial⟩
        · intro o a γ wx ho hB hE hN hW K hK
          simp only [List.getElem?_toArray, List.getElem?_cons_zero, List.getElem?_cons_succ, Option.some.injEq] at ho
          subst ho
          have hX := HX2.out.below hE.below_drew
          have d0 : wx.cell? ⟨w.heap.size, 0, none⟩ = some (.slice Aa ta.nodes.length ca) := hX.b0.cell 0
          have d1 : wx.cell? ⟨w.heap.size, 1, none⟩ = some (.int .i64 ta.root) := hX.b0.cell 1
          have h3 : a.tmps[3]? = some (.pointer (some ⟨w.heap.size, 0, none⟩)) := (hB.at_ 3 (of_decide_eq_true (by kernel_rfl))).trans rfl
          clear hX hB hN hW
          go_simp
          refine hK _ γ _ (BE.refl _) (fun _ _ h => h) rfl
        · intro o a γ wx ho hB hE hN hW K hK
          simp only [List.getElem?_toArray, List.getElem?_cons_zero, List.getElem?_cons_succ, Option.some.injEq] at ho
          subst ho
          obtain ⟨⟨v0, h22, rfl⟩, _⟩ := hW
          have hG := (HA.out.below (HW2.out.trans (hE.below_drew.mono HW2.out.size))).given (HK.out _ (HW2.out.trans (hE.below_drew.mono HW2.out.size))) (by omega)
          have hok := hE.boxes
          clear hB hN
          go_simp
          refine (Clean_g hG).mono ?_
          rintro e w' ⟨u, rfl, ho, hb⟩
          exact hK _ γ _ (BE.call hb) (fun _ _ h => h) (RFreeT.own ho (clean_root hG.small).1 (clean_root hG.small).2 hok)
        · intro o a γ wx ho hB hE hN hW K hK
          simp only [List.getElem?_toArray, List.getElem?_cons_zero, List.getElem?_cons_succ, Option.some.injEq] at ho
          subst ho
          have hX := HX2.out.below hE.below_drew
          have d2 : wx.cell? ⟨w.heap.size + 1, 0, none⟩ = some (.slice Ab tb.nodes.length cb) := hX.b1.cell 0
          have d3 : wx.cell? ⟨w.heap.size + 1, 1, none⟩ = some (.int .i64 tb.root) := hX.b1.cell 1
          have h4 : a.tmps[4]? = some (.pointer (some ⟨w.heap.size + 1, 0, none⟩)) := (hB.at_ 4 (of_decide_eq_true (by kernel_rfl))).trans rfl
          clear hX hB hN hW
          go_simp
          refine hK _ γ _ (BE.refl _) (fun _ _ h => h) rfl
        · intro o a γ wx ho hB hE hN hW K hK
          simp only [List.getElem?_toArray, List.getElem?_cons_zero, List.getElem?_cons_succ, Option.some.injEq] at ho
          subst ho
          obtain ⟨⟨v0, h24, rfl⟩, _⟩ := hW
          have hG := (HB.out.below (HW2.out.trans (hE.below_drew.mono HW2.out.size))).given (HK.out _ (HW2.out.trans (hE.below_drew.mono HW2.out.size))) (by omega)
          have hok := hE.boxes
          clear hB hN
          go_simp
          refine (Clean_g hG).mono ?_
          rintro e w' ⟨u, rfl, ho, hb⟩
          exact hK _ γ _ (BE.call hb) (fun _ _ h => h) (RFreeT.own ho (clean_root hG.small).1 (clean_root hG.small).2 hok)
        · intro o a γ wx ho hB hE hN hW K hK
          simp only [List.getElem?_toArray, List.getElem?_cons_zero, List.getElem?_cons_succ, Option.some.injEq] at ho
          subst ho
          clear hB hW
          go_simp
          exact hK _ _ _ (BE.alloc (i := 4) hN) BN.alloc RBox.made
        · intro o a γ wx ho hB hE hN hW K hK
          simp only [List.getElem?_toArray, List.getElem?_cons_zero, List.getElem?_cons_succ, Option.some.injEq] at ho
          subst ho
          clear hB hW
          go_simp
          exact hK _ _ _ (BE.alloc (i := 5) hN) BN.alloc RBox.made
        · intro o a γ wx ho hB hE hN hW K hK
          simp only [List.getElem?_toArray, List.getElem?_cons_zero, List.getElem?_cons_succ, Option.some.injEq] at ho
          subst ho
          obtain ⟨⟨vp, hp, rp⟩, ⟨vt, ht, rt⟩, _⟩ := hW
          obtain ⟨gb, A, n, c, γ', rfl, rfl, c0, c1, f0, f1, hS, hN', hF⟩ := fill_box hE hN rp rt
          clear hB rp rt
          go_simp
          exact hK undef γ' _ hS (hN' _ _ (by kernel_rfl)) hF
        · intro o a γ wx ho hB hE hN hW K hK
          simp only [List.getElem?_toArray, List.getElem?_cons_zero, List.getElem?_cons_succ, Option.some.injEq] at ho
          subst ho
          obtain ⟨⟨vp, hp, rp⟩, ⟨vt, ht, rt⟩, _⟩ := hW
          obtain ⟨gb, A, n, c, γ', rfl, rfl, c0, c1, f0, f1, hS, hN', hF⟩ := fill_box hE hN rp rt
          clear hB rp rt
          go_simp
          exact hK undef γ' _ hS (hN' _ _ (by kernel_rfl)) hF
      case fin =>
        intro a' γ wx hB hE hK
        obtain ⟨⟨_, h22, rfl⟩, ⟨v23, h23, r23⟩, ⟨_, h24, rfl⟩, ⟨v25, h25, r25⟩, ⟨v7, h7, r7⟩, ⟨v8, h8, r8⟩, ⟨_, r6⟩, ⟨_, r9⟩, _⟩ := hK
        have ha := hB.eq [(22, .agg #[.slice Aa ta.nodes.length ca, .int .i64 ta.root]), (23, v23), (24, .agg #[.slice Ab tb.nodes.length cb, .int .i64 tb.root]), (25, v25), (7, v7), (8, v8)] rfl (by kernel_rfl) ⟨h22, h23, h24, h25, h7, h8, trivial⟩
        subst ha
        obtain ⟨gx, Ax, nx, cx, rfl, hbx, hhx⟩ := box_tree (u := undef) hE r7 r6
        obtain ⟨gy, Ay, ny, cy, rfl, hby, hhy⟩ := box_tree (u := undef) hE r8 r9
        have HBX := Lib.hid hbx
        have HBY := Lib.hid hby
        have HHX := Lib.hid hhx
        have HHY := Lib.hid hhy
        have HWW := Lib.hid hE.below_drew
        clear h22 h23 h24 h25 h7 h8 r23 r25 r7 r8 r6 r9 hbx hby hhx hhy hB hE
        simp only [putAll, List.foldl_cons, List.foldl_nil, List.setIfInBounds_toArray, List.set_cons_succ, List.set_cons_zero]
        go_wp2_with fail
        go_meet
        exact ⟨gx, gy, Ax, Ay, nx, ny, cx, cy, rfl, rfl, HBX, HBY, HHX, HHY, HWW⟩
    case rest =>
      obtain ⟨gx, gy, Ax, Ay, nx, ny, cx, cy, rfl, rfl, HBX, HBY, HHX, HHY, HWW⟩ := hcut
      obtain ⟨w3, hw3⟩ : ∃ w3, w3 = wc := ⟨_, rfl⟩
      subst hw3
      have hX3 := HX2.out.below HWW.out
      have HW3 := Lib.hid (HW2.out.trans (HWW.out.mono HW2.out.size))
      have d0 : w3.cell? ⟨w.heap.size, 0, none⟩ = some (.slice Aa ta.nodes.length ca) := hX3.b0.cell 0
      have d1 : w3.cell? ⟨w.heap.size, 1, none⟩ = some (.int .i64 ta.root) := hX3.b0.cell 1
      have d2 : w3.cell? ⟨w.heap.size + 1, 0, none⟩ = some (.slice Ab tb.nodes.length cb) := hX3.b1.cell 0
      have d3 : w3.cell? ⟨w.heap.size + 1, 1, none⟩ = some (.int .i64 tb.root) := hX3.b1.cell 1
      have d4 : w3.cell? ⟨w.heap.size + 1 + 1, 0, none⟩ = some (.slice Ac tc.nodes.length cc) := hX3.b2.cell 0
      have d5 : w3.cell? ⟨w.heap.size + 1 + 1, 1, none⟩ = some (.int .i64 tc.root) := hX3.b2.cell 1
      have x0 : w3.cell? ⟨gx, 0, none⟩ = some (.slice Ax nx cx) := HBX.out.cell 0
      have x1 : w3.cell? ⟨gx, 1, none⟩ = some (.int .i64 (cleanOf ta).root) := HBX.out.cell 1
      have y0 : w3.cell? ⟨gy, 0, none⟩ = some (.slice Ay ny cy) := HBY.out.cell 0
      have y1 : w3.cell? ⟨gy, 1, none⟩ = some (.int .i64 (cleanOf tb).root) := HBY.out.cell 1
      have hlx := HBX.out.lt
      have hly := HBY.out.lt
      have hl2 := hX3.b2.lt
      have HLa := Lib.hid (clean_small hsa)
      have HLb := Lib.hid (clean_small hsb)
      obtain ⟨RA, hRA⟩ : ∃ RA, RA = decide (RightT ta) := ⟨_, rfl⟩
      have HRA := Lib.hid hRA
      have HRa : Hid (∀ wx, Below w3.heap.size w3 wx → Calls Tryd.prog 11 #[.agg #[.slice Aa ta.nodes.length ca, .int .i64 ta.root]] wx fun e w' => e = .returned (.bool RA) ∧ Below wx.heap.size wx w') := Lib.hid fun wx hb => by
        have h0 := HW3.out.trans (hb.mono HW3.out.size)
        have h := right_g ((HA.out.below h0).given (HK.out _ h0) (by omega))
        rw [← HRA.out] at h
        exact h
      have HRx : Hid (∀ wx, Below w3.heap.size w3 wx → Calls Tryd.prog 11 #[.agg #[.slice Ax nx cx, .int .i64 (cleanOf ta).root]] wx fun e w' => e = .returned (.bool RA) ∧ Below wx.heap.size wx w') := Lib.hid fun wx hb => by
        have h0 := HW3.out.trans (hb.mono HW3.out.size)
        have h := right_g ((HHX.out.below hb).given (HK.out _ h0) HLa.out)
        rw [decide_right_clean, ← HRA.out] at h
        exact h
      have HCx : Hid (∀ wx, Below w3.heap.size w3 wx → Calls Tryd.prog 12 #[.agg #[.slice Ax nx cx, .int .i64 (cleanOf ta).root]] wx fun e w' => ∃ u, e = .returned u ∧ HasT w' u (cleanOf ta) ∧ Below wx.heap.size wx w') := Lib.hid fun wx hb => by
        have h0 := HW3.out.trans (hb.mono HW3.out.size)
        refine (Clean_g ((HHX.out.below hb).given (HK.out _ h0) HLa.out)).mono fun e w' h => ?_
        obtain ⟨u, hu, ho, hbb⟩ := h
        rw [clean_clean] at ho
        exact ⟨u, hu, ho.has (clean_root (by omega)).1 (clean_root (by omega)).2, hbb⟩
      have HEx : Hid (∀ wx, Below w3.heap.size w3 wx → ∀ u, HasT wx u (cleanOf ta) → Calls Tryd.prog 13 #[u, .agg #[.slice Ax nx cx, .int .i64 (cleanOf ta).root]] wx fun e w' => e = .returned (.bool true) ∧ Below wx.heap.size wx w') := Lib.hid fun wx hb u hu => by
        have h := exact_g hu (HHX.out.below hb) (fun _ h => h) (fun _ h => h) (by have := HLa.out; omega)
        simpa using h
      have HSx : Hid (∀ wx, Below w3.heap.size w3 wx → Calls Tryd.prog 14 #[.agg #[.slice Aa ta.nodes.length ca, .int .i64 ta.root], .agg #[.slice Ax nx cx, .int .i64 (cleanOf ta).root]] wx fun e w' => e = .returned (.bool RA) ∧ Below wx.heap.size wx w') := Lib.hid fun wx hb => by
        have h0 := HW3.out.trans (hb.mono HW3.out.size)
        have h := Same_g ((HA.out.below h0).given (HK.out _ h0) (by omega)) ((HHX.out.below hb).given (HK.out _ h0) HLa.out)
        rw [same_clean, ← HRA.out] at h
        exact h
      obtain ⟨RB, hRB⟩ : ∃ RB, RB = decide (RightT tb) := ⟨_, rfl⟩
      have HRB := Lib.hid hRB
      obtain ⟨SAB, hSAB⟩ : ∃ S, S = decide (SameT ta tb) := ⟨_, rfl⟩
      have HSAB := Lib.hid hSAB
      obtain ⟨SBC, hSBC⟩ : ∃ S, S = decide (SameT tb tc) := ⟨_, rfl⟩
      have HSBC := Lib.hid hSBC
      obtain ⟨SAC, hSAC⟩ : ∃ S, S = decide (SameT ta tc) := ⟨_, rfl⟩
      have HSAC := Lib.hid hSAC
      clear hRB hSAB hSBC hSAC
      have HRb : Hid (∀ wx, Below w3.heap.size w3 wx → Calls Tryd.prog 11 #[.agg #[.slice Ab tb.nodes.length cb, .int .i64 tb.root]] wx fun e w' => e = .returned (.bool RB) ∧ Below wx.heap.size wx w') := Lib.hid fun wx hb => by
        have h0 := HW3.out.trans (hb.mono HW3.out.size)
        have h := right_g ((HB.out.below h0).given (HK.out _ h0) (by omega))
        rw [← HRB.out] at h
        exact h
      have HSab : Hid (∀ wx, Below w3.heap.size w3 wx → Calls Tryd.prog 14 #[.agg #[.slice Aa ta.nodes.length ca, .int .i64 ta.root], .agg #[.slice Ab tb.nodes.length cb, .int .i64 tb.root]] wx fun e w' => e = .returned (.bool SAB) ∧ Below wx.heap.size wx w') := Lib.hid fun wx hb => by
        have h0 := HW3.out.trans (hb.mono HW3.out.size)
        have h := Same_g ((HA.out.below h0).given (HK.out _ h0) (by omega)) ((HB.out.below h0).given (HK.out _ h0) (by omega))
        rw [← HSAB.out] at h
        exact h
      have HSbc : Hid (∀ wx, Below w3.heap.size w3 wx → Calls Tryd.prog 14 #[.agg #[.slice Ab tb.nodes.length cb, .int .i64 tb.root], .agg #[.slice Ac tc.nodes.length cc, .int .i64 tc.root]] wx fun e w' => e = .returned (.bool SBC) ∧ Below wx.heap.size wx w') := Lib.hid fun wx hb => by
        have h0 := HW3.out.trans (hb.mono HW3.out.size)
        have h := Same_g ((HB.out.below h0).given (HK.out _ h0) (by omega)) ((HC.out.below h0).given (HK.out _ h0) (by omega))
        rw [← HSBC.out] at h
        exact h
      have HSac : Hid (∀ wx, Below w3.heap.size w3 wx → Calls Tryd.prog 14 #[.agg #[.slice Aa ta.nodes.length ca, .int .i64 ta.root], .agg #[.slice Ac tc.nodes.length cc, .int .i64 tc.root]] wx fun e w' => e = .returned (.bool SAC) ∧ Below wx.heap.size wx w') := Lib.hid fun wx hb => by
        have h0 := HW3.out.trans (hb.mono HW3.out.size)
        have h := Same_g ((HA.out.below h0).given (HK.out _ h0) (by omega)) ((HC.out.below h0).given (HK.out _ h0) (by omega))
        rw [← HSAC.out] at h
        exact h
      have HSba : Hid (∀ wx, Below w3.heap.size w3 wx → Calls Tryd.prog 14 #[.agg #[.slice Ab tb.nodes.length cb, .int .i64 tb.root], .agg #[.slice Aa ta.nodes.length ca, .int .i64 ta.root]] wx fun e w' => e = .returned (.bool SAB) ∧ Below wx.heap.size wx w') := Lib.hid fun wx hb => by
        have h0 := HW3.out.trans (hb.mono HW3.out.size)
        have h := Same_g ((HB.out.below h0).given (HK.out _ h0) (by omega)) ((HA.out.below h0).given (HK.out _ h0) (by omega))
        rw [same_symm, ← HSAB.out] at h
        exact h
      have HSaa : Hid (∀ wx, Below w3.heap.size w3 wx → Calls Tryd.prog 14 #[.agg #[.slice Aa ta.nodes.length ca, .int .i64 ta.root], .agg #[.slice Aa ta.nodes.length ca, .int .i64 ta.root]] wx fun e w' => e = .returned (.bool RA) ∧ Below wx.heap.size wx w') := Lib.hid fun wx hb => by
        have h0 := HW3.out.trans (hb.mono HW3.out.size)
        have h := Same_g ((HA.out.below h0).given (HK.out _ h0) (by omega)) ((HA.out.below h0).given (HK.out _ h0) (by omega))
        rw [same_self, ← HRA.out] at h
        exact h
      have HT3 := Lib.hid (show SAB = true → SBC = true → SAC = true from fun h1 h2 => by
        rw [HSAB.out, decide_eq_true_eq] at h1
        rw [HSBC.out, decide_eq_true_eq] at h2
        rw [HSAC.out, decide_eq_true_eq]
        exact ⟨h1.1, h2.2.1, h1.2.2.trans h2.2.2⟩)
      have hC : ∀ w' : World, Below w3.heap.size w3 w' → w'.cell? ⟨w.heap.size, 0, none⟩ = some (.slice Aa ta.nodes.length ca) ∧ w'.cell? ⟨w.heap.size, 1, none⟩ = some (.int .i64 ta.root) ∧ w'.cell? ⟨w.heap.size + 1, 0, none⟩ = some (.slice Ab tb.nodes.length cb) ∧ w'.cell? ⟨w.heap.size + 1, 1, none⟩ = some (.int .i64 tb.root) ∧
          w'.cell? ⟨w.heap.size + 1 + 1, 0, none⟩ = some (.slice Ac tc.nodes.length cc) ∧ w'.cell? ⟨w.heap.size + 1 + 1, 1, none⟩ = some (.int .i64 tc.root) ∧ w'.cell? ⟨gx, 0, none⟩ = some (.slice Ax nx cx) ∧ w'.cell? ⟨gx, 1, none⟩ = some (.int .i64 (cleanOf ta).root) ∧ w'.cell? ⟨gy, 0, none⟩ = some (.slice Ay ny cy) ∧ w'.cell? ⟨gy, 1, none⟩ = some (.int .i64 (cleanOf tb).root) ∧ Below w3.heap.size w3 w' := fun w' hb =>
        ⟨(hb.cell (p := ⟨w.heap.size, 0, none⟩) (by simp only; omega)).trans d0, (hb.cell (p := ⟨w.heap.size, 1, none⟩) (by simp only; omega)).trans d1, (hb.cell (p := ⟨w.heap.size + 1, 0, none⟩) (by simp only; omega)).trans d2, (hb.cell (p := ⟨w.heap.size + 1, 1, none⟩) (by simp only; omega)).trans d3,
          (hb.cell (p := ⟨w.heap.size + 1 + 1, 0, none⟩) (by simp only; omega)).trans d4, (hb.cell (p := ⟨w.heap.size + 1 + 1, 1, none⟩) (by simp only; omega)).trans d5, (hb.cell (p := ⟨gx, 0, none⟩) hlx).trans x0, (hb.cell (p := ⟨gx, 1, none⟩) hlx).trans x1, (hb.cell (p := ⟨gy, 0, none⟩) hly).trans y0, (hb.cell (p := ⟨gy, 1, none⟩) hly).trans y1, hb⟩
      have HCE := Lib.hid hC
      have hb0 : Below w3.heap.size w3 w3.drew := below_drewN (Below.refl _ _) 1
      clear hX3 hRA hC d0 d1 d2 d3 d4 d5 x0 x1 y0 y1 hlx hly hl2
      by_cases hra : RA = true
      · subst hra
        go_wp2_with fail
/- R4T< -/
        refine wp_region_inv (G := Unit) () UE UN
          [fun v _ => v = .agg #[.slice Aa ta.nodes.length ca, .int .i64 ta.root], fun v _ => v = .bool true, fun v _ => v = .agg #[.slice Ax nx cx, .int .i64 (cleanOf ta).root], fun v _ => v = .bool true, fun v _ => v = .bool false, fun v _ => v = .bool false, fun v _ => v = .agg #[.slice Ax nx cx, .int .i64 (cleanOf ta).root], fun v s => HasT s.2 v (cleanOf ta), fun v _ => v = .agg #[.slice Ax nx cx, .int .i64 (cleanOf ta).root], fun v _ => v = .bool true, fun v _ => v = .bool false, fun v _ => v = .bool false, fun v _ => v = .bool false, fun v _ => v = .agg #[.slice Aa ta.nodes.length ca, .int .i64 ta.root], fun v _ => v = .bool true, fun v _ => v = .bool true, fun v _ => v = .agg #[.slice Aa ta.nodes.length ca, .int .i64 ta.root], fun v _ => v = .agg #[.slice Ax nx cx, .int .i64 (cleanOf ta).root], fun v _ => v = .bool true, fun v _ => v = .bool false, fun v _ => v = .bool false, fun v _ => v = .bool false]
          (by kernel_rfl) UE.trans (UE.refl _) (by kernel_rfl) (by kernel_rfl) (fun _ => trivial) ?rstg1 ?rstepsg1 ?rfing1
        case rstg1 =>
          intro R hR v s s' _ h hr
          simp only [List.mem_cons, List.not_mem_nil, or_false] at hR
          rcases hR with rfl | rfl | rfl | rfl | rfl | rfl | rfl | rfl | rfl | rfl | rfl | rfl | rfl | rfl | rfl | rfl | rfl | rfl | rfl | rfl | rfl | rfl
          · exact hr
          · exact hr
          · exact hr
          · exact hr
          · exact hr
          · exact hr
          · exact hr
          · exact HasT.below hr h
          · exact hr
          · exact hr
          · exact hr
          · exact hr
          · exact hr
          · exact hr
          · exact hr
          · exact hr
          · exact hr
          · exact hr
          · exact hr
          · exact hr
          · exact hr
          · exact hr
        case rstepsg1 =>
          refine ⟨?_, ?_, ?_, ?_, ?_, ?_, ?_, ?_, ?_, ?_, ?_, ?_, ?_, ?_, ?_, ?_, ?_, ?_, ?_, ?_, ?_, ?_, trivial⟩
          · intro o a γ wx ho hB hE hN hW K hK
            simp only [List.getElem?_toArray, List.getElem?_cons_zero, List.getElem?_cons_succ, Option.some.injEq] at ho
            subst ho
            have hw := UE.start hE
            have h3 : a.tmps[3]? = some (.pointer (some ⟨w.heap.size, 0, none⟩)) := (hB.at_ 3 (of_decide_eq_true (by kernel_rfl))).trans rfl
            have hc := HCE.out _ hw
            clear hB hN hE
            go_simp
            exact hK (.agg #[.slice Aa ta.nodes.length ca, .int .i64 ta.root]) () _ (UE.refl _) (fun _ _ h => h) rfl
          · intro o a γ wx ho hB hE hN hW K hK
            simp only [List.getElem?_toArray, List.getElem?_cons_zero, List.getElem?_cons_succ, Option.some.injEq] at ho
            subst ho
            have hw := UE.start hE
            obtain ⟨⟨_, h26, rfl⟩, _⟩ := hW
            clear hB hN hE
            go_simp
            refine (HRa.out _ hw).mono ?_
            rintro e w' ⟨rfl, hbb⟩
            exact hK _ () _ hbb (fun _ _ h => h) rfl
          · intro o a γ wx ho hB hE hN hW K hK
            simp only [List.getElem?_toArray, List.getElem?_cons_zero, List.getElem?_cons_succ, Option.some.injEq] at ho
            subst ho
            have hw := UE.start hE
            have h7 : a.tmps[7]? = some (.pointer (some ⟨gx, 0, none⟩)) := (hB.at_ 7 (of_decide_eq_true (by kernel_rfl))).trans rfl
            have hc := HCE.out _ hw
            clear hB hN hE
            go_simp
            exact hK (.agg #[.slice Ax nx cx, .int .i64 (cleanOf ta).root]) () _ (UE.refl _) (fun _ _ h => h) rfl
          · intro o a γ wx ho hB hE hN hW K hK
            simp only [List.getElem?_toArray, List.getElem?_cons_zero, List.getElem?_cons_succ, Option.some.injEq] at ho
            subst ho
            have hw := UE.start hE
            obtain ⟨⟨_, h28, rfl⟩, ⟨_, h27, rfl⟩, _⟩ := hW
            clear hB hN hE
            go_simp
            refine (HRx.out _ hw).mono ?_
            rintro e w' ⟨rfl, hbb⟩
            exact hK _ () _ hbb (fun _ _ h => h) rfl
          · intro o a γ wx ho hB hE hN hW K hK
            simp only [List.getElem?_toArray, List.getElem?_cons_zero, List.getElem?_cons_succ, Option.some.injEq] at ho
            subst ho
            have hw := UE.start hE
            obtain ⟨⟨_, h27, rfl⟩, ⟨_, h29, rfl⟩, _⟩ := hW
            clear hB hN hE
            go_simp
            exact hK (.bool false) () _ (UE.refl _) (fun _ _ h => h) rfl
          · intro o a γ wx ho hB hE hN hW K hK
            simp only [List.getElem?_toArray, List.getElem?_cons_zero, List.getElem?_cons_succ, Option.some.injEq] at ho
            subst ho
            have hw := UE.start hE
            obtain ⟨⟨_, h30, rfl⟩, ⟨_, h29, rfl⟩, _⟩ := hW
            clear hB hN hE
            go_simp
            exact hK (.bool false) () _ (UE.refl _) (fun _ _ h => h) rfl
          · intro o a γ wx ho hB hE hN hW K hK
            simp only [List.getElem?_toArray, List.getElem?_cons_zero, List.getElem?_cons_succ, Option.some.injEq] at ho
            subst ho
            have hw := UE.start hE
            obtain ⟨⟨_, h31, rfl⟩, _⟩ := hW
            have h7 : a.tmps[7]? = some (.pointer (some ⟨gx, 0, none⟩)) := (hB.at_ 7 (of_decide_eq_true (by kernel_rfl))).trans rfl
            have hc := HCE.out _ hw
            clear hB hN hE
            go_simp
            exact hK (.agg #[.slice Ax nx cx, .int .i64 (cleanOf ta).root]) () _ (UE.refl _) (fun _ _ h => h) rfl
          · intro o a γ wx ho hB hE hN hW K hK
            simp only [List.getElem?_toArray, List.getElem?_cons_zero, List.getElem?_cons_succ, Option.some.injEq] at ho
            subst ho
            have hw := UE.start hE
            obtain ⟨⟨_, h32, rfl⟩, ⟨_, h31, rfl⟩, _, _⟩ := hW
            clear hB hN hE
            go_simp
            refine (HCx.out _ hw).mono ?_
            rintro e w' ⟨u, rfl, hu, hbb⟩
            exact hK _ () _ hbb (fun _ _ h => h) hu
          · intro o a γ wx ho hB hE hN hW K hK
            simp only [List.getElem?_toArray, List.getElem?_cons_zero, List.getElem?_cons_succ, Option.some.injEq] at ho
            subst ho
            have hw := UE.start hE
            obtain ⟨⟨_, h31, rfl⟩, _⟩ := hW
            have h7 : a.tmps[7]? = some (.pointer (some ⟨gx, 0, none⟩)) := (hB.at_ 7 (of_decide_eq_true (by kernel_rfl))).trans rfl
            have hc := HCE.out _ hw
            clear hB hN hE
            go_simp
            exact hK (.agg #[.slice Ax nx cx, .int .i64 (cleanOf ta).root]) () _ (UE.refl _) (fun _ _ h => h) rfl
          · intro o a γ wx ho hB hE hN hW K hK
            simp only [List.getElem?_toArray, List.getElem?_cons_zero, List.getElem?_cons_succ, Option.some.injEq] at ho
            subst ho
            have hw := UE.start hE
            obtain ⟨⟨v33, h33, r33⟩, ⟨_, h34, rfl⟩, _, ⟨_, h31, rfl⟩, _⟩ := hW
            clear hB hN hE
            go_simp
            refine (HEx.out _ hw _ r33).mono ?_
            rintro e w' ⟨rfl, hbb⟩
            exact hK _ () _ hbb (fun _ _ h => h) rfl
          · intro o a γ wx ho hB hE hN hW K hK
            simp only [List.getElem?_toArray, List.getElem?_cons_zero, List.getElem?_cons_succ, Option.some.injEq] at ho
            subst ho
            have hw := UE.start hE
            obtain ⟨⟨_, h35, rfl⟩, ⟨_, h31, rfl⟩, _⟩ := hW
            clear hB hN hE
            go_simp
            exact hK (.bool false) () _ (UE.refl _) (fun _ _ h => h) rfl
          · intro o a γ wx ho hB hE hN hW K hK
            simp only [List.getElem?_toArray, List.getElem?_cons_zero, List.getElem?_cons_succ, Option.some.injEq] at ho
            subst ho
            have hw := UE.start hE
            obtain ⟨⟨_, h31, rfl⟩, ⟨_, h36, rfl⟩, _⟩ := hW
            clear hB hN hE
            go_simp
            exact hK (.bool false) () _ (UE.refl _) (fun _ _ h => h) rfl
          · intro o a γ wx ho hB hE hN hW K hK
            simp only [List.getElem?_toArray, List.getElem?_cons_zero, List.getElem?_cons_succ, Option.some.injEq] at ho
            subst ho
            have hw := UE.start hE
            obtain ⟨⟨_, h37, rfl⟩, ⟨_, h35, rfl⟩, _⟩ := hW
            clear hB hN hE
            go_simp
            exact hK (.bool false) () _ (UE.refl _) (fun _ _ h => h) rfl
          · intro o a γ wx ho hB hE hN hW K hK
            simp only [List.getElem?_toArray, List.getElem?_cons_zero, List.getElem?_cons_succ, Option.some.injEq] at ho
            subst ho
            have hw := UE.start hE
            obtain ⟨⟨_, h38, rfl⟩, _⟩ := hW
            have h3 : a.tmps[3]? = some (.pointer (some ⟨w.heap.size, 0, none⟩)) := (hB.at_ 3 (of_decide_eq_true (by kernel_rfl))).trans rfl
            have hc := HCE.out _ hw
            clear hB hN hE
            go_simp
            exact hK (.agg #[.slice Aa ta.nodes.length ca, .int .i64 ta.root]) () _ (UE.refl _) (fun _ _ h => h) rfl
          · intro o a γ wx ho hB hE hN hW K hK
            simp only [List.getElem?_toArray, List.getElem?_cons_zero, List.getElem?_cons_succ, Option.some.injEq] at ho
            subst ho
            have hw := UE.start hE
            obtain ⟨⟨_, h39, rfl⟩, ⟨_, h38, rfl⟩, _, _⟩ := hW
            clear hB hN hE
            go_simp
            refine (HRa.out _ hw).mono ?_
            rintro e w' ⟨rfl, hbb⟩
            exact hK _ () _ hbb (fun _ _ h => h) rfl
          · intro o a γ wx ho hB hE hN hW K hK
            simp only [List.getElem?_toArray, List.getElem?_cons_zero, List.getElem?_cons_succ, Option.some.injEq] at ho
            subst ho
            have hw := UE.start hE
            obtain ⟨⟨_, h40, rfl⟩, _, ⟨_, h38, rfl⟩, _⟩ := hW
            clear hB hN hE
            go_simp
            exact hK (.bool true) () _ (UE.refl _) (fun _ _ h => h) rfl
          · intro o a γ wx ho hB hE hN hW K hK
            simp only [List.getElem?_toArray, List.getElem?_cons_zero, List.getElem?_cons_succ, Option.some.injEq] at ho
            subst ho
            have hw := UE.start hE
            obtain ⟨⟨_, h41, rfl⟩, _⟩ := hW
            have h3 : a.tmps[3]? = some (.pointer (some ⟨w.heap.size, 0, none⟩)) := (hB.at_ 3 (of_decide_eq_true (by kernel_rfl))).trans rfl
            have hc := HCE.out _ hw
            clear hB hN hE
            go_simp
            exact hK (.agg #[.slice Aa ta.nodes.length ca, .int .i64 ta.root]) () _ (UE.refl _) (fun _ _ h => h) rfl
          · intro o a γ wx ho hB hE hN hW K hK
            simp only [List.getElem?_toArray, List.getElem?_cons_zero, List.getElem?_cons_succ, Option.some.injEq] at ho
            subst ho
            have hw := UE.start hE
            obtain ⟨⟨_, h41, rfl⟩, _⟩ := hW
            have h7 : a.tmps[7]? = some (.pointer (some ⟨gx, 0, none⟩)) := (hB.at_ 7 (of_decide_eq_true (by kernel_rfl))).trans rfl
            have hc := HCE.out _ hw
            clear hB hN hE
            go_simp
            exact hK (.agg #[.slice Ax nx cx, .int .i64 (cleanOf ta).root]) () _ (UE.refl _) (fun _ _ h => h) rfl
          · intro o a γ wx ho hB hE hN hW K hK
            simp only [List.getElem?_toArray, List.getElem?_cons_zero, List.getElem?_cons_succ, Option.some.injEq] at ho
            subst ho
            have hw := UE.start hE
            obtain ⟨⟨_, h42, rfl⟩, ⟨_, h43, rfl⟩, ⟨_, h41, rfl⟩, _, _⟩ := hW
            clear hB hN hE
            go_simp
            refine (HSx.out _ hw).mono ?_
            rintro e w' ⟨rfl, hbb⟩
            exact hK _ () _ hbb (fun _ _ h => h) rfl
          · intro o a γ wx ho hB hE hN hW K hK
            simp only [List.getElem?_toArray, List.getElem?_cons_zero, List.getElem?_cons_succ, Option.some.injEq] at ho
            subst ho
            have hw := UE.start hE
            obtain ⟨⟨_, h44, rfl⟩, ⟨_, h41, rfl⟩, _⟩ := hW
            clear hB hN hE
            go_simp
            exact hK (.bool false) () _ (UE.refl _) (fun _ _ h => h) rfl
          · intro o a γ wx ho hB hE hN hW K hK
            simp only [List.getElem?_toArray, List.getElem?_cons_zero, List.getElem?_cons_succ, Option.some.injEq] at ho
            subst ho
            have hw := UE.start hE
            obtain ⟨⟨_, h41, rfl⟩, ⟨_, h45, rfl⟩, ⟨_, h38, rfl⟩, _⟩ := hW
            clear hB hN hE
            go_simp
            exact hK (.bool false) () _ (UE.refl _) (fun _ _ h => h) rfl
          · intro o a γ wx ho hB hE hN hW K hK
            simp only [List.getElem?_toArray, List.getElem?_cons_zero, List.getElem?_cons_succ, Option.some.injEq] at ho
            subst ho
            have hw := UE.start hE
            obtain ⟨⟨_, h38, rfl⟩, ⟨_, h46, rfl⟩, _⟩ := hW
            clear hB hN hE
            go_simp
            exact hK (.bool false) () _ (UE.refl _) (fun _ _ h => h) rfl
        intro a' γ wx hB hE hK
        obtain ⟨⟨_, h26, rfl⟩, ⟨_, h27, rfl⟩, ⟨_, h28, rfl⟩, ⟨_, h29, rfl⟩, ⟨_, h30, rfl⟩, ⟨_, h31, rfl⟩, ⟨_, h32, rfl⟩, ⟨v33, h33, r33⟩, ⟨_, h34, rfl⟩, ⟨_, h35, rfl⟩, ⟨_, h36, rfl⟩, ⟨_, h37, rfl⟩, ⟨_, h38, rfl⟩, ⟨_, h39, rfl⟩, ⟨_, h40, rfl⟩, ⟨_, h41, rfl⟩, ⟨_, h42, rfl⟩, ⟨_, h43, rfl⟩, ⟨_, h44, rfl⟩, ⟨_, h45, rfl⟩, ⟨_, h46, rfl⟩, ⟨_, h47, rfl⟩, _⟩ := hK
        have ha := hB.eq [(26, .agg #[.slice Aa ta.nodes.length ca, .int .i64 ta.root]), (27, .bool true), (28, .agg #[.slice Ax nx cx, .int .i64 (cleanOf ta).root]), (29, .bool true), (30, .bool false), (31, .bool false), (32, .agg #[.slice Ax nx cx, .int .i64 (cleanOf ta).root]), (33, v33), (34, .agg #[.slice Ax nx cx, .int .i64 (cleanOf ta).root]), (35, .bool true), (36, .bool false), (37, .bool false), (38, .bool false), (39, .agg #[.slice Aa ta.nodes.length ca, .int .i64 ta.root]), (40, .bool true), (41, .bool true), (42, .agg #[.slice Aa ta.nodes.length ca, .int .i64 ta.root]), (43, .agg #[.slice Ax nx cx, .int .i64 (cleanOf ta).root]), (44, .bool true), (45, .bool false), (46, .bool false), (47, .bool false)] rfl (by kernel_rfl) ⟨h26, h27, h28, h29, h30, h31, h32, h33, h34, h35, h36, h37, h38, h39, h40, h41, h42, h43, h44, h45, h46, h47, trivial⟩
        subst ha
        have hw := UE.start hE
        clear hB hE h26 h27 h28 h29 h30 h31 h32 h33 h34 h35 h36 h37 h38 h39 h40 h41 h42 h43 h44 h45 h46 h47
        simp only [putAll, List.foldl_cons, List.foldl_nil, List.setIfInBounds_toArray, List.set_cons_succ, List.set_cons_zero]
        /- >R4T -/
        go_wp2_with fail
        obtain ⟨w4, hw4⟩ : ∃ w4, w4 = wx := ⟨_, rfl⟩
        subst hw4
        have hw04 := hw
        clear hw
        by_cases hrb : RB = true
        · subst hrb
          have HExy : Hid (∀ wx, Below w3.heap.size w3 wx → Calls Tryd.prog 13 #[.agg #[.slice Ax nx cx, .int .i64 (cleanOf ta).root], .agg #[.slice Ay ny cy, .int .i64 (cleanOf tb).root]] wx fun e w' => e = .returned (.bool SAB) ∧ Below wx.heap.size wx w') := Lib.hid fun wx hb => by
            have h := exact_g (HHX.out.below hb) (HHY.out.below hb) (fun _ h => h) (fun _ h => h) (by have := HLa.out; omega)
            rw [exact_clean (by have := HRA.out; simpa using this.symm) (by have := HRB.out; simpa using this.symm), ← HSAB.out] at h
            exact h
/- R6TT< -/
          refine wp_region_inv (G := Unit) () UE UN
            [fun v _ => v = .agg #[.slice Aa ta.nodes.length ca, .int .i64 ta.root], fun v _ => v = .agg #[.slice Ab tb.nodes.length cb, .int .i64 tb.root], fun v _ => v = .bool SAB, fun v _ => v = .agg #[.slice Ab tb.nodes.length cb, .int .i64 tb.root], fun v _ => v = .agg #[.slice Ac tc.nodes.length cc, .int .i64 tc.root], fun v _ => v = .bool SBC, fun v _ => v = .agg #[.slice Aa ta.nodes.length ca, .int .i64 ta.root], fun v _ => v = .agg #[.slice Ac tc.nodes.length cc, .int .i64 tc.root], fun v _ => v = .bool SAC, fun v _ => v = .bool SAB, fun v _ => v = .bool SBC, fun v _ => v = .bool SAC]
            (by kernel_rfl) UE.trans (UE.refl _) (by kernel_rfl) (by kernel_rfl) (fun _ => trivial) ?rstg3 ?rstepsg3 ?rfing3
          case rstg3 =>
            intro R hR v s s' _ h hr
            simp only [List.mem_cons, List.not_mem_nil, or_false] at hR
            rcases hR with rfl | rfl | rfl | rfl | rfl | rfl | rfl | rfl | rfl | rfl | rfl | rfl
            · exact hr
            · exact hr
            · exact hr
            · exact hr
            · exact hr
            · exact hr
            · exact hr
            · exact hr
            · exact hr
            · exact hr
            · exact hr
            · exact hr
          case rstepsg3 =>
            refine ⟨?_, ?_, ?_, ?_, ?_, ?_, ?_, ?_, ?_, ?_, ?_, ?_, trivial⟩
            · intro o a γ wx ho hB hE hN hW K hK
              simp only [List.getElem?_toArray, List.getElem?_cons_zero, List.getElem?_cons_succ, Option.some.injEq] at ho
              subst ho
              have hw := UE.start hE
              have h3 : a.tmps[3]? = some (.pointer (some ⟨w.heap.size, 0, none⟩)) := (hB.at_ 3 (of_decide_eq_true (by kernel_rfl))).trans rfl
              have hc := HCE.out _ (hw04.trans (hw.mono hw04.size))
              clear hB hN hE
              go_simp
              exact hK (.agg #[.slice Aa ta.nodes.length ca, .int .i64 ta.root]) () _ (UE.refl _) (fun _ _ h => h) rfl
            · intro o a γ wx ho hB hE hN hW K hK
              simp only [List.getElem?_toArray, List.getElem?_cons_zero, List.getElem?_cons_succ, Option.some.injEq] at ho
              subst ho
              have hw := UE.start hE
              have h4 : a.tmps[4]? = some (.pointer (some ⟨w.heap.size + 1, 0, none⟩)) := (hB.at_ 4 (of_decide_eq_true (by kernel_rfl))).trans rfl
              have hc := HCE.out _ (hw04.trans (hw.mono hw04.size))
              clear hB hN hE
              go_simp
              exact hK (.agg #[.slice Ab tb.nodes.length cb, .int .i64 tb.root]) () _ (UE.refl _) (fun _ _ h => h) rfl
            · intro o a γ wx ho hB hE hN hW K hK
              simp only [List.getElem?_toArray, List.getElem?_cons_zero, List.getElem?_cons_succ, Option.some.injEq] at ho
              subst ho
              have hw := UE.start hE
              obtain ⟨⟨_, h48, rfl⟩, ⟨_, h49, rfl⟩, _⟩ := hW
              clear hB hN hE
              go_simp
              refine (HSab.out _ (hw04.trans (hw.mono hw04.size))).mono ?_
              rintro e w' ⟨rfl, hbb⟩
              exact hK _ () _ hbb (fun _ _ h => h) rfl
            · intro o a γ wx ho hB hE hN hW K hK
              simp only [List.getElem?_toArray, List.getElem?_cons_zero, List.getElem?_cons_succ, Option.some.injEq] at ho
              subst ho
              have hw := UE.start hE
              have h4 : a.tmps[4]? = some (.pointer (some ⟨w.heap.size + 1, 0, none⟩)) := (hB.at_ 4 (of_decide_eq_true (by kernel_rfl))).trans rfl
              have hc := HCE.out _ (hw04.trans (hw.mono hw04.size))
              clear hB hN hE
              go_simp
              exact hK (.agg #[.slice Ab tb.nodes.length cb, .int .i64 tb.root]) () _ (UE.refl _) (fun _ _ h => h) rfl
            · intro o a γ wx ho hB hE hN hW K hK
              simp only [List.getElem?_toArray, List.getElem?_cons_zero, List.getElem?_cons_succ, Option.some.injEq] at ho
              subst ho
              have hw := UE.start hE
              have h5 : a.tmps[5]? = some (.pointer (some ⟨w.heap.size + 1 + 1, 0, none⟩)) := (hB.at_ 5 (of_decide_eq_true (by kernel_rfl))).trans rfl
              have hc := HCE.out _ (hw04.trans (hw.mono hw04.size))
              clear hB hN hE
              go_simp
              exact hK (.agg #[.slice Ac tc.nodes.length cc, .int .i64 tc.root]) () _ (UE.refl _) (fun _ _ h => h) rfl
            · intro o a γ wx ho hB hE hN hW K hK
              simp only [List.getElem?_toArray, List.getElem?_cons_zero, List.getElem?_cons_succ, Option.some.injEq] at ho
              subst ho
              have hw := UE.start hE
              obtain ⟨⟨_, h51, rfl⟩, ⟨_, h52, rfl⟩, ⟨_, h50, rfl⟩, _⟩ := hW
              clear hB hN hE
              go_simp
              refine (HSbc.out _ (hw04.trans (hw.mono hw04.size))).mono ?_
              rintro e w' ⟨rfl, hbb⟩
              exact hK _ () _ hbb (fun _ _ h => h) rfl
            · intro o a γ wx ho hB hE hN hW K hK
              simp only [List.getElem?_toArray, List.getElem?_cons_zero, List.getElem?_cons_succ, Option.some.injEq] at ho
              subst ho
              have hw := UE.start hE
              have h3 : a.tmps[3]? = some (.pointer (some ⟨w.heap.size, 0, none⟩)) := (hB.at_ 3 (of_decide_eq_true (by kernel_rfl))).trans rfl
              have hc := HCE.out _ (hw04.trans (hw.mono hw04.size))
              clear hB hN hE
              go_simp
              exact hK (.agg #[.slice Aa ta.nodes.length ca, .int .i64 ta.root]) () _ (UE.refl _) (fun _ _ h => h) rfl
            · intro o a γ wx ho hB hE hN hW K hK
              simp only [List.getElem?_toArray, List.getElem?_cons_zero, List.getElem?_cons_succ, Option.some.injEq] at ho
              subst ho
              have hw := UE.start hE
              have h5 : a.tmps[5]? = some (.pointer (some ⟨w.heap.size + 1 + 1, 0, none⟩)) := (hB.at_ 5 (of_decide_eq_true (by kernel_rfl))).trans rfl
              have hc := HCE.out _ (hw04.trans (hw.mono hw04.size))
              clear hB hN hE
              go_simp
              exact hK (.agg #[.slice Ac tc.nodes.length cc, .int .i64 tc.root]) () _ (UE.refl _) (fun _ _ h => h) rfl
            · intro o a γ wx ho hB hE hN hW K hK
              simp only [List.getElem?_toArray, List.getElem?_cons_zero, List.getElem?_cons_succ, Option.some.injEq] at ho
              subst ho
              have hw := UE.start hE
              obtain ⟨⟨_, h54, rfl⟩, ⟨_, h55, rfl⟩, ⟨_, h53, rfl⟩, _⟩ := hW
              clear hB hN hE
              go_simp
              refine (HSac.out _ (hw04.trans (hw.mono hw04.size))).mono ?_
              rintro e w' ⟨rfl, hbb⟩
              exact hK _ () _ hbb (fun _ _ h => h) rfl
            · intro o a γ wx ho hB hE hN hW K hK
              simp only [List.getElem?_toArray, List.getElem?_cons_zero, List.getElem?_cons_succ, Option.some.injEq] at ho
              subst ho
              have hw := UE.start hE
              obtain ⟨⟨_, h50, rfl⟩, ⟨_, h56, rfl⟩, ⟨_, h48, rfl⟩, ⟨_, h49, rfl⟩, _, _⟩ := hW
              clear hB hN hE
              go_simp
              exact hK (.bool SAB) () _ (UE.refl _) (fun _ _ h => h) rfl
            · intro o a γ wx ho hB hE hN hW K hK
              simp only [List.getElem?_toArray, List.getElem?_cons_zero, List.getElem?_cons_succ, Option.some.injEq] at ho
              subst ho
              have hw := UE.start hE
              obtain ⟨⟨_, h53, rfl⟩, ⟨_, h9, rfl⟩, ⟨_, h48, rfl⟩, ⟨_, h49, rfl⟩, ⟨_, h50, rfl⟩, ⟨_, h51, rfl⟩, ⟨_, h52, rfl⟩, _, _, _⟩ := hW
              clear hB hN hE
              go_simp
              exact hK (.bool SBC) () _ (UE.refl _) (fun _ _ h => h) rfl
            · intro o a γ wx ho hB hE hN hW K hK
              simp only [List.getElem?_toArray, List.getElem?_cons_zero, List.getElem?_cons_succ, Option.some.injEq] at ho
              subst ho
              have hw := UE.start hE
              obtain ⟨⟨_, h56, rfl⟩, ⟨_, h10, rfl⟩, ⟨_, h48, rfl⟩, ⟨_, h49, rfl⟩, ⟨_, h50, rfl⟩, ⟨_, h51, rfl⟩, ⟨_, h52, rfl⟩, ⟨_, h53, rfl⟩, ⟨_, h54, rfl⟩, ⟨_, h55, rfl⟩, _, ⟨_, h9, rfl⟩, _, _⟩ := hW
              clear hB hN hE
              go_simp
              exact hK (.bool SAC) () _ (UE.refl _) (fun _ _ h => h) rfl
          intro a' γ wx hB hE hK
          obtain ⟨⟨_, h48, rfl⟩, ⟨_, h49, rfl⟩, ⟨_, h50, rfl⟩, ⟨_, h51, rfl⟩, ⟨_, h52, rfl⟩, ⟨_, h53, rfl⟩, ⟨_, h54, rfl⟩, ⟨_, h55, rfl⟩, ⟨_, h56, rfl⟩, ⟨_, h9, rfl⟩, ⟨_, h10, rfl⟩, ⟨_, h11, rfl⟩, _⟩ := hK
          have ha := hB.eq [(48, .agg #[.slice Aa ta.nodes.length ca, .int .i64 ta.root]), (49, .agg #[.slice Ab tb.nodes.length cb, .int .i64 tb.root]), (50, .bool SAB), (51, .agg #[.slice Ab tb.nodes.length cb, .int .i64 tb.root]), (52, .agg #[.slice Ac tc.nodes.length cc, .int .i64 tc.root]), (53, .bool SBC), (54, .agg #[.slice Aa ta.nodes.length ca, .int .i64 ta.root]), (55, .agg #[.slice Ac tc.nodes.length cc, .int .i64 tc.root]), (56, .bool SAC), (9, .bool SAB), (10, .bool SBC), (11, .bool SAC)] rfl (by kernel_rfl) ⟨h48, h49, h50, h51, h52, h53, h54, h55, h56, h9, h10, h11, trivial⟩
          subst ha
          have hw := UE.start hE
          clear hB hE h48 h49 h50 h51 h52 h53 h54 h55 h56 h9 h10 h11
          simp only [putAll, List.foldl_cons, List.foldl_nil, List.setIfInBounds_toArray, List.set_cons_succ, List.set_cons_zero]
          /- >R6TT -/
          go_wp2_with fail
          obtain ⟨w5, hw5⟩ : ∃ w5, w5 = wx := ⟨_, rfl⟩
          subst hw5
          have hw05 := hw04.trans (hw.mono hw04.size)
          clear hw hw04
/- R7TT< -/
          refine wp_region_inv (G := Unit) () UE UN
            [fun v _ => v = .bool SAB, fun v _ => v = .agg #[.slice Aa ta.nodes.length ca, .int .i64 ta.root], fun v _ => v = .bool true, fun v _ => v = .bool true, fun v _ => v = .agg #[.slice Ab tb.nodes.length cb, .int .i64 tb.root], fun v _ => v = .bool true, fun v _ => v = .bool true, fun v _ => v = .bool true, fun v _ => v = .agg #[.slice Ax nx cx, .int .i64 (cleanOf ta).root], fun v _ => v = .agg #[.slice Ay ny cy, .int .i64 (cleanOf tb).root], fun v _ => v = .bool SAB, fun v _ => v = .bool SAB, fun v _ => v = .bool false, fun v _ => v = .bool false, fun v _ => v = .agg #[.slice Ab tb.nodes.length cb, .int .i64 tb.root], fun v _ => v = .agg #[.slice Aa ta.nodes.length ca, .int .i64 ta.root], fun v _ => v = .bool SAB, fun v _ => v = .bool SAB, fun v _ => v = .bool false, fun v _ => v = .bool false, fun v _ => v = .bool false, fun v _ => v = .agg #[.slice Aa ta.nodes.length ca, .int .i64 ta.root], fun v _ => v = .agg #[.slice Aa ta.nodes.length ca, .int .i64 ta.root], fun v _ => v = .bool true, fun v _ => v = .agg #[.slice Aa ta.nodes.length ca, .int .i64 ta.root], fun v _ => v = .bool true, fun v _ => v = .bool false, fun v _ => v = .bool false]
            (by kernel_rfl) UE.trans (UE.refl _) (by kernel_rfl) (by kernel_rfl) (fun _ => trivial) ?rstg6 ?rstepsg6 ?rfing6
          case rstg6 =>
            intro R hR v s s' _ h hr
            simp only [List.mem_cons, List.not_mem_nil, or_false] at hR
            rcases hR with rfl | rfl | rfl | rfl | rfl | rfl | rfl | rfl | rfl | rfl | rfl | rfl | rfl | rfl | rfl | rfl | rfl | rfl | rfl | rfl | rfl | rfl | rfl | rfl | rfl | rfl | rfl | rfl
            · exact hr
            · exact hr
            · exact hr
            · exact hr
            · exact hr
            · exact hr
            · exact hr
            · exact hr
            · exact hr
            · exact hr
            · exact hr
            · exact hr
            · exact hr
            · exact hr
            · exact hr
            · exact hr
            · exact hr
            · exact hr
            · exact hr
            · exact hr
            · exact hr
            · exact hr
            · exact hr
            · exact hr
            · exact hr
            · exact hr
            · exact hr
            · exact hr
          case rstepsg6 =>
            refine ⟨?_, ?_, ?_, ?_, ?_, ?_, ?_, ?_, ?_, ?_, ?_, ?_, ?_, ?_, ?_, ?_, ?_, ?_, ?_, ?_, ?_, ?_, ?_, ?_, ?_, ?_, ?_, ?_, trivial⟩
            · intro o a γ wx ho hB hE hN hW K hK
              simp only [List.getElem?_toArray, List.getElem?_cons_zero, List.getElem?_cons_succ, Option.some.injEq] at ho
              subst ho
              have hw := UE.start hE
              have h9 : a.tmps[9]? = some (.bool SAB) := (hB.at_ 9 (of_decide_eq_true (by kernel_rfl))).trans rfl
              clear hB hN hE
              go_simp
              exact hK (.bool SAB) () _ (UE.refl _) (fun _ _ h => h) rfl
            · intro o a γ wx ho hB hE hN hW K hK
              simp only [List.getElem?_toArray, List.getElem?_cons_zero, List.getElem?_cons_succ, Option.some.injEq] at ho
              subst ho
              have hw := UE.start hE
              have h3 : a.tmps[3]? = some (.pointer (some ⟨w.heap.size, 0, none⟩)) := (hB.at_ 3 (of_decide_eq_true (by kernel_rfl))).trans rfl
              have hc := HCE.out _ (hw05.trans (hw.mono hw05.size))
              clear hB hN hE
              go_simp
              exact hK (.agg #[.slice Aa ta.nodes.length ca, .int .i64 ta.root]) () _ (UE.refl _) (fun _ _ h => h) rfl
            · intro o a γ wx ho hB hE hN hW K hK
              simp only [List.getElem?_toArray, List.getElem?_cons_zero, List.getElem?_cons_succ, Option.some.injEq] at ho
              subst ho
              have hw := UE.start hE
              obtain ⟨⟨_, h58, rfl⟩, _⟩ := hW
              clear hB hN hE
              go_simp
              refine (HRa.out _ (hw05.trans (hw.mono hw05.size))).mono ?_
              rintro e w' ⟨rfl, hbb⟩
              exact hK _ () _ hbb (fun _ _ h => h) rfl
            · intro o a γ wx ho hB hE hN hW K hK
              simp only [List.getElem?_toArray, List.getElem?_cons_zero, List.getElem?_cons_succ, Option.some.injEq] at ho
              subst ho
              have hw := UE.start hE
              obtain ⟨⟨_, h59, rfl⟩, _, _⟩ := hW
              clear hB hN hE
              go_simp
              exact hK (.bool true) () _ (UE.refl _) (fun _ _ h => h) rfl
            · intro o a γ wx ho hB hE hN hW K hK
              simp only [List.getElem?_toArray, List.getElem?_cons_zero, List.getElem?_cons_succ, Option.some.injEq] at ho
              subst ho
              have hw := UE.start hE
              obtain ⟨⟨_, h60, rfl⟩, _⟩ := hW
              have h4 : a.tmps[4]? = some (.pointer (some ⟨w.heap.size + 1, 0, none⟩)) := (hB.at_ 4 (of_decide_eq_true (by kernel_rfl))).trans rfl
              have hc := HCE.out _ (hw05.trans (hw.mono hw05.size))
              clear hB hN hE
              go_simp
              exact hK (.agg #[.slice Ab tb.nodes.length cb, .int .i64 tb.root]) () _ (UE.refl _) (fun _ _ h => h) rfl
            · intro o a γ wx ho hB hE hN hW K hK
              simp only [List.getElem?_toArray, List.getElem?_cons_zero, List.getElem?_cons_succ, Option.some.injEq] at ho
              subst ho
              have hw := UE.start hE
              obtain ⟨⟨_, h61, rfl⟩, ⟨_, h60, rfl⟩, _, _⟩ := hW
              clear hB hN hE
              go_simp
              refine (HRb.out _ (hw05.trans (hw.mono hw05.size))).mono ?_
              rintro e w' ⟨rfl, hbb⟩
              exact hK _ () _ hbb (fun _ _ h => h) rfl
            · intro o a γ wx ho hB hE hN hW K hK
              simp only [List.getElem?_toArray, List.getElem?_cons_zero, List.getElem?_cons_succ, Option.some.injEq] at ho
              subst ho
              have hw := UE.start hE
              obtain ⟨⟨_, h60, rfl⟩, ⟨_, h62, rfl⟩, _⟩ := hW
              clear hB hN hE
              go_simp
              exact hK (.bool true) () _ (UE.refl _) (fun _ _ h => h) rfl
            · intro o a γ wx ho hB hE hN hW K hK
              simp only [List.getElem?_toArray, List.getElem?_cons_zero, List.getElem?_cons_succ, Option.some.injEq] at ho
              subst ho
              have hw := UE.start hE
              obtain ⟨⟨_, h63, rfl⟩, ⟨_, h62, rfl⟩, _⟩ := hW
              clear hB hN hE
              go_simp
              exact hK (.bool true) () _ (UE.refl _) (fun _ _ h => h) rfl
            · intro o a γ wx ho hB hE hN hW K hK
              simp only [List.getElem?_toArray, List.getElem?_cons_zero, List.getElem?_cons_succ, Option.some.injEq] at ho
              subst ho
              have hw := UE.start hE
              obtain ⟨⟨_, h64, rfl⟩, _⟩ := hW
              have h7 : a.tmps[7]? = some (.pointer (some ⟨gx, 0, none⟩)) := (hB.at_ 7 (of_decide_eq_true (by kernel_rfl))).trans rfl
              have hc := HCE.out _ (hw05.trans (hw.mono hw05.size))
              clear hB hN hE
              go_simp
              exact hK (.agg #[.slice Ax nx cx, .int .i64 (cleanOf ta).root]) () _ (UE.refl _) (fun _ _ h => h) rfl
            · intro o a γ wx ho hB hE hN hW K hK
              simp only [List.getElem?_toArray, List.getElem?_cons_zero, List.getElem?_cons_succ, Option.some.injEq] at ho
              subst ho
              have hw := UE.start hE
              obtain ⟨⟨_, h64, rfl⟩, _⟩ := hW
              have h8 : a.tmps[8]? = some (.pointer (some ⟨gy, 0, none⟩)) := (hB.at_ 8 (of_decide_eq_true (by kernel_rfl))).trans rfl
              have hc := HCE.out _ (hw05.trans (hw.mono hw05.size))
              clear hB hN hE
              go_simp
              exact hK (.agg #[.slice Ay ny cy, .int .i64 (cleanOf tb).root]) () _ (UE.refl _) (fun _ _ h => h) rfl
            · intro o a γ wx ho hB hE hN hW K hK
              simp only [List.getElem?_toArray, List.getElem?_cons_zero, List.getElem?_cons_succ, Option.some.injEq] at ho
              subst ho
              have hw := UE.start hE
              obtain ⟨⟨_, h65, rfl⟩, ⟨_, h66, rfl⟩, ⟨_, h64, rfl⟩, _, _⟩ := hW
              clear hB hN hE
              go_simp
              refine (HExy.out _ (hw05.trans (hw.mono hw05.size))).mono ?_
              rintro e w' ⟨rfl, hbb⟩
              exact hK _ () _ hbb (fun _ _ h => h) rfl
            · intro o a γ wx ho hB hE hN hW K hK
              simp only [List.getElem?_toArray, List.getElem?_cons_zero, List.getElem?_cons_succ, Option.some.injEq] at ho
              subst ho
              have hw := UE.start hE
              obtain ⟨⟨_, h64, rfl⟩, ⟨_, h67, rfl⟩, _⟩ := hW
              clear hB hN hE
              go_simp
              exact hK (.bool SAB) () _ (UE.refl _) (fun _ _ h => h) rfl
            · intro o a γ wx ho hB hE hN hW K hK
              simp only [List.getElem?_toArray, List.getElem?_cons_zero, List.getElem?_cons_succ, Option.some.injEq] at ho
              subst ho
              have hw := UE.start hE
              obtain ⟨⟨_, h57, rfl⟩, ⟨_, h68, rfl⟩, _⟩ := hW
              clear hB hN hE
              go_simp
              exact hK (.bool false) () _ (UE.refl _) (fun _ _ h => h) rfl
            · intro o a γ wx ho hB hE hN hW K hK
              simp only [List.getElem?_toArray, List.getElem?_cons_zero, List.getElem?_cons_succ, Option.some.injEq] at ho
              subst ho
              have hw := UE.start hE
              obtain ⟨⟨_, h69, rfl⟩, ⟨_, h67, rfl⟩, _⟩ := hW
              clear hB hN hE
              go_simp
              exact hK (.bool false) () _ (UE.refl _) (fun _ _ h => h) rfl
            · intro o a γ wx ho hB hE hN hW K hK
              simp only [List.getElem?_toArray, List.getElem?_cons_zero, List.getElem?_cons_succ, Option.some.injEq] at ho
              subst ho
              have hw := UE.start hE
              obtain ⟨⟨_, h70, rfl⟩, _⟩ := hW
              have h4 : a.tmps[4]? = some (.pointer (some ⟨w.heap.size + 1, 0, none⟩)) := (hB.at_ 4 (of_decide_eq_true (by kernel_rfl))).trans rfl
              have hc := HCE.out _ (hw05.trans (hw.mono hw05.size))
              clear hB hN hE
              go_simp
              exact hK (.agg #[.slice Ab tb.nodes.length cb, .int .i64 tb.root]) () _ (UE.refl _) (fun _ _ h => h) rfl
            · intro o a γ wx ho hB hE hN hW K hK
              simp only [List.getElem?_toArray, List.getElem?_cons_zero, List.getElem?_cons_succ, Option.some.injEq] at ho
              subst ho
              have hw := UE.start hE
              obtain ⟨⟨_, h70, rfl⟩, _⟩ := hW
              have h3 : a.tmps[3]? = some (.pointer (some ⟨w.heap.size, 0, none⟩)) := (hB.at_ 3 (of_decide_eq_true (by kernel_rfl))).trans rfl
              have hc := HCE.out _ (hw05.trans (hw.mono hw05.size))
              clear hB hN hE
              go_simp
              exact hK (.agg #[.slice Aa ta.nodes.length ca, .int .i64 ta.root]) () _ (UE.refl _) (fun _ _ h => h) rfl
            · intro o a γ wx ho hB hE hN hW K hK
              simp only [List.getElem?_toArray, List.getElem?_cons_zero, List.getElem?_cons_succ, Option.some.injEq] at ho
              subst ho
              have hw := UE.start hE
              obtain ⟨⟨_, h71, rfl⟩, ⟨_, h72, rfl⟩, ⟨_, h70, rfl⟩, _, _⟩ := hW
              clear hB hN hE
              go_simp
              refine (HSba.out _ (hw05.trans (hw.mono hw05.size))).mono ?_
              rintro e w' ⟨rfl, hbb⟩
              exact hK _ () _ hbb (fun _ _ h => h) rfl
            · intro o a γ wx ho hB hE hN hW K hK
              simp only [List.getElem?_toArray, List.getElem?_cons_zero, List.getElem?_cons_succ, Option.some.injEq] at ho
              subst ho
              have hw := UE.start hE
              obtain ⟨⟨_, h70, rfl⟩, _⟩ := hW
              have h9 : a.tmps[9]? = some (.bool SAB) := (hB.at_ 9 (of_decide_eq_true (by kernel_rfl))).trans rfl
              clear hB hN hE
              go_simp
              exact hK (.bool SAB) () _ (UE.refl _) (fun _ _ h => h) rfl
            · intro o a γ wx ho hB hE hN hW K hK
              simp only [List.getElem?_toArray, List.getElem?_cons_zero, List.getElem?_cons_succ, Option.some.injEq] at ho
              subst ho
              have hw := UE.start hE
              obtain ⟨⟨_, h73, rfl⟩, ⟨_, h74, rfl⟩, ⟨_, h70, rfl⟩, _⟩ := hW
              clear hB hN hE
              go_simp
              exact hK (.bool false) () _ (UE.refl _) (fun _ _ h => h) rfl
            · intro o a γ wx ho hB hE hN hW K hK
              simp only [List.getElem?_toArray, List.getElem?_cons_zero, List.getElem?_cons_succ, Option.some.injEq] at ho
              subst ho
              have hw := UE.start hE
              obtain ⟨⟨_, h70, rfl⟩, ⟨_, h75, rfl⟩, _⟩ := hW
              clear hB hN hE
              go_simp
              exact hK (.bool false) () _ (UE.refl _) (fun _ _ h => h) rfl
            · intro o a γ wx ho hB hE hN hW K hK
              simp only [List.getElem?_toArray, List.getElem?_cons_zero, List.getElem?_cons_succ, Option.some.injEq] at ho
              subst ho
              have hw := UE.start hE
              obtain ⟨⟨_, h76, rfl⟩, ⟨_, h73, rfl⟩, _⟩ := hW
              clear hB hN hE
              go_simp
              exact hK (.bool false) () _ (UE.refl _) (fun _ _ h => h) rfl
            · intro o a γ wx ho hB hE hN hW K hK
              simp only [List.getElem?_toArray, List.getElem?_cons_zero, List.getElem?_cons_succ, Option.some.injEq] at ho
              subst ho
              have hw := UE.start hE
              obtain ⟨⟨_, h77, rfl⟩, _⟩ := hW
              have h3 : a.tmps[3]? = some (.pointer (some ⟨w.heap.size, 0, none⟩)) := (hB.at_ 3 (of_decide_eq_true (by kernel_rfl))).trans rfl
              have hc := HCE.out _ (hw05.trans (hw.mono hw05.size))
              clear hB hN hE
              go_simp
              exact hK (.agg #[.slice Aa ta.nodes.length ca, .int .i64 ta.root]) () _ (UE.refl _) (fun _ _ h => h) rfl
            · intro o a γ wx ho hB hE hN hW K hK
              simp only [List.getElem?_toArray, List.getElem?_cons_zero, List.getElem?_cons_succ, Option.some.injEq] at ho
              subst ho
              have hw := UE.start hE
              obtain ⟨⟨_, h77, rfl⟩, _⟩ := hW
              have h3 : a.tmps[3]? = some (.pointer (some ⟨w.heap.size, 0, none⟩)) := (hB.at_ 3 (of_decide_eq_true (by kernel_rfl))).trans rfl
              have hc := HCE.out _ (hw05.trans (hw.mono hw05.size))
              clear hB hN hE
              go_simp
              exact hK (.agg #[.slice Aa ta.nodes.length ca, .int .i64 ta.root]) () _ (UE.refl _) (fun _ _ h => h) rfl
            · intro o a γ wx ho hB hE hN hW K hK
              simp only [List.getElem?_toArray, List.getElem?_cons_zero, List.getElem?_cons_succ, Option.some.injEq] at ho
              subst ho
              have hw := UE.start hE
              obtain ⟨⟨_, h78, rfl⟩, ⟨_, h79, rfl⟩, ⟨_, h77, rfl⟩, _, _⟩ := hW
              clear hB hN hE
              go_simp
              refine (HSaa.out _ (hw05.trans (hw.mono hw05.size))).mono ?_
              rintro e w' ⟨rfl, hbb⟩
              exact hK _ () _ hbb (fun _ _ h => h) rfl
            · intro o a γ wx ho hB hE hN hW K hK
              simp only [List.getElem?_toArray, List.getElem?_cons_zero, List.getElem?_cons_succ, Option.some.injEq] at ho
              subst ho
              have hw := UE.start hE
              obtain ⟨⟨_, h77, rfl⟩, _⟩ := hW
              have h3 : a.tmps[3]? = some (.pointer (some ⟨w.heap.size, 0, none⟩)) := (hB.at_ 3 (of_decide_eq_true (by kernel_rfl))).trans rfl
              have hc := HCE.out _ (hw05.trans (hw.mono hw05.size))
              clear hB hN hE
              go_simp
              exact hK (.agg #[.slice Aa ta.nodes.length ca, .int .i64 ta.root]) () _ (UE.refl _) (fun _ _ h => h) rfl
            · intro o a γ wx ho hB hE hN hW K hK
              simp only [List.getElem?_toArray, List.getElem?_cons_zero, List.getElem?_cons_succ, Option.some.injEq] at ho
              subst ho
              have hw := UE.start hE
              obtain ⟨⟨_, h81, rfl⟩, ⟨_, h80, rfl⟩, ⟨_, h77, rfl⟩, _⟩ := hW
              clear hB hN hE
              go_simp
              refine (HRa.out _ (hw05.trans (hw.mono hw05.size))).mono ?_
              rintro e w' ⟨rfl, hbb⟩
              exact hK _ () _ hbb (fun _ _ h => h) rfl
            · intro o a γ wx ho hB hE hN hW K hK
              simp only [List.getElem?_toArray, List.getElem?_cons_zero, List.getElem?_cons_succ, Option.some.injEq] at ho
              subst ho
              have hw := UE.start hE
              obtain ⟨⟨_, h80, rfl⟩, ⟨_, h82, rfl⟩, ⟨_, h77, rfl⟩, _⟩ := hW
              clear hB hN hE
              go_simp
              exact hK (.bool false) () _ (UE.refl _) (fun _ _ h => h) rfl
            · intro o a γ wx ho hB hE hN hW K hK
              simp only [List.getElem?_toArray, List.getElem?_cons_zero, List.getElem?_cons_succ, Option.some.injEq] at ho
              subst ho
              have hw := UE.start hE
              obtain ⟨⟨_, h77, rfl⟩, ⟨_, h83, rfl⟩, _⟩ := hW
              clear hB hN hE
              go_simp
              exact hK (.bool false) () _ (UE.refl _) (fun _ _ h => h) rfl
          intro a' γ wx hB hE hK
          obtain ⟨⟨_, h57, rfl⟩, ⟨_, h58, rfl⟩, ⟨_, h59, rfl⟩, ⟨_, h60, rfl⟩, ⟨_, h61, rfl⟩, ⟨_, h62, rfl⟩, ⟨_, h63, rfl⟩, ⟨_, h64, rfl⟩, ⟨_, h65, rfl⟩, ⟨_, h66, rfl⟩, ⟨_, h67, rfl⟩, ⟨_, h68, rfl⟩, ⟨_, h69, rfl⟩, ⟨_, h70, rfl⟩, ⟨_, h71, rfl⟩, ⟨_, h72, rfl⟩, ⟨_, h73, rfl⟩, ⟨_, h74, rfl⟩, ⟨_, h75, rfl⟩, ⟨_, h76, rfl⟩, ⟨_, h77, rfl⟩, ⟨_, h78, rfl⟩, ⟨_, h79, rfl⟩, ⟨_, h80, rfl⟩, ⟨_, h81, rfl⟩, ⟨_, h82, rfl⟩, ⟨_, h83, rfl⟩, ⟨_, h84, rfl⟩, _⟩ := hK
          have ha := hB.eq [(57, .bool SAB), (58, .agg #[.slice Aa ta.nodes.length ca, .int .i64 ta.root]), (59, .bool true), (60, .bool true), (61, .agg #[.slice Ab tb.nodes.length cb, .int .i64 tb.root]), (62, .bool true), (63, .bool true), (64, .bool true), (65, .agg #[.slice Ax nx cx, .int .i64 (cleanOf ta).root]), (66, .agg #[.slice Ay ny cy, .int .i64 (cleanOf tb).root]), (67, .bool SAB), (68, .bool SAB), (69, .bool false), (70, .bool false), (71, .agg #[.slice Ab tb.nodes.length cb, .int .i64 tb.root]), (72, .agg #[.slice Aa ta.nodes.length ca, .int .i64 ta.root]), (73, .bool SAB), (74, .bool SAB), (75, .bool false), (76, .bool false), (77, .bool false), (78, .agg #[.slice Aa ta.nodes.length ca, .int .i64 ta.root]), (79, .agg #[.slice Aa ta.nodes.length ca, .int .i64 ta.root]), (80, .bool true), (81, .agg #[.slice Aa ta.nodes.length ca, .int .i64 ta.root]), (82, .bool true), (83, .bool false), (84, .bool false)] rfl (by kernel_rfl) ⟨h57, h58, h59, h60, h61, h62, h63, h64, h65, h66, h67, h68, h69, h70, h71, h72, h73, h74, h75, h76, h77, h78, h79, h80, h81, h82, h83, h84, trivial⟩
          subst ha
          have hw := UE.start hE
          clear hB hE h57 h58 h59 h60 h61 h62 h63 h64 h65 h66 h67 h68 h69 h70 h71 h72 h73 h74 h75 h76 h77 h78 h79 h80 h81 h82 h83 h84
          simp only [putAll, List.foldl_cons, List.foldl_nil, List.setIfInBounds_toArray, List.set_cons_succ, List.set_cons_zero]
          /- >R7TT -/
          have HW9 := Lib.hid (HW3.out.trans ((hw05.trans (hw.mono hw05.size)).mono HW3.out.size))
          clear hw hw05
          cases SAB
          · go_wp2_with fail
            go_ret
            exact ⟨rfl, HW9.out⟩
          · cases SBC
            · go_wp2_with fail
              go_ret
              exact ⟨rfl, HW9.out⟩
            · obtain rfl := HT3.out rfl rfl
              go_wp2_with fail
              go_ret
              exact ⟨rfl, HW9.out⟩
        · obtain rfl : RB = false := by simpa using hrb
          obtain rfl : SAB = false := by rw [HSAB.out]; exact decide_eq_false fun h => by have := HRB.out; simp at this; exact this h.2.1
/- R6TF< -/
          refine wp_region_inv (G := Unit) () UE UN
            [fun v _ => v = .agg #[.slice Aa ta.nodes.length ca, .int .i64 ta.root], fun v _ => v = .agg #[.slice Ab tb.nodes.length cb, .int .i64 tb.root], fun v _ => v = .bool false, fun v _ => v = .agg #[.slice Ab tb.nodes.length cb, .int .i64 tb.root], fun v _ => v = .agg #[.slice Ac tc.nodes.length cc, .int .i64 tc.root], fun v _ => v = .bool SBC, fun v _ => v = .agg #[.slice Aa ta.nodes.length ca, .int .i64 ta.root], fun v _ => v = .agg #[.slice Ac tc.nodes.length cc, .int .i64 tc.root], fun v _ => v = .bool SAC, fun v _ => v = .bool false, fun v _ => v = .bool SBC, fun v _ => v = .bool SAC]
            (by kernel_rfl) UE.trans (UE.refl _) (by kernel_rfl) (by kernel_rfl) (fun _ => trivial) ?rstg4 ?rstepsg4 ?rfing4
          case rstg4 =>
            intro R hR v s s' _ h hr
            simp only [List.mem_cons, List.not_mem_nil, or_false] at hR
            rcases hR with rfl | rfl | rfl | rfl | rfl | rfl | rfl | rfl | rfl | rfl | rfl | rfl
            · exact hr
            · exact hr
            · exact hr
            · exact hr
            · exact hr
            · exact hr
            · exact hr
            · exact hr
            · exact hr
            · exact hr
            · exact hr
            · exact hr
          case rstepsg4 =>
            refine ⟨?_, ?_, ?_, ?_, ?_, ?_, ?_, ?_, ?_, ?_, ?_, ?_, trivial⟩
            · intro o a γ wx ho hB hE hN hW K hK
              simp only [List.getElem?_toArray, List.getElem?_cons_zero, List.getElem?_cons_succ, Option.some.injEq] at ho
              subst ho
              have hw := UE.start hE
              have h3 : a.tmps[3]? = some (.pointer (some ⟨w.heap.size, 0, none⟩)) := (hB.at_ 3 (of_decide_eq_true (by kernel_rfl))).trans rfl
              have hc := HCE.out _ (hw04.trans (hw.mono hw04.size))
              clear hB hN hE
              go_simp
              exact hK (.agg #[.slice Aa ta.nodes.length ca, .int .i64 ta.root]) () _ (UE.refl _) (fun _ _ h => h) rfl
            · intro o a γ wx ho hB hE hN hW K hK
              simp only [List.getElem?_toArray, List.getElem?_cons_zero, List.getElem?_cons_succ, Option.some.injEq] at ho
              subst ho
              have hw := UE.start hE
              have h4 : a.tmps[4]? = some (.pointer (some ⟨w.heap.size + 1, 0, none⟩)) := (hB.at_ 4 (of_decide_eq_true (by kernel_rfl))).trans rfl
              have hc := HCE.out _ (hw04.trans (hw.mono hw04.size))
              clear hB hN hE
              go_simp
              exact hK (.agg #[.slice Ab tb.nodes.length cb, .int .i64 tb.root]) () _ (UE.refl _) (fun _ _ h => h) rfl
            · intro o a γ wx ho hB hE hN hW K hK
              simp only [List.getElem?_toArray, List.getElem?_cons_zero, List.getElem?_cons_succ, Option.some.injEq] at ho
              subst ho
              have hw := UE.start hE
              obtain ⟨⟨_, h48, rfl⟩, ⟨_, h49, rfl⟩, _⟩ := hW
              clear hB hN hE
              go_simp
              refine (HSab.out _ (hw04.trans (hw.mono hw04.size))).mono ?_
              rintro e w' ⟨rfl, hbb⟩
              exact hK _ () _ hbb (fun _ _ h => h) rfl
            · intro o a γ wx ho hB hE hN hW K hK
              simp only [List.getElem?_toArray, List.getElem?_cons_zero, List.getElem?_cons_succ, Option.some.injEq] at ho
              subst ho
              have hw := UE.start hE
              have h4 : a.tmps[4]? = some (.pointer (some ⟨w.heap.size + 1, 0, none⟩)) := (hB.at_ 4 (of_decide_eq_true (by kernel_rfl))).trans rfl
              have hc := HCE.out _ (hw04.trans (hw.mono hw04.size))
              clear hB hN hE
              go_simp
              exact hK (.agg #[.slice Ab tb.nodes.length cb, .int .i64 tb.root]) () _ (UE.refl _) (fun _ _ h => h) rfl
            · intro o a γ wx ho hB hE hN hW K hK
              simp only [List.getElem?_toArray, List.getElem?_cons_zero, List.getElem?_cons_succ, Option.some.injEq] at ho
              subst ho
              have hw := UE.start hE
              have h5 : a.tmps[5]? = some (.pointer (some ⟨w.heap.size + 1 + 1, 0, none⟩)) := (hB.at_ 5 (of_decide_eq_true (by kernel_rfl))).trans rfl
              have hc := HCE.out _ (hw04.trans (hw.mono hw04.size))
              clear hB hN hE
              go_simp
              exact hK (.agg #[.slice Ac tc.nodes.length cc, .int .i64 tc.root]) () _ (UE.refl _) (fun _ _ h => h) rfl
            · intro o a γ wx ho hB hE hN hW K hK
              simp only [List.getElem?_toArray, List.getElem?_cons_zero, List.getElem?_cons_succ, Option.some.injEq] at ho
              subst ho
              have hw := UE.start hE
              obtain ⟨⟨_, h51, rfl⟩, ⟨_, h52, rfl⟩, ⟨_, h50, rfl⟩, _⟩ := hW
              clear hB hN hE
              go_simp
              refine (HSbc.out _ (hw04.trans (hw.mono hw04.size))).mono ?_
              rintro e w' ⟨rfl, hbb⟩
              exact hK _ () _ hbb (fun _ _ h => h) rfl
            · intro o a γ wx ho hB hE hN hW K hK
              simp only [List.getElem?_toArray, List.getElem?_cons_zero, List.getElem?_cons_succ, Option.some.injEq] at ho
              subst ho
              have hw := UE.start hE
              have h3 : a.tmps[3]? = some (.pointer (some ⟨w.heap.size, 0, none⟩)) := (hB.at_ 3 (of_decide_eq_true (by kernel_rfl))).trans rfl
              have hc := HCE.out _ (hw04.trans (hw.mono hw04.size))
              clear hB hN hE
              go_simp
              exact hK (.agg #[.slice Aa ta.nodes.length ca, .int .i64 ta.root]) () _ (UE.refl _) (fun _ _ h => h) rfl
            · intro o a γ wx ho hB hE hN hW K hK
              simp only [List.getElem?_toArray, List.getElem?_cons_zero, List.getElem?_cons_succ, Option.some.injEq] at ho
              subst ho
              have hw := UE.start hE
              have h5 : a.tmps[5]? = some (.pointer (some ⟨w.heap.size + 1 + 1, 0, none⟩)) := (hB.at_ 5 (of_decide_eq_true (by kernel_rfl))).trans rfl
              have hc := HCE.out _ (hw04.trans (hw.mono hw04.size))
              clear hB hN hE
              go_simp
              exact hK (.agg #[.slice Ac tc.nodes.length cc, .int .i64 tc.root]) () _ (UE.refl _) (fun _ _ h => h) rfl
            · intro o a γ wx ho hB hE hN hW K hK
              simp only [List.getElem?_toArray, List.getElem?_cons_zero, List.getElem?_cons_succ, Option.some.injEq] at ho
              subst ho
              have hw := UE.start hE
              obtain ⟨⟨_, h54, rfl⟩, ⟨_, h55, rfl⟩, ⟨_, h53, rfl⟩, _⟩ := hW
              clear hB hN hE
              go_simp
              refine (HSac.out _ (hw04.trans (hw.mono hw04.size))).mono ?_
              rintro e w' ⟨rfl, hbb⟩
              exact hK _ () _ hbb (fun _ _ h => h) rfl
            · intro o a γ wx ho hB hE hN hW K hK
              simp only [List.getElem?_toArray, List.getElem?_cons_zero, List.getElem?_cons_succ, Option.some.injEq] at ho
              subst ho
              have hw := UE.start hE
              obtain ⟨⟨_, h50, rfl⟩, ⟨_, h56, rfl⟩, ⟨_, h48, rfl⟩, ⟨_, h49, rfl⟩, _, _⟩ := hW
              clear hB hN hE
              go_simp
              exact hK (.bool false) () _ (UE.refl _) (fun _ _ h => h) rfl
            · intro o a γ wx ho hB hE hN hW K hK
              simp only [List.getElem?_toArray, List.getElem?_cons_zero, List.getElem?_cons_succ, Option.some.injEq] at ho
              subst ho
              have hw := UE.start hE
              obtain ⟨⟨_, h53, rfl⟩, ⟨_, h9, rfl⟩, ⟨_, h48, rfl⟩, ⟨_, h49, rfl⟩, ⟨_, h50, rfl⟩, ⟨_, h51, rfl⟩, ⟨_, h52, rfl⟩, _, _, _⟩ := hW
              clear hB hN hE
              go_simp
              exact hK (.bool SBC) () _ (UE.refl _) (fun _ _ h => h) rfl
            · intro o a γ wx ho hB hE hN hW K hK
              simp only [List.getElem?_toArray, List.getElem?_cons_zero, List.getElem?_cons_succ, Option.some.injEq] at ho
              subst ho
              have hw := UE.start hE
              obtain ⟨⟨_, h56, rfl⟩, ⟨_, h10, rfl⟩, ⟨_, h48, rfl⟩, ⟨_, h49, rfl⟩, ⟨_, h50, rfl⟩, ⟨_, h51, rfl⟩, ⟨_, h52, rfl⟩, ⟨_, h53, rfl⟩, ⟨_, h54, rfl⟩, ⟨_, h55, rfl⟩, _, ⟨_, h9, rfl⟩, _, _⟩ := hW
              clear hB hN hE
              go_simp
              exact hK (.bool SAC) () _ (UE.refl _) (fun _ _ h => h) rfl
          intro a' γ wx hB hE hK
          obtain ⟨⟨_, h48, rfl⟩, ⟨_, h49, rfl⟩, ⟨_, h50, rfl⟩, ⟨_, h51, rfl⟩, ⟨_, h52, rfl⟩, ⟨_, h53, rfl⟩, ⟨_, h54, rfl⟩, ⟨_, h55, rfl⟩, ⟨_, h56, rfl⟩, ⟨_, h9, rfl⟩, ⟨_, h10, rfl⟩, ⟨_, h11, rfl⟩, _⟩ := hK
          have ha := hB.eq [(48, .agg #[.slice Aa ta.nodes.length ca, .int .i64 ta.root]), (49, .agg #[.slice Ab tb.nodes.length cb, .int .i64 tb.root]), (50, .bool false), (51, .agg #[.slice Ab tb.nodes.length cb, .int .i64 tb.root]), (52, .agg #[.slice Ac tc.nodes.length cc, .int .i64 tc.root]), (53, .bool SBC), (54, .agg #[.slice Aa ta.nodes.length ca, .int .i64 ta.root]), (55, .agg #[.slice Ac tc.nodes.length cc, .int .i64 tc.root]), (56, .bool SAC), (9, .bool false), (10, .bool SBC), (11, .bool SAC)] rfl (by kernel_rfl) ⟨h48, h49, h50, h51, h52, h53, h54, h55, h56, h9, h10, h11, trivial⟩
          subst ha
          have hw := UE.start hE
          clear hB hE h48 h49 h50 h51 h52 h53 h54 h55 h56 h9 h10 h11
          simp only [putAll, List.foldl_cons, List.foldl_nil, List.setIfInBounds_toArray, List.set_cons_succ, List.set_cons_zero]
          /- >R6TF -/
          go_wp2_with fail
          obtain ⟨w5, hw5⟩ : ∃ w5, w5 = wx := ⟨_, rfl⟩
          subst hw5
          have hw05 := hw04.trans (hw.mono hw04.size)
          clear hw hw04
/- R7TF< -/
          refine wp_region_inv (G := Unit) () UE UN
            [fun v _ => v = .bool false, fun v _ => v = .agg #[.slice Aa ta.nodes.length ca, .int .i64 ta.root], fun v _ => v = .bool true, fun v _ => v = .bool true, fun v _ => v = .agg #[.slice Ab tb.nodes.length cb, .int .i64 tb.root], fun v _ => v = .bool false, fun v _ => v = .bool false, fun v _ => v = .bool false, fun v _ => v = undef, fun v _ => v = undef, fun v _ => v = undef, fun v _ => v = .bool false, fun v _ => v = .bool false, fun v _ => v = .bool false, fun v _ => v = .agg #[.slice Ab tb.nodes.length cb, .int .i64 tb.root], fun v _ => v = .agg #[.slice Aa ta.nodes.length ca, .int .i64 ta.root], fun v _ => v = .bool false, fun v _ => v = .bool false, fun v _ => v = .bool false, fun v _ => v = .bool false, fun v _ => v = .bool false, fun v _ => v = .agg #[.slice Aa ta.nodes.length ca, .int .i64 ta.root], fun v _ => v = .agg #[.slice Aa ta.nodes.length ca, .int .i64 ta.root], fun v _ => v = .bool true, fun v _ => v = .agg #[.slice Aa ta.nodes.length ca, .int .i64 ta.root], fun v _ => v = .bool true, fun v _ => v = .bool false, fun v _ => v = .bool false]
            (by kernel_rfl) UE.trans (UE.refl _) (by kernel_rfl) (by kernel_rfl) (fun _ => trivial) ?rstg7 ?rstepsg7 ?rfing7
          case rstg7 =>
            intro R hR v s s' _ h hr
            simp only [List.mem_cons, List.not_mem_nil, or_false] at hR
            rcases hR with rfl | rfl | rfl | rfl | rfl | rfl | rfl | rfl | rfl | rfl | rfl | rfl | rfl | rfl | rfl | rfl | rfl | rfl | rfl | rfl | rfl | rfl | rfl | rfl | rfl | rfl | rfl | rfl
            · exact hr
            · exact hr
            · exact hr
            · exact hr
            · exact hr
            · exact hr
            · exact hr
            · exact hr
            · exact hr
            · exact hr
            · exact hr
            · exact hr
            · exact hr
            · exact hr
            · exact hr
            · exact hr
            · exact hr
            · exact hr
            · exact hr
            · exact hr
            · exact hr
            · exact hr
            · exact hr
            · exact hr
            · exact hr
            · exact hr
            · exact hr
            · exact hr
          case rstepsg7 =>
            refine ⟨?_, ?_, ?_, ?_, ?_, ?_, ?_, ?_, ?_, ?_, ?_, ?_, ?_, ?_, ?_, ?_, ?_, ?_, ?_, ?_, ?_, ?_, ?_, ?_, ?_, ?_, ?_, ?_, trivial⟩
            · intro o a γ wx ho hB hE hN hW K hK
              simp only [List.getElem?_toArray, List.getElem?_cons_zero, List.getElem?_cons_succ, Option.some.injEq] at ho
              subst ho
              have hw := UE.start hE
              have h9 : a.tmps[9]? = some (.bool false) := (hB.at_ 9 (of_decide_eq_true (by kernel_rfl))).trans rfl
              clear hB hN hE
              go_simp
              exact hK (.bool false) () _ (UE.refl _) (fun _ _ h => h) rfl
            · intro o a γ wx ho hB hE hN hW K hK
              simp only [List.getElem?_toArray, List.getElem?_cons_zero, List.getElem?_cons_succ, Option.some.injEq] at ho
              subst ho
              have hw := UE.start hE
              have h3 : a.tmps[3]? = some (.pointer (some ⟨w.heap.size, 0, none⟩)) := (hB.at_ 3 (of_decide_eq_true (by kernel_rfl))).trans rfl
              have hc := HCE.out _ (hw05.trans (hw.mono hw05.size))
              clear hB hN hE
              go_simp
              exact hK (.agg #[.slice Aa ta.nodes.length ca, .int .i64 ta.root]) () _ (UE.refl _) (fun _ _ h => h) rfl
            · intro o a γ wx ho hB hE hN hW K hK
              simp only [List.getElem?_toArray, List.getElem?_cons_zero, List.getElem?_cons_succ, Option.some.injEq] at ho
              subst ho
              have hw := UE.start hE
              obtain ⟨⟨_, h58, rfl⟩, _⟩ := hW
              clear hB hN hE
              go_simp
              refine (HRa.out _ (hw05.trans (hw.mono hw05.size))).mono ?_
              rintro e w' ⟨rfl, hbb⟩
              exact hK _ () _ hbb (fun _ _ h => h) rfl
            · intro o a γ wx ho hB hE hN hW K hK
              simp only [List.getElem?_toArray, List.getElem?_cons_zero, List.getElem?_cons_succ, Option.some.injEq] at ho
              subst ho
              have hw := UE.start hE
              obtain ⟨⟨_, h59, rfl⟩, _, _⟩ := hW
              clear hB hN hE
              go_simp
              exact hK (.bool true) () _ (UE.refl _) (fun _ _ h => h) rfl
            · intro o a γ wx ho hB hE hN hW K hK
              simp only [List.getElem?_toArray, List.getElem?_cons_zero, List.getElem?_cons_succ, Option.some.injEq] at ho
              subst ho
              have hw := UE.start hE
              obtain ⟨⟨_, h60, rfl⟩, _⟩ := hW
              have h4 : a.tmps[4]? = some (.pointer (some ⟨w.heap.size + 1, 0, none⟩)) := (hB.at_ 4 (of_decide_eq_true (by kernel_rfl))).trans rfl
              have hc := HCE.out _ (hw05.trans (hw.mono hw05.size))
              clear hB hN hE
              go_simp
              exact hK (.agg #[.slice Ab tb.nodes.length cb, .int .i64 tb.root]) () _ (UE.refl _) (fun _ _ h => h) rfl
            · intro o a γ wx ho hB hE hN hW K hK
              simp only [List.getElem?_toArray, List.getElem?_cons_zero, List.getElem?_cons_succ, Option.some.injEq] at ho
              subst ho
              have hw := UE.start hE
              obtain ⟨⟨_, h61, rfl⟩, ⟨_, h60, rfl⟩, _, _⟩ := hW
              clear hB hN hE
              go_simp
              refine (HRb.out _ (hw05.trans (hw.mono hw05.size))).mono ?_
              rintro e w' ⟨rfl, hbb⟩
              exact hK _ () _ hbb (fun _ _ h => h) rfl
            · intro o a γ wx ho hB hE hN hW K hK
              simp only [List.getElem?_toArray, List.getElem?_cons_zero, List.getElem?_cons_succ, Option.some.injEq] at ho
              subst ho
              have hw := UE.start hE
              obtain ⟨⟨_, h60, rfl⟩, ⟨_, h62, rfl⟩, _⟩ := hW
              clear hB hN hE
              go_simp
              exact hK (.bool false) () _ (UE.refl _) (fun _ _ h => h) rfl
            · intro o a γ wx ho hB hE hN hW K hK
              simp only [List.getElem?_toArray, List.getElem?_cons_zero, List.getElem?_cons_succ, Option.some.injEq] at ho
              subst ho
              have hw := UE.start hE
              obtain ⟨⟨_, h63, rfl⟩, ⟨_, h62, rfl⟩, _⟩ := hW
              clear hB hN hE
              go_simp
              exact hK (.bool false) () _ (UE.refl _) (fun _ _ h => h) rfl
            · intro o a γ wx ho hB hE hN hW K hK
              simp only [List.getElem?_toArray, List.getElem?_cons_zero, List.getElem?_cons_succ, Option.some.injEq] at ho
              subst ho
              have hw := UE.start hE
              obtain ⟨⟨_, h64, rfl⟩, _⟩ := hW
              have h7 : a.tmps[7]? = some (.pointer (some ⟨gx, 0, none⟩)) := (hB.at_ 7 (of_decide_eq_true (by kernel_rfl))).trans rfl
              have hc := HCE.out _ (hw05.trans (hw.mono hw05.size))
              clear hB hN hE
              go_simp
              exact hK (undef) () _ (UE.refl _) (fun _ _ h => h) rfl
            · intro o a γ wx ho hB hE hN hW K hK
              simp only [List.getElem?_toArray, List.getElem?_cons_zero, List.getElem?_cons_succ, Option.some.injEq] at ho
              subst ho
              have hw := UE.start hE
              obtain ⟨⟨_, h64, rfl⟩, _⟩ := hW
              have h8 : a.tmps[8]? = some (.pointer (some ⟨gy, 0, none⟩)) := (hB.at_ 8 (of_decide_eq_true (by kernel_rfl))).trans rfl
              have hc := HCE.out _ (hw05.trans (hw.mono hw05.size))
              clear hB hN hE
              go_simp
              exact hK (undef) () _ (UE.refl _) (fun _ _ h => h) rfl
            · intro o a γ wx ho hB hE hN hW K hK
              simp only [List.getElem?_toArray, List.getElem?_cons_zero, List.getElem?_cons_succ, Option.some.injEq] at ho
              subst ho
              have hw := UE.start hE
              obtain ⟨⟨_, h65, rfl⟩, ⟨_, h66, rfl⟩, ⟨_, h64, rfl⟩, _, _⟩ := hW
              clear hB hN hE
              go_simp
              exact hK (undef) () _ (UE.refl _) (fun _ _ h => h) rfl
            · intro o a γ wx ho hB hE hN hW K hK
              simp only [List.getElem?_toArray, List.getElem?_cons_zero, List.getElem?_cons_succ, Option.some.injEq] at ho
              subst ho
              have hw := UE.start hE
              obtain ⟨⟨_, h64, rfl⟩, ⟨_, h67, rfl⟩, _⟩ := hW
              clear hB hN hE
              go_simp
              exact hK (.bool false) () _ (UE.refl _) (fun _ _ h => h) rfl
            · intro o a γ wx ho hB hE hN hW K hK
              simp only [List.getElem?_toArray, List.getElem?_cons_zero, List.getElem?_cons_succ, Option.some.injEq] at ho
              subst ho
              have hw := UE.start hE
              obtain ⟨⟨_, h57, rfl⟩, ⟨_, h68, rfl⟩, _⟩ := hW
              clear hB hN hE
              go_simp
              exact hK (.bool false) () _ (UE.refl _) (fun _ _ h => h) rfl
            · intro o a γ wx ho hB hE hN hW K hK
              simp only [List.getElem?_toArray, List.getElem?_cons_zero, List.getElem?_cons_succ, Option.some.injEq] at ho
              subst ho
              have hw := UE.start hE
              obtain ⟨⟨_, h69, rfl⟩, ⟨_, h67, rfl⟩, _⟩ := hW
              clear hB hN hE
              go_simp
              exact hK (.bool false) () _ (UE.refl _) (fun _ _ h => h) rfl
            · intro o a γ wx ho hB hE hN hW K hK
              simp only [List.getElem?_toArray, List.getElem?_cons_zero, List.getElem?_cons_succ, Option.some.injEq] at ho
              subst ho
              have hw := UE.start hE
              obtain ⟨⟨_, h70, rfl⟩, _⟩ := hW
              have h4 : a.tmps[4]? = some (.pointer (some ⟨w.heap.size + 1, 0, none⟩)) := (hB.at_ 4 (of_decide_eq_true (by kernel_rfl))).trans rfl
              have hc := HCE.out _ (hw05.trans (hw.mono hw05.size))
              clear hB hN hE
              go_simp
              exact hK (.agg #[.slice Ab tb.nodes.length cb, .int .i64 tb.root]) () _ (UE.refl _) (fun _ _ h => h) rfl
            · intro o a γ wx ho hB hE hN hW K hK
              simp only [List.getElem?_toArray, List.getElem?_cons_zero, List.getElem?_cons_succ, Option.some.injEq] at ho
              subst ho
              have hw := UE.start hE
              obtain ⟨⟨_, h70, rfl⟩, _⟩ := hW
              have h3 : a.tmps[3]? = some (.pointer (some ⟨w.heap.size, 0, none⟩)) := (hB.at_ 3 (of_decide_eq_true (by kernel_rfl))).trans rfl
              have hc := HCE.out _ (hw05.trans (hw.mono hw05.size))
              clear hB hN hE
              go_simp
              exact hK (.agg #[.slice Aa ta.nodes.length ca, .int .i64 ta.root]) () _ (UE.refl _) (fun _ _ h => h) rfl
            · intro o a γ wx ho hB hE hN hW K hK
              simp only [List.getElem?_toArray, List.getElem?_cons_zero, List.getElem?_cons_succ, Option.some.injEq] at ho
              subst ho
              have hw := UE.start hE
              obtain ⟨⟨_, h71, rfl⟩, ⟨_, h72, rfl⟩, ⟨_, h70, rfl⟩, _, _⟩ := hW
              clear hB hN hE
              go_simp
              refine (HSba.out _ (hw05.trans (hw.mono hw05.size))).mono ?_
              rintro e w' ⟨rfl, hbb⟩
              exact hK _ () _ hbb (fun _ _ h => h) rfl
            · intro o a γ wx ho hB hE hN hW K hK
              simp only [List.getElem?_toArray, List.getElem?_cons_zero, List.getElem?_cons_succ, Option.some.injEq] at ho
              subst ho
              have hw := UE.start hE
              obtain ⟨⟨_, h70, rfl⟩, _⟩ := hW
              have h9 : a.tmps[9]? = some (.bool false) := (hB.at_ 9 (of_decide_eq_true (by kernel_rfl))).trans rfl
              clear hB hN hE
              go_simp
              exact hK (.bool false) () _ (UE.refl _) (fun _ _ h => h) rfl
            · intro o a γ wx ho hB hE hN hW K hK
              simp only [List.getElem?_toArray, List.getElem?_cons_zero, List.getElem?_cons_succ, Option.some.injEq] at ho
              subst ho
              have hw := UE.start hE
              obtain ⟨⟨_, h73, rfl⟩, ⟨_, h74, rfl⟩, ⟨_, h70, rfl⟩, _⟩ := hW
              clear hB hN hE
              go_simp
              exact hK (.bool false) () _ (UE.refl _) (fun _ _ h => h) rfl
            · intro o a γ wx ho hB hE hN hW K hK
              simp only [List.getElem?_toArray, List.getElem?_cons_zero, List.getElem?_cons_succ, Option.some.injEq] at ho
              subst ho
              have hw := UE.start hE
              obtain ⟨⟨_, h70, rfl⟩, ⟨_, h75, rfl⟩, _⟩ := hW
              clear hB hN hE
              go_simp
              exact hK (.bool false) () _ (UE.refl _) (fun _ _ h => h) rfl
            · intro o a γ wx ho hB hE hN hW K hK
              simp only [List.getElem?_toArray, List.getElem?_cons_zero, List.getElem?_cons_succ, Option.some.injEq] at ho
              subst ho
              have hw := UE.start hE
              obtain ⟨⟨_, h76, rfl⟩, ⟨_, h73, rfl⟩, _⟩ := hW
              clear hB hN hE
              go_simp
              exact hK (.bool false) () _ (UE.refl _) (fun _ _ h => h) rfl
            · intro o a γ wx ho hB hE hN hW K hK
              simp only [List.getElem?_toArray, List.getElem?_cons_zero, List.getElem?_cons_succ, Option.some.injEq] at ho
              subst ho
              have hw := UE.start hE
              obtain ⟨⟨_, h77, rfl⟩, _⟩ := hW
              have h3 : a.tmps[3]? = some (.pointer (some ⟨w.heap.size, 0, none⟩)) := (hB.at_ 3 (of_decide_eq_true (by kernel_rfl))).trans rfl
              have hc := HCE.out _ (hw05.trans (hw.mono hw05.size))
              clear hB hN hE
              go_simp
              exact hK (.agg #[.slice Aa ta.nodes.length ca, .int .i64 ta.root]) () _ (UE.refl _) (fun _ _ h => h) rfl
            · intro o a γ wx ho hB hE hN hW K hK
              simp only [List.getElem?_toArray, List.getElem?_cons_zero, List.getElem?_cons_succ, Option.some.injEq] at ho
              subst ho
              have hw := UE.start hE
              obtain ⟨⟨_, h77, rfl⟩, _⟩ := hW
              have h3 : a.tmps[3]? = some (.pointer (some ⟨w.heap.size, 0, none⟩)) := (hB.at_ 3 (of_decide_eq_true (by kernel_rfl))).trans rfl
              have hc := HCE.out _ (hw05.trans (hw.mono hw05.size))
              clear hB hN hE
              go_simp
              exact hK (.agg #[.slice Aa ta.nodes.length ca, .int .i64 ta.root]) () _ (UE.refl _) (fun _ _ h => h) rfl
            · intro o a γ wx ho hB hE hN hW K hK
              simp only [List.getElem?_toArray, List.getElem?_cons_zero, List.getElem?_cons_succ, Option.some.injEq] at ho
              subst ho
              have hw := UE.start hE
              obtain ⟨⟨_, h78, rfl⟩, ⟨_, h79, rfl⟩, ⟨_, h77, rfl⟩, _, _⟩ := hW
              clear hB hN hE
              go_simp
              refine (HSaa.out _ (hw05.trans (hw.mono hw05.size))).mono ?_
              rintro e w' ⟨rfl, hbb⟩
              exact hK _ () _ hbb (fun _ _ h => h) rfl
            · intro o a γ wx ho hB hE hN hW K hK
              simp only [List.getElem?_toArray, List.getElem?_cons_zero, List.getElem?_cons_succ, Option.some.injEq] at ho
              subst ho
              have hw := UE.start hE
              obtain ⟨⟨_, h77, rfl⟩, _⟩ := hW
              have h3 : a.tmps[3]? = some (.pointer (some ⟨w.heap.size, 0, none⟩)) := (hB.at_ 3 (of_decide_eq_true (by kernel_rfl))).trans rfl
              have hc := HCE.out _ (hw05.trans (hw.mono hw05.size))
              clear hB hN hE
              go_simp
              exact hK (.agg #[.slice Aa ta.nodes.length ca, .int .i64 ta.root]) () _ (UE.refl _) (fun _ _ h => h) rfl
            · intro o a γ wx ho hB hE hN hW K hK
              simp only [List.getElem?_toArray, List.getElem?_cons_zero, List.getElem?_cons_succ, Option.some.injEq] at ho
              subst ho
              have hw := UE.start hE
              obtain ⟨⟨_, h81, rfl⟩, ⟨_, h80, rfl⟩, ⟨_, h77, rfl⟩, _⟩ := hW
              clear hB hN hE
              go_simp
              refine (HRa.out _ (hw05.trans (hw.mono hw05.size))).mono ?_
              rintro e w' ⟨rfl, hbb⟩
              exact hK _ () _ hbb (fun _ _ h => h) rfl
            · intro o a γ wx ho hB hE hN hW K hK
              simp only [List.getElem?_toArray, List.getElem?_cons_zero, List.getElem?_cons_succ, Option.some.injEq] at ho
              subst ho
              have hw := UE.start hE
              obtain ⟨⟨_, h80, rfl⟩, ⟨_, h82, rfl⟩, ⟨_, h77, rfl⟩, _⟩ := hW
              clear hB hN hE
              go_simp
              exact hK (.bool false) () _ (UE.refl _) (fun _ _ h => h) rfl
            · intro o a γ wx ho hB hE hN hW K hK
              simp only [List.getElem?_toArray, List.getElem?_cons_zero, List.getElem?_cons_succ, Option.some.injEq] at ho
              subst ho
              have hw := UE.start hE
              obtain ⟨⟨_, h77, rfl⟩, ⟨_, h83, rfl⟩, _⟩ := hW
              clear hB hN hE
              go_simp
              exact hK (.bool false) () _ (UE.refl _) (fun _ _ h => h) rfl
          intro a' γ wx hB hE hK
          obtain ⟨⟨_, h57, rfl⟩, ⟨_, h58, rfl⟩, ⟨_, h59, rfl⟩, ⟨_, h60, rfl⟩, ⟨_, h61, rfl⟩, ⟨_, h62, rfl⟩, ⟨_, h63, rfl⟩, ⟨_, h64, rfl⟩, ⟨_, h65, rfl⟩, ⟨_, h66, rfl⟩, ⟨_, h67, rfl⟩, ⟨_, h68, rfl⟩, ⟨_, h69, rfl⟩, ⟨_, h70, rfl⟩, ⟨_, h71, rfl⟩, ⟨_, h72, rfl⟩, ⟨_, h73, rfl⟩, ⟨_, h74, rfl⟩, ⟨_, h75, rfl⟩, ⟨_, h76, rfl⟩, ⟨_, h77, rfl⟩, ⟨_, h78, rfl⟩, ⟨_, h79, rfl⟩, ⟨_, h80, rfl⟩, ⟨_, h81, rfl⟩, ⟨_, h82, rfl⟩, ⟨_, h83, rfl⟩, ⟨_, h84, rfl⟩, _⟩ := hK
          have ha := hB.eq [(57, .bool false), (58, .agg #[.slice Aa ta.nodes.length ca, .int .i64 ta.root]), (59, .bool true), (60, .bool true), (61, .agg #[.slice Ab tb.nodes.length cb, .int .i64 tb.root]), (62, .bool false), (63, .bool false), (64, .bool false), (65, undef), (66, undef), (67, undef), (68, .bool false), (69, .bool false), (70, .bool false), (71, .agg #[.slice Ab tb.nodes.length cb, .int .i64 tb.root]), (72, .agg #[.slice Aa ta.nodes.length ca, .int .i64 ta.root]), (73, .bool false), (74, .bool false), (75, .bool false), (76, .bool false), (77, .bool false), (78, .agg #[.slice Aa ta.nodes.length ca, .int .i64 ta.root]), (79, .agg #[.slice Aa ta.nodes.length ca, .int .i64 ta.root]), (80, .bool true), (81, .agg #[.slice Aa ta.nodes.length ca, .int .i64 ta.root]), (82, .bool true), (83, .bool false), (84, .bool false)] rfl (by kernel_rfl) ⟨h57, h58, h59, h60, h61, h62, h63, h64, h65, h66, h67, h68, h69, h70, h71, h72, h73, h74, h75, h76, h77, h78, h79, h80, h81, h82, h83, h84, trivial⟩
          subst ha
          have hw := UE.start hE
          clear hB hE h57 h58 h59 h60 h61 h62 h63 h64 h65 h66 h67 h68 h69 h70 h71 h72 h73 h74 h75 h76 h77 h78 h79 h80 h81 h82 h83 h84
          simp only [putAll, List.foldl_cons, List.foldl_nil, List.setIfInBounds_toArray, List.set_cons_succ, List.set_cons_zero]
          /- >R7TF -/
          have HW9 := Lib.hid (HW3.out.trans ((hw05.trans (hw.mono hw05.size)).mono HW3.out.size))
          clear hw hw05
          go_wp2_with fail
          go_ret
          exact ⟨rfl, HW9.out⟩
      · obtain rfl : RA = false := by simpa using hra
        obtain rfl : SAB = false := by rw [HSAB.out]; exact decide_eq_false fun h => by have := HRA.out; simp at this; exact this h.1
        go_wp2_with fail
/- R4F< -/
        refine wp_region_inv (G := Unit) () UE UN
          [fun v _ => v = .agg #[.slice Aa ta.nodes.length ca, .int .i64 ta.root], fun v _ => v = .bool false, fun v _ => v = .agg #[.slice Ax nx cx, .int .i64 (cleanOf ta).root], fun v _ => v = .bool false, fun v _ => v = .bool false, fun v _ => v = .bool false, fun v _ => v = .agg #[.slice Ax nx cx, .int .i64 (cleanOf ta).root], fun v s => HasT s.2 v (cleanOf ta), fun v _ => v = .agg #[.slice Ax nx cx, .int .i64 (cleanOf ta).root], fun v _ => v = .bool true, fun v _ => v = .bool false, fun v _ => v = .bool false, fun v _ => v = .bool false, fun v _ => v = .agg #[.slice Aa ta.nodes.length ca, .int .i64 ta.root], fun v _ => v = .bool false, fun v _ => v = .bool false, fun v _ => v = undef, fun v _ => v = undef, fun v _ => v = undef, fun v _ => v = undef, fun v _ => v = .bool false, fun v _ => v = .bool false]
          (by kernel_rfl) UE.trans (UE.refl _) (by kernel_rfl) (by kernel_rfl) (fun _ => trivial) ?rstg2 ?rstepsg2 ?rfing2
        case rstg2 =>
          intro R hR v s s' _ h hr
          simp only [List.mem_cons, List.not_mem_nil, or_false] at hR
          rcases hR with rfl | rfl | rfl | rfl | rfl | rfl | rfl | rfl | rfl | rfl | rfl | rfl | rfl | rfl | rfl | rfl | rfl | rfl | rfl | rfl | rfl | rfl
          · exact hr
          · exact hr
          · exact hr
          · exact hr
          · exact hr
          · exact hr
          · exact hr
          · exact HasT.below hr h
          · exact hr
          · exact hr
          · exact hr
          · exact hr
          · exact hr
          · exact hr
          · exact hr
          · exact hr
          · exact hr
          · exact hr
          · exact hr
          · exact hr
          · exact hr
          · exact hr
        case rstepsg2 =>
          refine ⟨?_, ?_, ?_, ?_, ?_, ?_, ?_, ?_, ?_, ?_, ?_, ?_, ?_, ?_, ?_, ?_, ?_, ?_, ?_, ?_, ?_, ?_, trivial⟩
          · intro o a γ wx ho hB hE hN hW K hK
            simp only [List.getElem?_toArray, List.getElem?_cons_zero, List.getElem?_cons_succ, Option.some.injEq] at ho
            subst ho
            have hw := UE.start hE
            have h3 : a.tmps[3]? = some (.pointer (some ⟨w.heap.size, 0, none⟩)) := (hB.at_ 3 (of_decide_eq_true (by kernel_rfl))).trans rfl
            have hc := HCE.out _ hw
            clear hB hN hE
            go_simp
            exact hK (.agg #[.slice Aa ta.nodes.length ca, .int .i64 ta.root]) () _ (UE.refl _) (fun _ _ h => h) rfl
          · intro o a γ wx ho hB hE hN hW K hK
            simp only [List.getElem?_toArray, List.getElem?_cons_zero, List.getElem?_cons_succ, Option.some.injEq] at ho
            subst ho
            have hw := UE.start hE
            obtain ⟨⟨_, h26, rfl⟩, _⟩ := hW
            clear hB hN hE
            go_simp
            refine (HRa.out _ hw).mono ?_
            rintro e w' ⟨rfl, hbb⟩
            exact hK _ () _ hbb (fun _ _ h => h) rfl
          · intro o a γ wx ho hB hE hN hW K hK
            simp only [List.getElem?_toArray, List.getElem?_cons_zero, List.getElem?_cons_succ, Option.some.injEq] at ho
            subst ho
            have hw := UE.start hE
            have h7 : a.tmps[7]? = some (.pointer (some ⟨gx, 0, none⟩)) := (hB.at_ 7 (of_decide_eq_true (by kernel_rfl))).trans rfl
            have hc := HCE.out _ hw
            clear hB hN hE
            go_simp
            exact hK (.agg #[.slice Ax nx cx, .int .i64 (cleanOf ta).root]) () _ (UE.refl _) (fun _ _ h => h) rfl
          · intro o a γ wx ho hB hE hN hW K hK
            simp only [List.getElem?_toArray, List.getElem?_cons_zero, List.getElem?_cons_succ, Option.some.injEq] at ho
            subst ho
            have hw := UE.start hE
            obtain ⟨⟨_, h28, rfl⟩, ⟨_, h27, rfl⟩, _⟩ := hW
            clear hB hN hE
            go_simp
            refine (HRx.out _ hw).mono ?_
            rintro e w' ⟨rfl, hbb⟩
            exact hK _ () _ hbb (fun _ _ h => h) rfl
          · intro o a γ wx ho hB hE hN hW K hK
            simp only [List.getElem?_toArray, List.getElem?_cons_zero, List.getElem?_cons_succ, Option.some.injEq] at ho
            subst ho
            have hw := UE.start hE
            obtain ⟨⟨_, h27, rfl⟩, ⟨_, h29, rfl⟩, _⟩ := hW
            clear hB hN hE
            go_simp
            exact hK (.bool false) () _ (UE.refl _) (fun _ _ h => h) rfl
          · intro o a γ wx ho hB hE hN hW K hK
            simp only [List.getElem?_toArray, List.getElem?_cons_zero, List.getElem?_cons_succ, Option.some.injEq] at ho
            subst ho
            have hw := UE.start hE
            obtain ⟨⟨_, h30, rfl⟩, ⟨_, h29, rfl⟩, _⟩ := hW
            clear hB hN hE
            go_simp
            exact hK (.bool false) () _ (UE.refl _) (fun _ _ h => h) rfl
          · intro o a γ wx ho hB hE hN hW K hK
            simp only [List.getElem?_toArray, List.getElem?_cons_zero, List.getElem?_cons_succ, Option.some.injEq] at ho
            subst ho
            have hw := UE.start hE
            obtain ⟨⟨_, h31, rfl⟩, _⟩ := hW
            have h7 : a.tmps[7]? = some (.pointer (some ⟨gx, 0, none⟩)) := (hB.at_ 7 (of_decide_eq_true (by kernel_rfl))).trans rfl
            have hc := HCE.out _ hw
            clear hB hN hE
            go_simp
            exact hK (.agg #[.slice Ax nx cx, .int .i64 (cleanOf ta).root]) () _ (UE.refl _) (fun _ _ h => h) rfl
          · intro o a γ wx ho hB hE hN hW K hK
            simp only [List.getElem?_toArray, List.getElem?_cons_zero, List.getElem?_cons_succ, Option.some.injEq] at ho
            subst ho
            have hw := UE.start hE
            obtain ⟨⟨_, h32, rfl⟩, ⟨_, h31, rfl⟩, _, _⟩ := hW
            clear hB hN hE
            go_simp
            refine (HCx.out _ hw).mono ?_
            rintro e w' ⟨u, rfl, hu, hbb⟩
            exact hK _ () _ hbb (fun _ _ h => h) hu
          · intro o a γ wx ho hB hE hN hW K hK
            simp only [List.getElem?_toArray, List.getElem?_cons_zero, List.getElem?_cons_succ, Option.some.injEq] at ho
            subst ho
            have hw := UE.start hE
            obtain ⟨⟨_, h31, rfl⟩, _⟩ := hW
            have h7 : a.tmps[7]? = some (.pointer (some ⟨gx, 0, none⟩)) := (hB.at_ 7 (of_decide_eq_true (by kernel_rfl))).trans rfl
            have hc := HCE.out _ hw
            clear hB hN hE
            go_simp
            exact hK (.agg #[.slice Ax nx cx, .int .i64 (cleanOf ta).root]) () _ (UE.refl _) (fun _ _ h => h) rfl
          · intro o a γ wx ho hB hE hN hW K hK
            simp only [List.getElem?_toArray, List.getElem?_cons_zero, List.getElem?_cons_succ, Option.some.injEq] at ho
            subst ho
            have hw := UE.start hE
            obtain ⟨⟨v33, h33, r33⟩, ⟨_, h34, rfl⟩, _, ⟨_, h31, rfl⟩, _⟩ := hW
            clear hB hN hE
            go_simp
            refine (HEx.out _ hw _ r33).mono ?_
            rintro e w' ⟨rfl, hbb⟩
            exact hK _ () _ hbb (fun _ _ h => h) rfl
          · intro o a γ wx ho hB hE hN hW K hK
            simp only [List.getElem?_toArray, List.getElem?_cons_zero, List.getElem?_cons_succ, Option.some.injEq] at ho
            subst ho
            have hw := UE.start hE
            obtain ⟨⟨_, h35, rfl⟩, ⟨_, h31, rfl⟩, _⟩ := hW
            clear hB hN hE
            go_simp
            exact hK (.bool false) () _ (UE.refl _) (fun _ _ h => h) rfl
          · intro o a γ wx ho hB hE hN hW K hK
            simp only [List.getElem?_toArray, List.getElem?_cons_zero, List.getElem?_cons_succ, Option.some.injEq] at ho
            subst ho
            have hw := UE.start hE
            obtain ⟨⟨_, h31, rfl⟩, ⟨_, h36, rfl⟩, _⟩ := hW
            clear hB hN hE
            go_simp
            exact hK (.bool false) () _ (UE.refl _) (fun _ _ h => h) rfl
          · intro o a γ wx ho hB hE hN hW K hK
            simp only [List.getElem?_toArray, List.getElem?_cons_zero, List.getElem?_cons_succ, Option.some.injEq] at ho
            subst ho
            have hw := UE.start hE
            obtain ⟨⟨_, h37, rfl⟩, ⟨_, h35, rfl⟩, _⟩ := hW
            clear hB hN hE
            go_simp
            exact hK (.bool false) () _ (UE.refl _) (fun _ _ h => h) rfl
          · intro o a γ wx ho hB hE hN hW K hK
            simp only [List.getElem?_toArray, List.getElem?_cons_zero, List.getElem?_cons_succ, Option.some.injEq] at ho
            subst ho
            have hw := UE.start hE
            obtain ⟨⟨_, h38, rfl⟩, _⟩ := hW
            have h3 : a.tmps[3]? = some (.pointer (some ⟨w.heap.size, 0, none⟩)) := (hB.at_ 3 (of_decide_eq_true (by kernel_rfl))).trans rfl
            have hc := HCE.out _ hw
            clear hB hN hE
            go_simp
            exact hK (.agg #[.slice Aa ta.nodes.length ca, .int .i64 ta.root]) () _ (UE.refl _) (fun _ _ h => h) rfl
          · intro o a γ wx ho hB hE hN hW K hK
            simp only [List.getElem?_toArray, List.getElem?_cons_zero, List.getElem?_cons_succ, Option.some.injEq] at ho
            subst ho
            have hw := UE.start hE
            obtain ⟨⟨_, h39, rfl⟩, ⟨_, h38, rfl⟩, _, _⟩ := hW
            clear hB hN hE
            go_simp
            refine (HRa.out _ hw).mono ?_
            rintro e w' ⟨rfl, hbb⟩
            exact hK _ () _ hbb (fun _ _ h => h) rfl
          · intro o a γ wx ho hB hE hN hW K hK
            simp only [List.getElem?_toArray, List.getElem?_cons_zero, List.getElem?_cons_succ, Option.some.injEq] at ho
            subst ho
            have hw := UE.start hE
            obtain ⟨⟨_, h40, rfl⟩, _, ⟨_, h38, rfl⟩, _⟩ := hW
            clear hB hN hE
            go_simp
            exact hK (.bool false) () _ (UE.refl _) (fun _ _ h => h) rfl
          · intro o a γ wx ho hB hE hN hW K hK
            simp only [List.getElem?_toArray, List.getElem?_cons_zero, List.getElem?_cons_succ, Option.some.injEq] at ho
            subst ho
            have hw := UE.start hE
            obtain ⟨⟨_, h41, rfl⟩, _⟩ := hW
            have h3 : a.tmps[3]? = some (.pointer (some ⟨w.heap.size, 0, none⟩)) := (hB.at_ 3 (of_decide_eq_true (by kernel_rfl))).trans rfl
            have hc := HCE.out _ hw
            clear hB hN hE
            go_simp
            exact hK (undef) () _ (UE.refl _) (fun _ _ h => h) rfl
          · intro o a γ wx ho hB hE hN hW K hK
            simp only [List.getElem?_toArray, List.getElem?_cons_zero, List.getElem?_cons_succ, Option.some.injEq] at ho
            subst ho
            have hw := UE.start hE
            obtain ⟨⟨_, h41, rfl⟩, _⟩ := hW
            have h7 : a.tmps[7]? = some (.pointer (some ⟨gx, 0, none⟩)) := (hB.at_ 7 (of_decide_eq_true (by kernel_rfl))).trans rfl
            have hc := HCE.out _ hw
            clear hB hN hE
            go_simp
            exact hK (undef) () _ (UE.refl _) (fun _ _ h => h) rfl
          · intro o a γ wx ho hB hE hN hW K hK
            simp only [List.getElem?_toArray, List.getElem?_cons_zero, List.getElem?_cons_succ, Option.some.injEq] at ho
            subst ho
            have hw := UE.start hE
            obtain ⟨⟨_, h42, rfl⟩, ⟨_, h43, rfl⟩, ⟨_, h41, rfl⟩, _, _⟩ := hW
            clear hB hN hE
            go_simp
            exact hK (undef) () _ (UE.refl _) (fun _ _ h => h) rfl
          · intro o a γ wx ho hB hE hN hW K hK
            simp only [List.getElem?_toArray, List.getElem?_cons_zero, List.getElem?_cons_succ, Option.some.injEq] at ho
            subst ho
            have hw := UE.start hE
            obtain ⟨⟨_, h44, rfl⟩, ⟨_, h41, rfl⟩, _⟩ := hW
            clear hB hN hE
            go_simp
            exact hK (undef) () _ (UE.refl _) (fun _ _ h => h) rfl
          · intro o a γ wx ho hB hE hN hW K hK
            simp only [List.getElem?_toArray, List.getElem?_cons_zero, List.getElem?_cons_succ, Option.some.injEq] at ho
            subst ho
            have hw := UE.start hE
            obtain ⟨⟨_, h41, rfl⟩, ⟨_, h45, rfl⟩, ⟨_, h38, rfl⟩, _⟩ := hW
            clear hB hN hE
            go_simp
            exact hK (.bool false) () _ (UE.refl _) (fun _ _ h => h) rfl
          · intro o a γ wx ho hB hE hN hW K hK
            simp only [List.getElem?_toArray, List.getElem?_cons_zero, List.getElem?_cons_succ, Option.some.injEq] at ho
            subst ho
            have hw := UE.start hE
            obtain ⟨⟨_, h38, rfl⟩, ⟨_, h46, rfl⟩, _⟩ := hW
            clear hB hN hE
            go_simp
            exact hK (.bool false) () _ (UE.refl _) (fun _ _ h => h) rfl
        intro a' γ wx hB hE hK
        obtain ⟨⟨_, h26, rfl⟩, ⟨_, h27, rfl⟩, ⟨_, h28, rfl⟩, ⟨_, h29, rfl⟩, ⟨_, h30, rfl⟩, ⟨_, h31, rfl⟩, ⟨_, h32, rfl⟩, ⟨v33, h33, r33⟩, ⟨_, h34, rfl⟩, ⟨_, h35, rfl⟩, ⟨_, h36, rfl⟩, ⟨_, h37, rfl⟩, ⟨_, h38, rfl⟩, ⟨_, h39, rfl⟩, ⟨_, h40, rfl⟩, ⟨_, h41, rfl⟩, ⟨_, h42, rfl⟩, ⟨_, h43, rfl⟩, ⟨_, h44, rfl⟩, ⟨_, h45, rfl⟩, ⟨_, h46, rfl⟩, ⟨_, h47, rfl⟩, _⟩ := hK
        have ha := hB.eq [(26, .agg #[.slice Aa ta.nodes.length ca, .int .i64 ta.root]), (27, .bool false), (28, .agg #[.slice Ax nx cx, .int .i64 (cleanOf ta).root]), (29, .bool false), (30, .bool false), (31, .bool false), (32, .agg #[.slice Ax nx cx, .int .i64 (cleanOf ta).root]), (33, v33), (34, .agg #[.slice Ax nx cx, .int .i64 (cleanOf ta).root]), (35, .bool true), (36, .bool false), (37, .bool false), (38, .bool false), (39, .agg #[.slice Aa ta.nodes.length ca, .int .i64 ta.root]), (40, .bool false), (41, .bool false), (42, undef), (43, undef), (44, undef), (45, undef), (46, .bool false), (47, .bool false)] rfl (by kernel_rfl) ⟨h26, h27, h28, h29, h30, h31, h32, h33, h34, h35, h36, h37, h38, h39, h40, h41, h42, h43, h44, h45, h46, h47, trivial⟩
        subst ha
        have hw := UE.start hE
        clear hB hE h26 h27 h28 h29 h30 h31 h32 h33 h34 h35 h36 h37 h38 h39 h40 h41 h42 h43 h44 h45 h46 h47
        simp only [putAll, List.foldl_cons, List.foldl_nil, List.setIfInBounds_toArray, List.set_cons_succ, List.set_cons_zero]
        /- >R4F -/
        go_wp2_with fail
        obtain ⟨w4, hw4⟩ : ∃ w4, w4 = wx := ⟨_, rfl⟩
        subst hw4
        have hw04 := hw
        clear hw
/- R6F< -/
        refine wp_region_inv (G := Unit) () UE UN
          [fun v _ => v = .agg #[.slice Aa ta.nodes.length ca, .int .i64 ta.root], fun v _ => v = .agg #[.slice Ab tb.nodes.length cb, .int .i64 tb.root], fun v _ => v = .bool false, fun v _ => v = .agg #[.slice Ab tb.nodes.length cb, .int .i64 tb.root], fun v _ => v = .agg #[.slice Ac tc.nodes.length cc, .int .i64 tc.root], fun v _ => v = .bool SBC, fun v _ => v = .agg #[.slice Aa ta.nodes.length ca, .int .i64 ta.root], fun v _ => v = .agg #[.slice Ac tc.nodes.length cc, .int .i64 tc.root], fun v _ => v = .bool SAC, fun v _ => v = .bool false, fun v _ => v = .bool SBC, fun v _ => v = .bool SAC]
          (by kernel_rfl) UE.trans (UE.refl _) (by kernel_rfl) (by kernel_rfl) (fun _ => trivial) ?rstg5 ?rstepsg5 ?rfing5
        case rstg5 =>
          intro R hR v s s' _ h hr
          simp only [List.mem_cons, List.not_mem_nil, or_false] at hR
          rcases hR with rfl | rfl | rfl | rfl | rfl | rfl | rfl | rfl | rfl | rfl | rfl | rfl
          · exact hr
          · exact hr
          · exact hr
          · exact hr
          · exact hr
          · exact hr
          · exact hr
          · exact hr
          · exact hr
          · exact hr
          · exact hr
          · exact hr
        case rstepsg5 =>
          refine ⟨?_, ?_, ?_, ?_, ?_, ?_, ?_, ?_, ?_, ?_, ?_, ?_, trivial⟩
          · intro o a γ wx ho hB hE hN hW K hK
            simp only [List.getElem?_toArray, List.getElem?_cons_zero, List.getElem?_cons_succ, Option.some.injEq] at ho
            subst ho
            have hw := UE.start hE
            have h3 : a.tmps[3]? = some (.pointer (some ⟨w.heap.size, 0, none⟩)) := (hB.at_ 3 (of_decide_eq_true (by kernel_rfl))).trans rfl
            have hc := HCE.out _ (hw04.trans (hw.mono hw04.size))
            clear hB hN hE
            go_simp
            exact hK (.agg #[.slice Aa ta.nodes.length ca, .int .i64 ta.root]) () _ (UE.refl _) (fun _ _ h => h) rfl
          · intro o a γ wx ho hB hE hN hW K hK
            simp only [List.getElem?_toArray, List.getElem?_cons_zero, List.getElem?_cons_succ, Option.some.injEq] at ho
            subst ho
            have hw := UE.start hE
            have h4 : a.tmps[4]? = some (.pointer (some ⟨w.heap.size + 1, 0, none⟩)) := (hB.at_ 4 (of_decide_eq_true (by kernel_rfl))).trans rfl
            have hc := HCE.out _ (hw04.trans (hw.mono hw04.size))
            clear hB hN hE
            go_simp
            exact hK (.agg #[.slice Ab tb.nodes.length cb, .int .i64 tb.root]) () _ (UE.refl _) (fun _ _ h => h) rfl
          · intro o a γ wx ho hB hE hN hW K hK
            simp only [List.getElem?_toArray, List.getElem?_cons_zero, List.getElem?_cons_succ, Option.some.injEq] at ho
            subst ho
            have hw := UE.start hE
            obtain ⟨⟨_, h48, rfl⟩, ⟨_, h49, rfl⟩, _⟩ := hW
            clear hB hN hE
            go_simp
            refine (HSab.out _ (hw04.trans (hw.mono hw04.size))).mono ?_
            rintro e w' ⟨rfl, hbb⟩
            exact hK _ () _ hbb (fun _ _ h => h) rfl
          · intro o a γ wx ho hB hE hN hW K hK
            simp only [List.getElem?_toArray, List.getElem?_cons_zero, List.getElem?_cons_succ, Option.some.injEq] at ho
            subst ho
            have hw := UE.start hE
            have h4 : a.tmps[4]? = some (.pointer (some ⟨w.heap.size + 1, 0, none⟩)) := (hB.at_ 4 (of_decide_eq_true (by kernel_rfl))).trans rfl
            have hc := HCE.out _ (hw04.trans (hw.mono hw04.size))
            clear hB hN hE
            go_simp
            exact hK (.agg #[.slice Ab tb.nodes.length cb, .int .i64 tb.root]) () _ (UE.refl _) (fun _ _ h => h) rfl
          · intro o a γ wx ho hB hE hN hW K hK
            simp only [List.getElem?_toArray, List.getElem?_cons_zero, List.getElem?_cons_succ, Option.some.injEq] at ho
            subst ho
            have hw := UE.start hE
            have h5 : a.tmps[5]? = some (.pointer (some ⟨w.heap.size + 1 + 1, 0, none⟩)) := (hB.at_ 5 (of_decide_eq_true (by kernel_rfl))).trans rfl
            have hc := HCE.out _ (hw04.trans (hw.mono hw04.size))
            clear hB hN hE
            go_simp
            exact hK (.agg #[.slice Ac tc.nodes.length cc, .int .i64 tc.root]) () _ (UE.refl _) (fun _ _ h => h) rfl
          · intro o a γ wx ho hB hE hN hW K hK
            simp only [List.getElem?_toArray, List.getElem?_cons_zero, List.getElem?_cons_succ, Option.some.injEq] at ho
            subst ho
            have hw := UE.start hE
            obtain ⟨⟨_, h51, rfl⟩, ⟨_, h52, rfl⟩, ⟨_, h50, rfl⟩, _⟩ := hW
            clear hB hN hE
            go_simp
            refine (HSbc.out _ (hw04.trans (hw.mono hw04.size))).mono ?_
            rintro e w' ⟨rfl, hbb⟩
            exact hK _ () _ hbb (fun _ _ h => h) rfl
          · intro o a γ wx ho hB hE hN hW K hK
            simp only [List.getElem?_toArray, List.getElem?_cons_zero, List.getElem?_cons_succ, Option.some.injEq] at ho
            subst ho
            have hw := UE.start hE
            have h3 : a.tmps[3]? = some (.pointer (some ⟨w.heap.size, 0, none⟩)) := (hB.at_ 3 (of_decide_eq_true (by kernel_rfl))).trans rfl
            have hc := HCE.out _ (hw04.trans (hw.mono hw04.size))
            clear hB hN hE
            go_simp
            exact hK (.agg #[.slice Aa ta.nodes.length ca, .int .i64 ta.root]) () _ (UE.refl _) (fun _ _ h => h) rfl
          · intro o a γ wx ho hB hE hN hW K hK
            simp only [List.getElem?_toArray, List.getElem?_cons_zero, List.getElem?_cons_succ, Option.some.injEq] at ho
            subst ho
            have hw := UE.start hE
            have h5 : a.tmps[5]? = some (.pointer (some ⟨w.heap.size + 1 + 1, 0, none⟩)) := (hB.at_ 5 (of_decide_eq_true (by kernel_rfl))).trans rfl
            have hc := HCE.out _ (hw04.trans (hw.mono hw04.size))
            clear hB hN hE
            go_simp
            exact hK (.agg #[.slice Ac tc.nodes.length cc, .int .i64 tc.root]) () _ (UE.refl _) (fun _ _ h => h) rfl
          · intro o a γ wx ho hB hE hN hW K hK
            simp only [List.getElem?_toArray, List.getElem?_cons_zero, List.getElem?_cons_succ, Option.some.injEq] at ho
            subst ho
            have hw := UE.start hE
            obtain ⟨⟨_, h54, rfl⟩, ⟨_, h55, rfl⟩, ⟨_, h53, rfl⟩, _⟩ := hW
            clear hB hN hE
            go_simp
            refine (HSac.out _ (hw04.trans (hw.mono hw04.size))).mono ?_
            rintro e w' ⟨rfl, hbb⟩
            exact hK _ () _ hbb (fun _ _ h => h) rfl
          · intro o a γ wx ho hB hE hN hW K hK
            simp only [List.getElem?_toArray, List.getElem?_cons_zero, List.getElem?_cons_succ, Option.some.injEq] at ho
            subst ho
            have hw := UE.start hE
            obtain ⟨⟨_, h50, rfl⟩, ⟨_, h56, rfl⟩, ⟨_, h48, rfl⟩, ⟨_, h49, rfl⟩, _, _⟩ := hW
            clear hB hN hE
            go_simp
            exact hK (.bool false) () _ (UE.refl _) (fun _ _ h => h) rfl
          · intro o a γ wx ho hB hE hN hW K hK
            simp only [List.getElem?_toArray, List.getElem?_cons_zero, List.getElem?_cons_succ, Option.some.injEq] at ho
            subst ho
            have hw := UE.start hE
            obtain ⟨⟨_, h53, rfl⟩, ⟨_, h9, rfl⟩, ⟨_, h48, rfl⟩, ⟨_, h49, rfl⟩, ⟨_, h50, rfl⟩, ⟨_, h51, rfl⟩, ⟨_, h52, rfl⟩, _, _, _⟩ := hW
            clear hB hN hE
            go_simp
            exact hK (.bool SBC) () _ (UE.refl _) (fun _ _ h => h) rfl
          · intro o a γ wx ho hB hE hN hW K hK
            simp only [List.getElem?_toArray, List.getElem?_cons_zero, List.getElem?_cons_succ, Option.some.injEq] at ho
            subst ho
            have hw := UE.start hE
            obtain ⟨⟨_, h56, rfl⟩, ⟨_, h10, rfl⟩, ⟨_, h48, rfl⟩, ⟨_, h49, rfl⟩, ⟨_, h50, rfl⟩, ⟨_, h51, rfl⟩, ⟨_, h52, rfl⟩, ⟨_, h53, rfl⟩, ⟨_, h54, rfl⟩, ⟨_, h55, rfl⟩, _, ⟨_, h9, rfl⟩, _, _⟩ := hW
            clear hB hN hE
            go_simp
            exact hK (.bool SAC) () _ (UE.refl _) (fun _ _ h => h) rfl
        intro a' γ wx hB hE hK
        obtain ⟨⟨_, h48, rfl⟩, ⟨_, h49, rfl⟩, ⟨_, h50, rfl⟩, ⟨_, h51, rfl⟩, ⟨_, h52, rfl⟩, ⟨_, h53, rfl⟩, ⟨_, h54, rfl⟩, ⟨_, h55, rfl⟩, ⟨_, h56, rfl⟩, ⟨_, h9, rfl⟩, ⟨_, h10, rfl⟩, ⟨_, h11, rfl⟩, _⟩ := hK
        have ha := hB.eq [(48, .agg #[.slice Aa ta.nodes.length ca, .int .i64 ta.root]), (49, .agg #[.slice Ab tb.nodes.length cb, .int .i64 tb.root]), (50, .bool false), (51, .agg #[.slice Ab tb.nodes.length cb, .int .i64 tb.root]), (52, .agg #[.slice Ac tc.nodes.length cc, .int .i64 tc.root]), (53, .bool SBC), (54, .agg #[.slice Aa ta.nodes.length ca, .int .i64 ta.root]), (55, .agg #[.slice Ac tc.nodes.length cc, .int .i64 tc.root]), (56, .bool SAC), (9, .bool false), (10, .bool SBC), (11, .bool SAC)] rfl (by kernel_rfl) ⟨h48, h49, h50, h51, h52, h53, h54, h55, h56, h9, h10, h11, trivial⟩
        subst ha
        have hw := UE.start hE
        clear hB hE h48 h49 h50 h51 h52 h53 h54 h55 h56 h9 h10 h11
        simp only [putAll, List.foldl_cons, List.foldl_nil, List.setIfInBounds_toArray, List.set_cons_succ, List.set_cons_zero]
        /- >R6F -/
        go_wp2_with fail
        obtain ⟨w5, hw5⟩ : ∃ w5, w5 = wx := ⟨_, rfl⟩
        subst hw5
        have hw05 := hw04.trans (hw.mono hw04.size)
        clear hw hw04
/- R7F< -/
        refine wp_region_inv (G := Unit) () UE UN
          [fun v _ => v = .bool false, fun v _ => v = .agg #[.slice Aa ta.nodes.length ca, .int .i64 ta.root], fun v _ => v = .bool false, fun v _ => v = .bool false, fun v _ => v = undef, fun v _ => v = undef, fun v _ => v = .bool false, fun v _ => v = .bool false, fun v _ => v = undef, fun v _ => v = undef, fun v _ => v = undef, fun v _ => v = .bool false, fun v _ => v = .bool false, fun v _ => v = .bool false, fun v _ => v = .agg #[.slice Ab tb.nodes.length cb, .int .i64 tb.root], fun v _ => v = .agg #[.slice Aa ta.nodes.length ca, .int .i64 ta.root], fun v _ => v = .bool false, fun v _ => v = .bool false, fun v _ => v = .bool false, fun v _ => v = .bool false, fun v _ => v = .bool false, fun v _ => v = .agg #[.slice Aa ta.nodes.length ca, .int .i64 ta.root], fun v _ => v = .agg #[.slice Aa ta.nodes.length ca, .int .i64 ta.root], fun v _ => v = .bool false, fun v _ => v = .agg #[.slice Aa ta.nodes.length ca, .int .i64 ta.root], fun v _ => v = .bool false, fun v _ => v = .bool false, fun v _ => v = .bool false]
          (by kernel_rfl) UE.trans (UE.refl _) (by kernel_rfl) (by kernel_rfl) (fun _ => trivial) ?rstg8 ?rstepsg8 ?rfing8
        case rstg8 =>
          intro R hR v s s' _ h hr
          simp only [List.mem_cons, List.not_mem_nil, or_false] at hR
          rcases hR with rfl | rfl | rfl | rfl | rfl | rfl | rfl | rfl | rfl | rfl | rfl | rfl | rfl | rfl | rfl | rfl | rfl | rfl | rfl | rfl | rfl | rfl | rfl | rfl | rfl | rfl | rfl | rfl
          · exact hr
          · exact hr
          · exact hr
          · exact hr
          · exact hr
          · exact hr
          · exact hr
          · exact hr
          · exact hr
          · exact hr
          · exact hr
          · exact hr
          · exact hr
          · exact hr
          · exact hr
          · exact hr
          · exact hr
          · exact hr
          · exact hr
          · exact hr
          · exact hr
          · exact hr
          · exact hr
          · exact hr
          · exact hr
          · exact hr
          · exact hr
          · exact hr
        case rstepsg8 =>
          refine ⟨?_, ?_, ?_, ?_, ?_, ?_, ?_, ?_, ?_, ?_, ?_, ?_, ?_, ?_, ?_, ?_, ?_, ?_, ?_, ?_, ?_, ?_, ?_, ?_, ?_, ?_, ?_, ?_, trivial⟩
          · intro o a γ wx ho hB hE hN hW K hK
            simp only [List.getElem?_toArray, List.getElem?_cons_zero, List.getElem?_cons_succ, Option.some.injEq] at ho
            subst ho
            have hw := UE.start hE
            have h9 : a.tmps[9]? = some (.bool false) := (hB.at_ 9 (of_decide_eq_true (by kernel_rfl))).trans rfl
            clear hB hN hE
            go_simp
            exact hK (.bool false) () _ (UE.refl _) (fun _ _ h => h) rfl
          · intro o a γ wx ho hB hE hN hW K hK
            simp only [List.getElem?_toArray, List.getElem?_cons_zero, List.getElem?_cons_succ, Option.some.injEq] at ho
            subst ho
            have hw := UE.start hE
            have h3 : a.tmps[3]? = some (.pointer (some ⟨w.heap.size, 0, none⟩)) := (hB.at_ 3 (of_decide_eq_true (by kernel_rfl))).trans rfl
            have hc := HCE.out _ (hw05.trans (hw.mono hw05.size))
            clear hB hN hE
            go_simp
            exact hK (.agg #[.slice Aa ta.nodes.length ca, .int .i64 ta.root]) () _ (UE.refl _) (fun _ _ h => h) rfl
          · intro o a γ wx ho hB hE hN hW K hK
            simp only [List.getElem?_toArray, List.getElem?_cons_zero, List.getElem?_cons_succ, Option.some.injEq] at ho
            subst ho
            have hw := UE.start hE
            obtain ⟨⟨_, h58, rfl⟩, _⟩ := hW
            clear hB hN hE
            go_simp
            refine (HRa.out _ (hw05.trans (hw.mono hw05.size))).mono ?_
            rintro e w' ⟨rfl, hbb⟩
            exact hK _ () _ hbb (fun _ _ h => h) rfl
          · intro o a γ wx ho hB hE hN hW K hK
            simp only [List.getElem?_toArray, List.getElem?_cons_zero, List.getElem?_cons_succ, Option.some.injEq] at ho
            subst ho
            have hw := UE.start hE
            obtain ⟨⟨_, h59, rfl⟩, _, _⟩ := hW
            clear hB hN hE
            go_simp
            exact hK (.bool false) () _ (UE.refl _) (fun _ _ h => h) rfl
          · intro o a γ wx ho hB hE hN hW K hK
            simp only [List.getElem?_toArray, List.getElem?_cons_zero, List.getElem?_cons_succ, Option.some.injEq] at ho
            subst ho
            have hw := UE.start hE
            obtain ⟨⟨_, h60, rfl⟩, _⟩ := hW
            have h4 : a.tmps[4]? = some (.pointer (some ⟨w.heap.size + 1, 0, none⟩)) := (hB.at_ 4 (of_decide_eq_true (by kernel_rfl))).trans rfl
            have hc := HCE.out _ (hw05.trans (hw.mono hw05.size))
            clear hB hN hE
            go_simp
            exact hK (undef) () _ (UE.refl _) (fun _ _ h => h) rfl
          · intro o a γ wx ho hB hE hN hW K hK
            simp only [List.getElem?_toArray, List.getElem?_cons_zero, List.getElem?_cons_succ, Option.some.injEq] at ho
            subst ho
            have hw := UE.start hE
            obtain ⟨⟨_, h61, rfl⟩, ⟨_, h60, rfl⟩, _, _⟩ := hW
            clear hB hN hE
            go_simp
            exact hK (undef) () _ (UE.refl _) (fun _ _ h => h) rfl
          · intro o a γ wx ho hB hE hN hW K hK
            simp only [List.getElem?_toArray, List.getElem?_cons_zero, List.getElem?_cons_succ, Option.some.injEq] at ho
            subst ho
            have hw := UE.start hE
            obtain ⟨⟨_, h60, rfl⟩, ⟨_, h62, rfl⟩, _⟩ := hW
            clear hB hN hE
            go_simp
            exact hK (.bool false) () _ (UE.refl _) (fun _ _ h => h) rfl
          · intro o a γ wx ho hB hE hN hW K hK
            simp only [List.getElem?_toArray, List.getElem?_cons_zero, List.getElem?_cons_succ, Option.some.injEq] at ho
            subst ho
            have hw := UE.start hE
            obtain ⟨⟨_, h63, rfl⟩, ⟨_, h62, rfl⟩, _⟩ := hW
            clear hB hN hE
            go_simp
            exact hK (.bool false) () _ (UE.refl _) (fun _ _ h => h) rfl
          · intro o a γ wx ho hB hE hN hW K hK
            simp only [List.getElem?_toArray, List.getElem?_cons_zero, List.getElem?_cons_succ, Option.some.injEq] at ho
            subst ho
            have hw := UE.start hE
            obtain ⟨⟨_, h64, rfl⟩, _⟩ := hW
            have h7 : a.tmps[7]? = some (.pointer (some ⟨gx, 0, none⟩)) := (hB.at_ 7 (of_decide_eq_true (by kernel_rfl))).trans rfl
            have hc := HCE.out _ (hw05.trans (hw.mono hw05.size))
            clear hB hN hE
            go_simp
            exact hK (undef) () _ (UE.refl _) (fun _ _ h => h) rfl
          · intro o a γ wx ho hB hE hN hW K hK
            simp only [List.getElem?_toArray, List.getElem?_cons_zero, List.getElem?_cons_succ, Option.some.injEq] at ho
            subst ho
            have hw := UE.start hE
            obtain ⟨⟨_, h64, rfl⟩, _⟩ := hW
            have h8 : a.tmps[8]? = some (.pointer (some ⟨gy, 0, none⟩)) := (hB.at_ 8 (of_decide_eq_true (by kernel_rfl))).trans rfl
            have hc := HCE.out _ (hw05.trans (hw.mono hw05.size))
            clear hB hN hE
            go_simp
            exact hK (undef) () _ (UE.refl _) (fun _ _ h => h) rfl
          · intro o a γ wx ho hB hE hN hW K hK
            simp only [List.getElem?_toArray, List.getElem?_cons_zero, List.getElem?_cons_succ, Option.some.injEq] at ho
            subst ho
            have hw := UE.start hE
            obtain ⟨⟨_, h65, rfl⟩, ⟨_, h66, rfl⟩, ⟨_, h64, rfl⟩, _, _⟩ := hW
            clear hB hN hE
            go_simp
            exact hK (undef) () _ (UE.refl _) (fun _ _ h => h) rfl
          · intro o a γ wx ho hB hE hN hW K hK
            simp only [List.getElem?_toArray, List.getElem?_cons_zero, List.getElem?_cons_succ, Option.some.injEq] at ho
            subst ho
            have hw := UE.start hE
            obtain ⟨⟨_, h64, rfl⟩, ⟨_, h67, rfl⟩, _⟩ := hW
            clear hB hN hE
            go_simp
            exact hK (.bool false) () _ (UE.refl _) (fun _ _ h => h) rfl
          · intro o a γ wx ho hB hE hN hW K hK
            simp only [List.getElem?_toArray, List.getElem?_cons_zero, List.getElem?_cons_succ, Option.some.injEq] at ho
            subst ho
            have hw := UE.start hE
            obtain ⟨⟨_, h57, rfl⟩, ⟨_, h68, rfl⟩, _⟩ := hW
            clear hB hN hE
            go_simp
            exact hK (.bool false) () _ (UE.refl _) (fun _ _ h => h) rfl
          · intro o a γ wx ho hB hE hN hW K hK
            simp only [List.getElem?_toArray, List.getElem?_cons_zero, List.getElem?_cons_succ, Option.some.injEq] at ho
            subst ho
            have hw := UE.start hE
            obtain ⟨⟨_, h69, rfl⟩, ⟨_, h67, rfl⟩, _⟩ := hW
            clear hB hN hE
            go_simp
            exact hK (.bool false) () _ (UE.refl _) (fun _ _ h => h) rfl
          · intro o a γ wx ho hB hE hN hW K hK
            simp only [List.getElem?_toArray, List.getElem?_cons_zero, List.getElem?_cons_succ, Option.some.injEq] at ho
            subst ho
            have hw := UE.start hE
            obtain ⟨⟨_, h70, rfl⟩, _⟩ := hW
            have h4 : a.tmps[4]? = some (.pointer (some ⟨w.heap.size + 1, 0, none⟩)) := (hB.at_ 4 (of_decide_eq_true (by kernel_rfl))).trans rfl
            have hc := HCE.out _ (hw05.trans (hw.mono hw05.size))
            clear hB hN hE
            go_simp
            exact hK (.agg #[.slice Ab tb.nodes.length cb, .int .i64 tb.root]) () _ (UE.refl _) (fun _ _ h => h) rfl
          · intro o a γ wx ho hB hE hN hW K hK
            simp only [List.getElem?_toArray, List.getElem?_cons_zero, List.getElem?_cons_succ, Option.some.injEq] at ho
            subst ho
            have hw := UE.start hE
            obtain ⟨⟨_, h70, rfl⟩, _⟩ := hW
            have h3 : a.tmps[3]? = some (.pointer (some ⟨w.heap.size, 0, none⟩)) := (hB.at_ 3 (of_decide_eq_true (by kernel_rfl))).trans rfl
            have hc := HCE.out _ (hw05.trans (hw.mono hw05.size))
            clear hB hN hE
            go_simp
            exact hK (.agg #[.slice Aa ta.nodes.length ca, .int .i64 ta.root]) () _ (UE.refl _) (fun _ _ h => h) rfl
          · intro o a γ wx ho hB hE hN hW K hK
            simp only [List.getElem?_toArray, List.getElem?_cons_zero, List.getElem?_cons_succ, Option.some.injEq] at ho
            subst ho
            have hw := UE.start hE
            obtain ⟨⟨_, h71, rfl⟩, ⟨_, h72, rfl⟩, ⟨_, h70, rfl⟩, _, _⟩ := hW
            clear hB hN hE
            go_simp
            refine (HSba.out _ (hw05.trans (hw.mono hw05.size))).mono ?_
            rintro e w' ⟨rfl, hbb⟩
            exact hK _ () _ hbb (fun _ _ h => h) rfl
          · intro o a γ wx ho hB hE hN hW K hK
            simp only [List.getElem?_toArray, List.getElem?_cons_zero, List.getElem?_cons_succ, Option.some.injEq] at ho
            subst ho
            have hw := UE.start hE
            obtain ⟨⟨_, h70, rfl⟩, _⟩ := hW
            have h9 : a.tmps[9]? = some (.bool false) := (hB.at_ 9 (of_decide_eq_true (by kernel_rfl))).trans rfl
            clear hB hN hE
            go_simp
            exact hK (.bool false) () _ (UE.refl _) (fun _ _ h => h) rfl
          · intro o a γ wx ho hB hE hN hW K hK
            simp only [List.getElem?_toArray, List.getElem?_cons_zero, List.getElem?_cons_succ, Option.some.injEq] at ho
            subst ho
            have hw := UE.start hE
            obtain ⟨⟨_, h73, rfl⟩, ⟨_, h74, rfl⟩, ⟨_, h70, rfl⟩, _⟩ := hW
            clear hB hN hE
            go_simp
            exact hK (.bool false) () _ (UE.refl _) (fun _ _ h => h) rfl
          · intro o a γ wx ho hB hE hN hW K hK
            simp only [List.getElem?_toArray, List.getElem?_cons_zero, List.getElem?_cons_succ, Option.some.injEq] at ho
            subst ho
            have hw := UE.start hE
            obtain ⟨⟨_, h70, rfl⟩, ⟨_, h75, rfl⟩, _⟩ := hW
            clear hB hN hE
            go_simp
            exact hK (.bool false) () _ (UE.refl _) (fun _ _ h => h) rfl
          · intro o a γ wx ho hB hE hN hW K hK
            simp only [List.getElem?_toArray, List.getElem?_cons_zero, List.getElem?_cons_succ, Option.some.injEq] at ho
            subst ho
            have hw := UE.start hE
            obtain ⟨⟨_, h76, rfl⟩, ⟨_, h73, rfl⟩, _⟩ := hW
            clear hB hN hE
            go_simp
            exact hK (.bool false) () _ (UE.refl _) (fun _ _ h => h) rfl
          · intro o a γ wx ho hB hE hN hW K hK
            simp only [List.getElem?_toArray, List.getElem?_cons_zero, List.getElem?_cons_succ, Option.some.injEq] at ho
            subst ho
            have hw := UE.start hE
            obtain ⟨⟨_, h77, rfl⟩, _⟩ := hW
            have h3 : a.tmps[3]? = some (.pointer (some ⟨w.heap.size, 0, none⟩)) := (hB.at_ 3 (of_decide_eq_true (by kernel_rfl))).trans rfl
            have hc := HCE.out _ (hw05.trans (hw.mono hw05.size))
            clear hB hN hE
            go_simp
            exact hK (.agg #[.slice Aa ta.nodes.length ca, .int .i64 ta.root]) () _ (UE.refl _) (fun _ _ h => h) rfl
          · intro o a γ wx ho hB hE hN hW K hK
            simp only [List.getElem?_toArray, List.getElem?_cons_zero, List.getElem?_cons_succ, Option.some.injEq] at ho
            subst ho
            have hw := UE.start hE
            obtain ⟨⟨_, h77, rfl⟩, _⟩ := hW
            have h3 : a.tmps[3]? = some (.pointer (some ⟨w.heap.size, 0, none⟩)) := (hB.at_ 3 (of_decide_eq_true (by kernel_rfl))).trans rfl
            have hc := HCE.out _ (hw05.trans (hw.mono hw05.size))
            clear hB hN hE
            go_simp
            exact hK (.agg #[.slice Aa ta.nodes.length ca, .int .i64 ta.root]) () _ (UE.refl _) (fun _ _ h => h) rfl
          · intro o a γ wx ho hB hE hN hW K hK
            simp only [List.getElem?_toArray, List.getElem?_cons_zero, List.getElem?_cons_succ, Option.some.injEq] at ho
            subst ho
            have hw := UE.start hE
            obtain ⟨⟨_, h78, rfl⟩, ⟨_, h79, rfl⟩, ⟨_, h77, rfl⟩, _, _⟩ := hW
            clear hB hN hE
            go_simp
            refine (HSaa.out _ (hw05.trans (hw.mono hw05.size))).mono ?_
            rintro e w' ⟨rfl, hbb⟩
            exact hK _ () _ hbb (fun _ _ h => h) rfl
          · intro o a γ wx ho hB hE hN hW K hK
            simp only [List.getElem?_toArray, List.getElem?_cons_zero, List.getElem?_cons_succ, Option.some.injEq] at ho
            subst ho
            have hw := UE.start hE
            obtain ⟨⟨_, h77, rfl⟩, _⟩ := hW
            have h3 : a.tmps[3]? = some (.pointer (some ⟨w.heap.size, 0, none⟩)) := (hB.at_ 3 (of_decide_eq_true (by kernel_rfl))).trans rfl
            have hc := HCE.out _ (hw05.trans (hw.mono hw05.size))
            clear hB hN hE
            go_simp
            exact hK (.agg #[.slice Aa ta.nodes.length ca, .int .i64 ta.root]) () _ (UE.refl _) (fun _ _ h => h) rfl
          · intro o a γ wx ho hB hE hN hW K hK
            simp only [List.getElem?_toArray, List.getElem?_cons_zero, List.getElem?_cons_succ, Option.some.injEq] at ho
            subst ho
            have hw := UE.start hE
            obtain ⟨⟨_, h81, rfl⟩, ⟨_, h80, rfl⟩, ⟨_, h77, rfl⟩, _⟩ := hW
            clear hB hN hE
            go_simp
            refine (HRa.out _ (hw05.trans (hw.mono hw05.size))).mono ?_
            rintro e w' ⟨rfl, hbb⟩
            exact hK _ () _ hbb (fun _ _ h => h) rfl
          · intro o a γ wx ho hB hE hN hW K hK
            simp only [List.getElem?_toArray, List.getElem?_cons_zero, List.getElem?_cons_succ, Option.some.injEq] at ho
            subst ho
            have hw := UE.start hE
            obtain ⟨⟨_, h80, rfl⟩, ⟨_, h82, rfl⟩, ⟨_, h77, rfl⟩, _⟩ := hW
            clear hB hN hE
            go_simp
            exact hK (.bool false) () _ (UE.refl _) (fun _ _ h => h) rfl
          · intro o a γ wx ho hB hE hN hW K hK
            simp only [List.getElem?_toArray, List.getElem?_cons_zero, List.getElem?_cons_succ, Option.some.injEq] at ho
            subst ho
            have hw := UE.start hE
            obtain ⟨⟨_, h77, rfl⟩, ⟨_, h83, rfl⟩, _⟩ := hW
            clear hB hN hE
            go_simp
            exact hK (.bool false) () _ (UE.refl _) (fun _ _ h => h) rfl
        intro a' γ wx hB hE hK
        obtain ⟨⟨_, h57, rfl⟩, ⟨_, h58, rfl⟩, ⟨_, h59, rfl⟩, ⟨_, h60, rfl⟩, ⟨_, h61, rfl⟩, ⟨_, h62, rfl⟩, ⟨_, h63, rfl⟩, ⟨_, h64, rfl⟩, ⟨_, h65, rfl⟩, ⟨_, h66, rfl⟩, ⟨_, h67, rfl⟩, ⟨_, h68, rfl⟩, ⟨_, h69, rfl⟩, ⟨_, h70, rfl⟩, ⟨_, h71, rfl⟩, ⟨_, h72, rfl⟩, ⟨_, h73, rfl⟩, ⟨_, h74, rfl⟩, ⟨_, h75, rfl⟩, ⟨_, h76, rfl⟩, ⟨_, h77, rfl⟩, ⟨_, h78, rfl⟩, ⟨_, h79, rfl⟩, ⟨_, h80, rfl⟩, ⟨_, h81, rfl⟩, ⟨_, h82, rfl⟩, ⟨_, h83, rfl⟩, ⟨_, h84, rfl⟩, _⟩ := hK
        have ha := hB.eq [(57, .bool false), (58, .agg #[.slice Aa ta.nodes.length ca, .int .i64 ta.root]), (59, .bool false), (60, .bool false), (61, undef), (62, undef), (63, .bool false), (64, .bool false), (65, undef), (66, undef), (67, undef), (68, .bool false), (69, .bool false), (70, .bool false), (71, .agg #[.slice Ab tb.nodes.length cb, .int .i64 tb.root]), (72, .agg #[.slice Aa ta.nodes.length ca, .int .i64 ta.root]), (73, .bool false), (74, .bool false), (75, .bool false), (76, .bool false), (77, .bool false), (78, .agg #[.slice Aa ta.nodes.length ca, .int .i64 ta.root]), (79, .agg #[.slice Aa ta.nodes.length ca, .int .i64 ta.root]), (80, .bool false), (81, .agg #[.slice Aa ta.nodes.length ca, .int .i64 ta.root]), (82, .bool false), (83, .bool false), (84, .bool false)] rfl (by kernel_rfl) ⟨h57, h58, h59, h60, h61, h62, h63, h64, h65, h66, h67, h68, h69, h70, h71, h72, h73, h74, h75, h76, h77, h78, h79, h80, h81, h82, h83, h84, trivial⟩
        subst ha
        have hw := UE.start hE
        clear hB hE h57 h58 h59 h60 h61 h62 h63 h64 h65 h66 h67 h68 h69 h70 h71 h72 h73 h74 h75 h76 h77 h78 h79 h80 h81 h82 h83 h84
        simp only [putAll, List.foldl_cons, List.foldl_nil, List.setIfInBounds_toArray, List.set_cons_succ, List.set_cons_zero]
        /- >R7F -/
        have HW9 := Lib.hid (HW3.out.trans ((hw05.trans (hw.mono hw05.size)).mono HW3.out.size))
        clear hw hw05
        go_wp2_with fail
        go_ret
        exact ⟨rfl, HW9.out⟩
end Go.Proofs.YtlmlbdmbgfclkaaDoor

/- The law TreeRow, walked: it answers true. -/
import Derived.Test.YtlmlbdmbgfclkaaDoorTrB
import Derived.Test.YtlmlbdmbgfclkaaDoorTrY
import Derived.Deep.QuietTactic
import Derived.BigQuiet
namespace Go.Proofs.YtlmlbdmbgfclkaaDoor
open Go.RowKit
open Classical

structure RowSt (t : Tr) (A : Option Addr) (c B g5 c5 gp : Nat) (w : World) (R : List Int) (F : Nat → Int) (wr : World) : Prop where
  box : Blk wr B 24 #[.slice A t.nodes.length c, .int .i64 t.root]
  row : wr.ownsRow (B + 1) 3 1 (.slice (some ⟨g5, 0, none⟩) t.nodes.length c5) t.nodes.length (R.map (Value.int .i64))
  place : Blk wr gp 3 (tabOf t.nodes.length F).toArray
  below : Below B w wr
  ne : g5 ≠ gp
  gt : B < gp
theorem RowSt.set {t : Tr} {A : Option Addr} {c B g5 c5 gp : Nat} {w wr : World} {R : List Int} {F G : Nat → Int} (h : RowSt t A c B g5 c5 gp w R F wr) (k : Nat) (x : Int) (hG : ∀ j, j < t.nodes.length → G j = if j = k then x else F j) :
    RowSt t A c B g5 c5 gp w R G (wr.setCell ⟨gp, k, none⟩ (.int .i64 x)) := by
  have hgt := h.gt
  refine ⟨h.box.far (by simp; omega) _, h.row.kept (grown_set1 wr gp k _) (.inr (by simp [Value.ownBlock]; exact h.ne)), ?_, h.below.setCell (by simp; omega) _, h.ne, h.gt⟩
  have := h.place.set_ k (.int .i64 x)
  rwa [List.setIfInBounds_toArray, tabOf_set x hG] at this
theorem RowSt.congr {t : Tr} {A : Option Addr} {c B g5 c5 gp : Nat} {w wr : World} {R : List Int} {F G : Nat → Int} (h : RowSt t A c B g5 c5 gp w R F wr) (hG : ∀ j, j < t.nodes.length → G j = F j) : RowSt t A c B g5 c5 gp w R G wr :=
  ⟨h.box, h.row, by rw [← tabOf_congr (F := F) (G := G) hG]; exact h.place, h.below, h.ne, h.gt⟩
theorem RowSt.drew {t : Tr} {A : Option Addr} {c B g5 c5 gp : Nat} {w wr : World} {R : List Int} {F : Nat → Int} (h : RowSt t A c B g5 c5 gp w R F wr) (n : Nat) : RowSt t A c B g5 c5 gp w R F (wr.drewN n) :=
  ⟨h.box, h.row, h.place, below_drewN h.below n, h.ne, h.gt⟩
theorem RowSt.at_ {t : Tr} {A : Option Addr} {c B g5 c5 gp : Nat} {w wr : World} {R : List Int} {F : Nat → Int} (h : RowSt t A c B g5 c5 gp w R F wr) {k : Nat} (hk : k < t.nodes.length) : wr.cell? ⟨gp, k, none⟩ = some (.int .i64 (F k)) := by
  rw [h.place.cell k]
  simpa using tabOf_at hk

theorem HasT.nodes {w : World} {nv : Value} {r : Int} {t : Tr} (h : HasT w (.agg #[nv, .int .i64 r]) t) : RNodes w (fun b => b < w.heap.size) nv t.nodes := by
  obtain ⟨nv', hv, h1, _⟩ := h
  have e : nv = nv' := by simp at hv; exact hv.1
  rw [e]; exact h1

set_option maxHeartbeats 4000000 in
theorem ltreerow_any (t : Tr) (v : Value) (S : Nat → Prop) (w : World) (h : RTree w S v t) (hS : ∀ b, S b → b < w.heap.size) (hk : KTab w) : Calls Tryd.prog 3 #[v] w (TruePost w) := by
  have HK := Lib.hid (fun wx (hb : Below w.heap.size w wx) => hk.below hb)
  have HH := Lib.hid (h.has hS)
  obtain ⟨nv, rfl, hns, _⟩ := id h
  obtain ⟨A, c, rfl, hc, hs, _⟩ := hns.at_
  clear h hns hk
  go_enter Tryd.func3, Tryd.ntmps3
  go_wp2_with fail
  refine (works_g _ (HK.out _ ((Below.refl _ _).alloc (Nat.le_refl _) _))).mono ?_
  rintro e w1 ⟨rfl, hb1⟩
  have hb01 : Below w.heap.size w w1 := ((Below.refl _ _).alloc (Nat.le_refl _) _).trans (hb1.mono (by simp <;> omega))
  have hB1 : Blk w1 w.heap.size 24 #[.slice A t.nodes.length c, .int .i64 t.root] := (Blk.new w _ _).below hb1 (by simp)
  have d0 : w1.cell? ⟨w.heap.size, 0, none⟩ = some (.slice A t.nodes.length c) := hB1.cell 0
  have d1 : w1.cell? ⟨w.heap.size, 1, none⟩ = some (.int .i64 t.root) := hB1.cell 1
  have HB1 := Lib.hid hB1
  have HW1 := Lib.hid hb01
  clear hb1 hB1 hb01
  go_wp2_with fail
  have hT1 : HasT w1 (.agg #[.slice A t.nodes.length c, .int .i64 t.root]) t := HH.out.below HW1.out
  have hL := long_g (w := w1.alloc (.cells #[.slice A t.nodes.length c, .int .i64 t.root] 24)) (RTrees.one (S := fun b => b < w1.heap.size + 1) (Blk.new w1 24 _) (Nat.lt_succ_self _) ((hT1.below ((Below.refl _ _).alloc (Nat.le_refl _) _)).more fun b hb => by simpa using hb)) (fun b hb => by simpa using hb)
  clear hT1
  refine hL.mono ?_
  rintro e w2 ⟨r, rfl, hsh, hb2⟩
  have hb02 : Below w.heap.size w w2 := (HW1.out.alloc HW1.out.size _).trans (hb2.mono (by have := HW1.out.size; simp; omega))
  have HW2 := Lib.hid hb02
  have hB2 := (HB1.out.alloc (.cells #[.slice A t.nodes.length c, .int .i64 t.root] 24)).below hb2 (by have := HB1.out.lt; simp; omega)
  have d0 : w2.cell? ⟨w.heap.size, 0, none⟩ = some (.slice A t.nodes.length c) := hB2.cell 0
  have d1 : w2.cell? ⟨w.heap.size, 1, none⟩ = some (.int .i64 t.root) := hB2.cell 1
  have HB2 := Lib.hid hB2
  clear hb2 hb02 hL hB2
  cases r
  case true =>
    clear hsh
    go_wp2_with fail
    refine (works_g _ (HK.out _ HW2.out)).mono ?_
    rintro e w3 ⟨rfl, hb3⟩
    go_wp2_with fail
    go_ret
    exact ⟨rfl, HW2.out.trans (hb3.mono HW2.out.size)⟩
  case false =>
    have hsm : t.nodes.length ≤ 4000 := by
      have := (hsh rfl).sum
      simp [nodesSum] at this; exact this
    clear hsh
    have hG : ∀ wx, Below w.heap.size w wx → Given t (.agg #[.slice A t.nodes.length c, .int .i64 t.root]) (fun b => b < wx.heap.size) wx := fun wx hb => (HH.out.below hb).given (HK.out _ hb) (by omega)
    have HG := Lib.hid hG
    clear hG
    go_wp2_with fail
    refine (Walk_g (HG.out _ HW2.out)).mono ?_
    rintro e w3 ⟨u, rfl, ho3, hb3⟩
    have hb03 := HW2.out.trans (hb3.mono HW2.out.size)
    have hB3 := HB2.out.below hb3 HB2.out.lt
    have d0 : w3.cell? ⟨w.heap.size, 0, none⟩ = some (.slice A t.nodes.length c) := hB3.cell 0
    have d1 : w3.cell? ⟨w.heap.size, 1, none⟩ = some (.int .i64 t.root) := hB3.cell 1
    have HB3 := Lib.hid hB3
    have HW3 := Lib.hid hb03
    obtain ⟨A5, c5, rfl, _⟩ := own_slice ho3
    have HO3 := Lib.hid ho3
    clear hb3 hb03 hB3 ho3
    go_wp2_with fail
    by_cases hr : RightT t
    · have hR := right_g (HG.out _ HW3.out)
      rw [decide_eq_true hr] at hR
      refine hR.mono ?_
      rintro e w4 ⟨rfl, hb4⟩
      obtain ⟨R, hRdef⟩ : ∃ R, R = pre t.nodes t.root.toNat := ⟨_, rfl⟩
      have hRl : R.length = t.nodes.length := by rw [hRdef, (pre_perm hr.shape).length_eq, length_rangeI]
      have hRn : R.Nodup := by rw [hRdef]; exact (pre_perm hr.shape).nodup_iff.2 (nodup_rangeI _)
      have hRm : ∀ x : Int, x ∈ R ↔ 0 ≤ x ∧ x < t.nodes.length := fun x => by rw [hRdef, (pre_perm hr.shape).mem_iff]; exact mem_rangeI
      have hw : walkOf t = R := by rw [walkOf, if_pos hr, hRdef]
      have hpos : 0 < t.nodes.length := by have := hr.shape.root_lt; omega
      have ho3 := HO3.out
      rw [hw, hRl] at ho3 ⊢
      obtain ⟨g5, rfl, hg5, hg5l, _⟩ := own_some ho3 hpos
      have hb04 := HW3.out.trans (hb4.mono HW3.out.size)
      have HB4 := Lib.hid (HB3.out.below hb4 HB3.out.lt)
      have HO4 := Lib.hid (ho3.kept (only_of_below hb4 none) (.inr (by simp [Value.ownBlock])))
      have HW4 := Lib.hid hb04
      have d0 : w4.cell? ⟨w.heap.size, 0, none⟩ = some (.slice A t.nodes.length c) := HB4.out.cell 0
      have hlt5 : g5 < w4.heap.size := by have := hb4.size; omega
      have HRD := Lib.hid hRdef
      have HRL := Lib.hid hRl
      have HRN := Lib.hid hRn
      have HRM := Lib.hid hRm
      have HR := Lib.hid hr
      have hmk := make_zeros t.nodes.length (by omega)
      clear hR hb4 ho3 hw hr hRdef hRl hRn hRm hb04 HO3 HB1 HB3
      go_wp2_with fail
      clear hmk d0 hlt5
      obtain ⟨gp, hgp⟩ : ∃ gp, gp = w4.heap.size := ⟨_, rfl⟩
      have h0 : RowSt t A c w.heap.size g5 c5 gp w R (fun _ => 0) (w4.alloc (.cells (tabOf t.nodes.length fun _ => 0).toArray 3)) := by
        have hs2 := HW2.out.size
        have hB := HB2.out.lt
        exact ⟨HB4.out.alloc _, own_more (HO4.out.alloc _) (by omega), hgp ▸ Blk.new _ _ _, HW4.out.alloc HW4.out.size _, by have := own_blk_lt HO4.out (g := g5) rfl; omega, by have := HB4.out.lt; omega⟩
      rw [← hgp]
      have H0 := Lib.hid h0
      clear h0 hgp HB4 HO4 HW4 HW3 HB2 HW2 HW1 d0 d1
      go_loopw [5] (fun i wr => ∃ j : Nat, j ≤ t.nodes.length ∧ i = .int .i64 j ∧ Hid (RowSt t A c w.heap.size g5 c5 gp w R (fun x => if x < j then -1 else 0) wr)) (fun i _ => t.nodes.length - (intOf i).toNat)
      case atStart => exact ⟨0, Nat.zero_le _, rfl, Lib.hid (H0.out.congr fun j hj => by simp)⟩
      case round =>
        obtain ⟨wo, rfl⟩ : ∃ wo, wo = wr := ⟨_, rfl⟩
        obtain ⟨j, hj, rfl, H1⟩ := hrel
        by_cases hlt : j < t.nodes.length
        · have hlt' : (j : Int) < (t.nodes.length : Int) := by omega
          have q0 := H1.out.at_ hlt
          have qf := H1.out.place.frozen j
          go_wp2_with fail
          go_roundw
          case measure => simp [intOf]; omega
          case rel => exact ⟨j + 1, by omega, by go_num, Lib.hid (H1.out.set j (-1) fun x hx => by
            by_cases e : x = j
            · subst e; rw [if_pos rfl, if_pos (by omega)]
            · rw [if_neg e]
              by_cases e2 : x < j
              · rw [if_pos (by omega), if_pos e2]
              · rw [if_neg (by omega), if_neg e2])⟩
        · obtain rfl : j = t.nodes.length := by omega
          have H2 := Lib.hid (H1.out.congr (G := fun _ => -1) fun x hx => by simp [hx])
          have e0 : wo.cell? ⟨w.heap.size, 0, none⟩ = some (.slice A t.nodes.length c) := H2.out.box.cell 0
          have e1 : wo.cell? ⟨w.heap.size, 1, none⟩ = some (.int .i64 t.root) := H2.out.box.cell 1
          have e2 : wo.cell? ⟨g5, 0, none⟩ = some (.int .i64 t.root) := H2.out.row.cells (g := g5) rfl 0 _ (by rw [List.getElem?_map, HRD.out, pre_head HR.out.shape]; rfl)
          clear H1 hlt hj d0 d1
          go_wp2_with fail
          go_quiet (fail)
          clear e0 e1 e2
          go_wp2_with fail
          go_loopw [6] (fun i wr => ∃ j : Nat, j ≤ t.nodes.length ∧ i = .int .i64 j ∧ Hid (RowSt t A c w.heap.size g5 c5 gp w R (fun x => if (x : Int) ∈ R.take j then (R.idxOf (x : Int) : Int) else -1) wr)) (fun i _ => t.nodes.length - (intOf i).toNat)
          case atStart => exact ⟨0, Nat.zero_le _, rfl, Lib.hid ((H2.out.drew _).congr fun x hx => by simp)⟩
          case round =>
            clear H0 H2
            obtain ⟨wo, rfl⟩ : ∃ wo, wo = wr := ⟨_, rfl⟩
            obtain ⟨j, hj, rfl, H3⟩ := hrel
            by_cases hlt : j < t.nodes.length
            · have hlt' : (j : Int) < (t.nodes.length : Int) := by omega
              obtain ⟨x, hx⟩ : ∃ x, R[j]? = some x := ⟨_, List.getElem?_eq_getElem (by rw [HRL.out]; exact hlt)⟩
              have hxm := (HRM.out x).1 (List.mem_of_getElem? hx)
              obtain ⟨y, rfl⟩ : ∃ y : Nat, x = (y : Int) := ⟨x.toNat, by omega⟩
              have hyl : y < t.nodes.length := by omega
              have hyl2 : (y : Int) < (t.nodes.length : Int) := by omega
              have q0 : wo.cell? ⟨g5, j, none⟩ = some (.int .i64 (y : Int)) := own_at H3.out.row (by rw [List.getElem?_map, hx]; rfl)
              have q1 := H3.out.at_ hyl
              rw [if_neg (not_mem_take HRN.out hx)] at q1
              have q2 := H3.out.place.frozen y
              have HX := Lib.hid hx
              clear hx hxm hyl
              go_wp2_with fail
              go_roundw
              case measure => simp [intOf]; omega
              case rel => exact ⟨j + 1, by omega, by go_num, Lib.hid (H3.out.set y j fun x hx => by
                rw [List.take_add_one, HX.out]
                by_cases e : x = y
                · subst e
                  rw [if_pos rfl, if_pos (by simp), idxOf_get HRN.out HX.out]
                · rw [if_neg e]
                  have : ¬ ((x : Int) = (y : Int)) := by omega
                  simp [this])⟩
            · obtain rfl : j = t.nodes.length := by omega
              have H4 := Lib.hid (H3.out.congr (G := fun x => (R.idxOf (x : Int) : Int)) fun x hx => by
                rw [List.take_of_length_le (by rw [HRL.out]; exact Nat.le_refl _), if_pos ((HRM.out _).2 (by omega))])
              clear H3 hlt hj
              go_wp2_with fail
              go_loopw [7, 8, 9, 10] (fun i _ _ _ wr => ∃ j : Nat, j ≤ t.nodes.length ∧ i = .int .i64 j ∧ Hid (RowSt t A c w.heap.size g5 c5 gp w R (fun x => (R.idxOf (x : Int) : Int)) wr)) (fun i _ _ _ _ => t.nodes.length - (intOf i).toNat)
              case atStart => exact ⟨0, Nat.zero_le _, rfl, H4⟩
              case round =>
                clear H4
                obtain ⟨wo, rfl⟩ : ∃ wo, wo = wr := ⟨_, rfl⟩
                obtain ⟨j, hj, rfl, H5⟩ := hrel
                have e0 : wo.cell? ⟨w.heap.size, 0, none⟩ = some (.slice A t.nodes.length c) := H5.out.box.cell 0
                by_cases hlt : j < t.nodes.length
                · have hlt' : (j : Int) < (t.nodes.length : Int) := by omega
                  have q0 := H5.out.at_ hlt
                  obtain ⟨x, hx⟩ : ∃ x, t.nodes[j]? = some x := ⟨_, List.getElem?_eq_getElem hlt⟩
                  obtain ⟨b, off, Ak, ck, rfl, hbS, hki, _, _, _, _, _, _, _, _, _, c8⟩ := (HH.out.below H5.out.below).nodes.get j x hx
                  have hks : x.kids.length ≤ maxLen := hki.small
                  unfold maxLen at hks
                  have HX := Lib.hid hx
                  have HKI := Lib.hid hki
                  clear hx hki hbS
                  go_wp2_with fail
                  have HC8 := Lib.hid c8
                  have HE0 := Lib.hid e0
                  clear e0 c8 q0
                  go_loopw [8, 9, 10] (fun l i _ wr => ∃ q z : Nat, q ≤ x.kids.length ∧ i = .int .i64 q ∧ l = .int .i64 z ∧ Hid (z ≤ R.idxOf (j : Int) + kidSum t.nodes (x.kids.take q)) ∧ wr = wo) (fun _ i _ _ => x.kids.length - (intOf i).toNat)
                  case atStart => exact ⟨0, _, Nat.zero_le _, rfl, rfl, Lib.hid (Nat.le_add_right _ _), rfl⟩
                  case round =>
                    obtain ⟨q, z, hq, rfl, rfl, HZ, rfl⟩ := hrel
                    have e0 := HE0.out
                    have c8 := HC8.out
                    by_cases hql : q < x.kids.length
                    · have hql' : (q : Int) < (x.kids.length : Int) := by omega
                      obtain ⟨k, hk⟩ : ∃ k, x.kids[q]? = some k := ⟨_, List.getElem?_eq_getElem hql⟩
                      have hkl := HR.out.shape.low j x HX.out k (List.mem_of_getElem? hk)
                      have hp := pre_pos HR.out.shape HX.out q k hk
                      have hp2 := kidSum_next HR.out.shape.low HX.out hk
                      rw [← HRD.out] at hp
                      obtain ⟨y, rfl⟩ : ∃ y : Nat, k = (y : Int) := ⟨k.toNat, by omega⟩
                      have hyl : y < t.nodes.length := by omega
                      have hyl2 : (y : Int) < (t.nodes.length : Int) := by omega
                      obtain ⟨bk, ok, rfl, _, hkc⟩ := HKI.out.get q _ hk
                      have q1 := H5.out.at_ hyl
                      obtain ⟨pz, hpz⟩ : ∃ pz, pz = R.idxOf (y : Int) := ⟨_, rfl⟩
                      rw [← hpz] at q1 hp
                      have hzz := HZ.out
                      have hlz : z < pz := by omega
                      have hlz' : (z : Int) < (pz : Int) := by omega
                      have HN := Lib.hid (show pz ≤ R.idxOf (j : Int) + kidSum t.nodes (x.kids.take (q + 1)) by omega)
                      clear hk hkl hp hp2 hyl hpz hzz
                      go_wp2_with fail
                      go_roundw
                      case measure => simp [intOf]; omega
                      case rel => exact ⟨q + 1, pz, by omega, by go_num, rfl, HN, trivial⟩
                    · go_wp2_with fail
                      go_roundw
                      case measure => simp [intOf]; omega
                      case rel => exact ⟨j + 1, by omega, by go_num, H5⟩
                · go_wp2_with fail
                  go_ret
                  exact ⟨rfl, H5.out.below⟩
    · have hR := right_g (HG.out _ HW3.out)
      rw [decide_eq_false hr] at hR
      refine hR.mono ?_
      rintro e w4 ⟨rfl, hb4⟩
      have HW4 := Lib.hid (HW3.out.trans (hb4.mono HW3.out.size))
      have hw : (walkOf t).length = 0 := by rw [walkOf, if_neg hr]; rfl
      rw [hw]
      clear hb4 hR hw hr
      go_wp2_with fail
      go_ret
      exact ⟨rfl, HW4.out⟩
end Go.Proofs.YtlmlbdmbgfclkaaDoor

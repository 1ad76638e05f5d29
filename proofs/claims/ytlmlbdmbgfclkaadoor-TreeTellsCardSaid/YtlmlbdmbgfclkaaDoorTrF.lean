/- The contract of tree.Same. -/
import Derived.Test.YtlmlbdmbgfclkaaDoorTrE
namespace Go.Proofs.YtlmlbdmbgfclkaaDoor
open Go.RowKit
open Classical
attribute [local irreducible] Calls

theorem OwnNodes.below2 {w wx w' : World} {e : TypeId} {base : Nat} {X : Nat → Prop} {v : Value} {ns : List Nd} (h : OwnNodes w e base X v ns) (hw : wx = w ∨ wx = w.drew) (hb : Below wx.heap.size wx w') : OwnNodes w' e base X v ns := by
  rcases hw with rfl | rfl
  · exact h.below hb
  · have h1 : Below w.heap.size w w.drew := ⟨rfl, rfl, rfl, Nat.le_refl _, fun _ _ => rfl⟩
    exact h.below (h1.trans hb)
theorem OwnNodes.at2 {w wx : World} {e : TypeId} {base : Nat} {X : Nat → Prop} {v : Value} {ns : List Nd} (h : OwnNodes w e base X v ns) (hw : wx = w ∨ wx = w.drew) : OwnNodes wx e base X v ns := by
  rcases hw with rfl | rfl
  · exact h
  · exact h.below ⟨rfl, rfl, rfl, Nat.le_refl _, fun _ _ => rfl⟩
theorem below_drew1 {B : Nat} {a w : World} (h : Below B a w) : Below B a w.drew := ⟨h.os, h.tape, h.output, h.size, h.block⟩
theorem lt_drew {n : Nat} {w : World} (h : n < w.heap.size) : n < w.drew.heap.size := h
theorem OwnNodes.nodes {w : World} {e : TypeId} {base : Nat} {X : Nat → Prop} {v : Value} {ns : List Nd} (h : OwnNodes w e base X v ns) : RNodes w (fun b => b < w.heap.size) v ns := by
  obtain ⟨kvs, hk⟩ := h
  exact hk.nodes fun b _ h _ => h
def SameT (a b : Tr) : Prop := RightT a ∧ RightT b ∧ treeOf a = treeOf b
theorem SameT.len {a b : Tr} (h : SameT a b) : a.nodes.length = b.nodes.length := by rw [← h.1.size, ← h.2.1.size, h.2.2]

set_option maxHeartbeats 4000000 in
theorem Same_g {a b : Tr} {va vb : Value} {S S' : Nat → Prop} {w : World} (ha : Given a va S w) (hb : Given b vb S' w) :
    Calls Tryd.prog 14 #[va, vb] w fun e w' => e = .returned (.bool (decide (SameT a b))) ∧ Below w.heap.size w w' := by
  have HRa := Lib.hid (fun wx (hx : Below w.heap.size w wx) => right_g (ha.below hx))
  have HRb := Lib.hid (fun wx (hx : Below w.heap.size w wx) => right_g (hb.below hx))
  obtain ⟨X, hX⟩ : ∃ X, X = decide (SameT a b) := ⟨_, rfl⟩
  have HX := Lib.hid hX
  have HGa := Lib.hid ha
  have HGb := Lib.hid hb
  obtain ⟨nva, rfl, hna, _⟩ := ha.read
  obtain ⟨nvb, rfl, hnb, _⟩ := hb.read
  obtain ⟨A, c, rfl, _, _, _⟩ := hna.at_
  obtain ⟨A', c', rfl, _, _, _⟩ := hnb.at_
  clear hna hnb ha hb
  obtain ⟨n, hn⟩ : ∃ n, n = a.nodes.length := ⟨_, rfl⟩
  by_cases hl : a.nodes.length = b.nodes.length
  · rw [← hl, ← hn] at HRb HGb
    rw [← hn] at HRa HGa
    rw [← hl, ← hn]
    have HN := Lib.hid hn
    by_cases hra : RightT a
    · rw [decide_eq_true hra] at HRa
      by_cases hrb : RightT b
      · rw [decide_eq_true hrb] at HRb
        have HPa := Lib.hid (fun wx (hx : Below w.heap.size w wx) => put_nil ((show Given a _ S w from HGa.out).below hx) hra a.root hra.shape.pos hra.shape.root_lt wx.heap.size (Nat.le_refl _))
        have HPb := Lib.hid (fun wx (hx : Below w.heap.size w wx) => put_nil ((show Given b _ S' w from HGb.out).below hx) hrb b.root hrb.shape.pos hrb.shape.root_lt wx.heap.size (Nat.le_refl _))
        have hsa := hra.size
        have hsb := hrb.size
        unfold treeOf at hsa hsb
        rw [hsa, ← hn] at HPa
        rw [hsb, ← hl, ← hn] at HPb
        have hla : (flatAt 0 (D a.nodes a.root.toNat)).length ≤ 1000000 := by
          rw [flatAt_length, hsa]
          have := HGa.out.small
          omega
        have HLA := Lib.hid hla
        have hfx : ∀ (Y : Prop) (i : Decidable Y), (Y ↔ flatAt 0 (D a.nodes a.root.toNat) = flatAt 0 (D b.nodes b.root.toNat)) → @decide Y i = X := fun Y i hY => by
          rw [hX]
          refine decide_eq_decide.2 (hY.trans ⟨fun h => ⟨hra, hrb, flat_inj h⟩, fun h => ?_⟩)
          have := h.2.2
          unfold treeOf at this
          rw [this]
        have HFX := Lib.hid hfx
        clear hX hra hrb hn hl hsa hsb hfx hla
        go_enter Tryd.func14, Tryd.ntmps14
        go_wp2_with (first
        | (go_at_call 11
           refine (HRb.out _ hb01).mono ?_
           rintro e w2 ⟨rfl, hb2⟩
           have hb02 : Below w.heap.size w w2 := hb01.trans (hb2.mono hb01.size)
           have hA2 : Blk w2 w.heap.size 24 #[.slice A n c, .int .i64 a.root] := HA1.out.below hb2 HA1.out.lt
           have hB2 : Blk w2 (w.heap.size + 1) 24 #[.slice A' n c', .int .i64 b.root] := HB1.out.below hb2 HB1.out.lt
           have d0 : w2.cell? ⟨w.heap.size, 0, none⟩ = some (.slice A n c) := hA2.cell 0
           have d1 : w2.cell? ⟨w.heap.size, 1, none⟩ = some (.int .i64 a.root) := hA2.cell 1
           have e0 : w2.cell? ⟨w.heap.size + 1, 0, none⟩ = some (.slice A' n c') := hB2.cell 0
           have e1 : w2.cell? ⟨w.heap.size + 1, 1, none⟩ = some (.int .i64 b.root) := hB2.cell 1
           have HA2 := Lib.hid hA2
           have HB2 := Lib.hid hB2
           clear hb2 hA2 hB2)
        | (go_at_call 11
           refine (HRa.out _ (((Below.refl _ _).alloc (Nat.le_refl _) _).alloc (by simp) _)).mono ?_
           rintro e w1 ⟨rfl, hb1⟩
           have hb01 : Below w.heap.size w w1 := (((Below.refl _ _).alloc (Nat.le_refl _) _).alloc (by simp) _).trans (hb1.mono (by simp <;> omega))
           have hA1 : Blk w1 w.heap.size 24 #[.slice A n c, .int .i64 a.root] := ((Blk.new w _ _).alloc _).below hb1 (by simp <;> omega)
           have hB1 : Blk w1 (w.heap.size + 1) 24 #[.slice A' n c', .int .i64 b.root] := (Blk.new1 w _ _ _).below hb1 (by simp)
           have d0 : w1.cell? ⟨w.heap.size, 0, none⟩ = some (.slice A n c) := hA1.cell 0
           have d1 : w1.cell? ⟨w.heap.size, 1, none⟩ = some (.int .i64 a.root) := hA1.cell 1
           have e0 : w1.cell? ⟨w.heap.size + 1, 0, none⟩ = some (.slice A' n c') := hB1.cell 0
           have e1 : w1.cell? ⟨w.heap.size + 1, 1, none⟩ = some (.int .i64 b.root) := hB1.cell 1
           have HA1 := Lib.hid hA1
           have HB1 := Lib.hid hB1
           clear hb1 hA1 hB1)
        | fail)
        have hsz2 : w.heap.size + 1 < w2.heap.size := HB2.out.lt
        go_region_held3 (fun w' => w'.cell? ⟨w.heap.size, 0, none⟩ = some (.slice A n c) ∧ w'.cell? ⟨w.heap.size, 1, none⟩ = some (.int .i64 a.root) ∧ w'.cell? ⟨w.heap.size + 1, 0, none⟩ = some (.slice A' n c') ∧ w'.cell? ⟨w.heap.size + 1, 1, none⟩ = some (.int .i64 b.root))
          (first | go_keep | (go_split_ands; refine ⟨?_, ?_, ?_, ?_⟩ <;> (rw [hput.cell (by first | exact Nat.lt_of_succ_lt (by assumption) | exact Nat.lt_of_succ_lt (lt_drew (by assumption)) | assumption | exact lt_drew (by assumption))]; assumption)))
          (first
            | (go_at_call 44
               refine (HPa.out _ (by first | assumption | exact below_drew1 (by assumption))).mono ?_
               rintro e wp ⟨Aa, ca, rfl, hoa, hput⟩
               have hob2 := OwnNodes.below2 hob (by first | exact .inl rfl | exact .inr rfl) hput
               have hb03 : Below w.heap.size w wp := Below.trans (by first | assumption | exact below_drew1 (by assumption)) (hput.mono (by first | exact Nat.le_of_lt (Nat.lt_of_succ_lt (by assumption)) | exact Nat.le_of_lt (Nat.lt_of_succ_lt (lt_drew (by assumption)))))
               have hsz3 : w.heap.size + 1 < wp.heap.size := Nat.lt_of_lt_of_le (by first | assumption | exact lt_drew (by assumption)) hput.size)
            | (go_at_call 44
               refine (HPb.out _ (by first | assumption | exact below_drew1 (by assumption))).mono ?_
               rintro e wp ⟨Ab, cb, rfl, hob, hput⟩
               have hoa2 := OwnNodes.below2 hoa (by first | exact .inl rfl | exact .inr rfl) hput
               have hb03 : Below w.heap.size w wp := Below.trans (by first | assumption | exact below_drew1 (by assumption)) (hput.mono (by first | exact Nat.le_of_lt (Nat.lt_of_succ_lt (by assumption)) | exact Nat.le_of_lt (Nat.lt_of_succ_lt (lt_drew (by assumption)))))
               have hsz3 : w.heap.size + 1 < wp.heap.size := Nat.lt_of_lt_of_le (by first | assumption | exact lt_drew (by assumption)) hput.size)
            | (go_at_call 44
               refine (HPa.out _ (by first | assumption | exact below_drew1 (by assumption))).mono ?_
               rintro e wp ⟨Aa, ca, rfl, hoa, hput⟩
               have hb03 : Below w.heap.size w wp := Below.trans (by first | assumption | exact below_drew1 (by assumption)) (hput.mono (by first | exact Nat.le_of_lt (Nat.lt_of_succ_lt (by assumption)) | exact Nat.le_of_lt (Nat.lt_of_succ_lt (lt_drew (by assumption)))))
               have hsz3 : w.heap.size + 1 < wp.heap.size := Nat.lt_of_lt_of_le (by first | assumption | exact lt_drew (by assumption)) hput.size)
            | (go_at_call 44
               refine (HPb.out _ (by first | assumption | exact below_drew1 (by assumption))).mono ?_
               rintro e wp ⟨Ab, cb, rfl, hob, hput⟩
               have hb03 : Below w.heap.size w wp := Below.trans (by first | assumption | exact below_drew1 (by assumption)) (hput.mono (by first | exact Nat.le_of_lt (Nat.lt_of_succ_lt (by assumption)) | exact Nat.le_of_lt (Nat.lt_of_succ_lt (lt_drew (by assumption)))))
               have hsz3 : w.heap.size + 1 < wp.heap.size := Nat.lt_of_lt_of_le (by first | assumption | exact lt_drew (by assumption)) hput.size)
            | (go_at_call 43
               refine (equalf_g (OwnNodes.nodes (OwnNodes.at2 hoa (by first | exact .inl rfl | exact .inr rfl))) (OwnNodes.nodes (OwnNodes.at2 hob2 (by first | exact .inl rfl | exact .inr rfl))) (fun _ h => h) (fun _ h => h) HLA.out).mono ?_
               rintro e wq ⟨rfl, hput⟩
               have hb04 : Below w.heap.size w wq := Below.trans (by first | assumption | exact below_drew1 (by assumption)) (hput.mono (by first | exact Nat.le_of_lt (Nat.lt_of_succ_lt (by assumption)) | exact Nat.le_of_lt (Nat.lt_of_succ_lt (lt_drew (by assumption))))))
            | (go_at_call 43
               refine (equalf_g (OwnNodes.nodes (OwnNodes.at2 hoa2 (by first | exact .inl rfl | exact .inr rfl))) (OwnNodes.nodes (OwnNodes.at2 hob (by first | exact .inl rfl | exact .inr rfl))) (fun _ h => h) (fun _ h => h) HLA.out).mono ?_
               rintro e wq ⟨rfl, hput⟩
               have hb04 : Below w.heap.size w wq := Below.trans (by first | assumption | exact below_drew1 (by assumption)) (hput.mono (by first | exact Nat.le_of_lt (Nat.lt_of_succ_lt (by assumption)) | exact Nat.le_of_lt (Nat.lt_of_succ_lt (lt_drew (by assumption))))))
            | fail)
        all_goals go_wp2
        all_goals go_ret
        all_goals exact ⟨by rw [← HX.out, ← HFX.out _ _ Iff.rfl]; rfl, hb04⟩
      · have hf : X = false := by rw [hX]; exact decide_eq_false fun h => hrb h.2.1
        rw [decide_eq_false hrb] at HRb
        have HFX := Lib.hid hf
        clear hX hf hra hrb hn hl
        go_enter Tryd.func14, Tryd.ntmps14
        go_wp2_with (first
        | (go_at_call 11
           refine (HRb.out _ hb01).mono ?_
           rintro e w2 ⟨rfl, hb2⟩
           have hb02 : Below w.heap.size w w2 := hb01.trans (hb2.mono hb01.size)
           have hA2 : Blk w2 w.heap.size 24 #[.slice A n c, .int .i64 a.root] := HA1.out.below hb2 HA1.out.lt
           have hB2 : Blk w2 (w.heap.size + 1) 24 #[.slice A' n c', .int .i64 b.root] := HB1.out.below hb2 HB1.out.lt
           have d0 : w2.cell? ⟨w.heap.size, 0, none⟩ = some (.slice A n c) := hA2.cell 0
           have d1 : w2.cell? ⟨w.heap.size, 1, none⟩ = some (.int .i64 a.root) := hA2.cell 1
           have e0 : w2.cell? ⟨w.heap.size + 1, 0, none⟩ = some (.slice A' n c') := hB2.cell 0
           have e1 : w2.cell? ⟨w.heap.size + 1, 1, none⟩ = some (.int .i64 b.root) := hB2.cell 1
           have HA2 := Lib.hid hA2
           have HB2 := Lib.hid hB2
           clear hb2 hA2 hB2)
        | (go_at_call 11
           refine (HRa.out _ (((Below.refl _ _).alloc (Nat.le_refl _) _).alloc (by simp) _)).mono ?_
           rintro e w1 ⟨rfl, hb1⟩
           have hb01 : Below w.heap.size w w1 := (((Below.refl _ _).alloc (Nat.le_refl _) _).alloc (by simp) _).trans (hb1.mono (by simp <;> omega))
           have hA1 : Blk w1 w.heap.size 24 #[.slice A n c, .int .i64 a.root] := ((Blk.new w _ _).alloc _).below hb1 (by simp <;> omega)
           have hB1 : Blk w1 (w.heap.size + 1) 24 #[.slice A' n c', .int .i64 b.root] := (Blk.new1 w _ _ _).below hb1 (by simp)
           have d0 : w1.cell? ⟨w.heap.size, 0, none⟩ = some (.slice A n c) := hA1.cell 0
           have d1 : w1.cell? ⟨w.heap.size, 1, none⟩ = some (.int .i64 a.root) := hA1.cell 1
           have e0 : w1.cell? ⟨w.heap.size + 1, 0, none⟩ = some (.slice A' n c') := hB1.cell 0
           have e1 : w1.cell? ⟨w.heap.size + 1, 1, none⟩ = some (.int .i64 b.root) := hB1.cell 1
           have HA1 := Lib.hid hA1
           have HB1 := Lib.hid hB1
           clear hb1 hA1 hB1)
        | fail)
        go_ret
        exact ⟨by rw [← HX.out, HFX.out]; rfl, hb02⟩
    · have hf : X = false := by rw [hX]; exact decide_eq_false fun h => hra h.1
      rw [decide_eq_false hra] at HRa
      have HFX := Lib.hid hf
      clear hX hf hra hn hl
      go_enter Tryd.func14, Tryd.ntmps14
      go_wp2_with (first
        | (go_at_call 11
           refine (HRb.out _ hb01).mono ?_
           rintro e w2 ⟨rfl, hb2⟩
           have hb02 : Below w.heap.size w w2 := hb01.trans (hb2.mono hb01.size)
           have hA2 : Blk w2 w.heap.size 24 #[.slice A n c, .int .i64 a.root] := HA1.out.below hb2 HA1.out.lt
           have hB2 : Blk w2 (w.heap.size + 1) 24 #[.slice A' n c', .int .i64 b.root] := HB1.out.below hb2 HB1.out.lt
           have d0 : w2.cell? ⟨w.heap.size, 0, none⟩ = some (.slice A n c) := hA2.cell 0
           have d1 : w2.cell? ⟨w.heap.size, 1, none⟩ = some (.int .i64 a.root) := hA2.cell 1
           have e0 : w2.cell? ⟨w.heap.size + 1, 0, none⟩ = some (.slice A' n c') := hB2.cell 0
           have e1 : w2.cell? ⟨w.heap.size + 1, 1, none⟩ = some (.int .i64 b.root) := hB2.cell 1
           have HA2 := Lib.hid hA2
           have HB2 := Lib.hid hB2
           clear hb2 hA2 hB2)
        | (go_at_call 11
           refine (HRa.out _ (((Below.refl _ _).alloc (Nat.le_refl _) _).alloc (by simp) _)).mono ?_
           rintro e w1 ⟨rfl, hb1⟩
           have hb01 : Below w.heap.size w w1 := (((Below.refl _ _).alloc (Nat.le_refl _) _).alloc (by simp) _).trans (hb1.mono (by simp <;> omega))
           have hA1 : Blk w1 w.heap.size 24 #[.slice A n c, .int .i64 a.root] := ((Blk.new w _ _).alloc _).below hb1 (by simp <;> omega)
           have hB1 : Blk w1 (w.heap.size + 1) 24 #[.slice A' n c', .int .i64 b.root] := (Blk.new1 w _ _ _).below hb1 (by simp)
           have d0 : w1.cell? ⟨w.heap.size, 0, none⟩ = some (.slice A n c) := hA1.cell 0
           have d1 : w1.cell? ⟨w.heap.size, 1, none⟩ = some (.int .i64 a.root) := hA1.cell 1
           have e0 : w1.cell? ⟨w.heap.size + 1, 0, none⟩ = some (.slice A' n c') := hB1.cell 0
           have e1 : w1.cell? ⟨w.heap.size + 1, 1, none⟩ = some (.int .i64 b.root) := hB1.cell 1
           have HA1 := Lib.hid hA1
           have HB1 := Lib.hid hB1
           clear hb1 hA1 hB1)
        | fail)
      go_ret
      exact ⟨by rw [← HX.out, HFX.out]; rfl, hb01⟩
  · have hf : X = false := by rw [hX]; exact decide_eq_false fun h => hl h.len
    have HFX := Lib.hid hf
    have hl2 : ((n : Int) == (b.nodes.length : Int)) = false := by simp; omega
    have hl3 : ¬ n = b.nodes.length := by omega
    rw [← hn]
    clear hX hf hl hn HGa HGb HRa HRb
    generalize b.nodes.length = m at *
    go_enter Tryd.func14, Tryd.ntmps14
    go_wp2
    go_ret
    exact ⟨by rw [← HX.out, HFX.out]; rfl, ((Below.refl _ _).alloc (Nat.le_refl _) _).alloc (by simp) _⟩
end Go.Proofs.YtlmlbdmbgfclkaaDoor

/- The contracts of tree's small functions, on: Size, Depth, Walk, May, Root, Clean, leaf, Empty, Text, Rule. -/
import Derived.Test.YtlmlbdmbgfclkaaDoorTrS
namespace Go.Proofs.YtlmlbdmbgfclkaaDoor
open Go.RowKit
open Classical

instance : Inhabited Nd := ⟨⟨default, []⟩⟩
noncomputable def sizeT (t : Tr) : Nat := if RightT t then t.nodes.length else 0
noncomputable def depthT (t : Tr) : Nat := if RightT t then (treeOf t).depth else 0
noncomputable def walkOf (t : Tr) : List Int := if RightT t then pre t.nodes t.root.toNat else []
def MayT (t : Tr) : Prop := t.nodes.length ≤ 1024 ∧ RightT t ∧ (treeOf t).depth ≤ 32
noncomputable def rootOf (t : Tr) : Nd := if RightT t then ⟨(treeOf t).d, []⟩ else default
noncomputable def cleanOf (t : Tr) : Tr := if RightT t then flatT (treeOf t) else zeroT


set_option maxHeartbeats 2000000 in
theorem size_g {t : Tr} {v : Value} {S : Nat → Prop} {w : World} (h : Given t v S w) :
    Calls Tryd.prog 21 #[v] w fun e w' => e = .returned (.int .i64 (sizeT t)) ∧ Below w.heap.size w w' := by
  have HR := Lib.hid (fun wx (hx : Below w.heap.size w wx) => right_g (h.below hx))
  have HG := Lib.hid h
  obtain ⟨nv, rfl, hns, hr1, hr2⟩ := h.read
  obtain ⟨A, c, rfl, hc, hs, _⟩ := hns.at_
  by_cases hr : RightT t
  · have hv : sizeT t = t.nodes.length := if_pos hr
    rw [decide_eq_true hr] at HR
    have HV := Lib.hid hv
    clear h hns hr hv
    go_enter Tryd.func21, Tryd.ntmps21
    go_wp2_with (first
        | (go_at_call 11
           refine (HR.out _ ((Below.refl _ _).alloc (Nat.le_refl _) _)).mono ?_
           rintro e w1 ⟨rfl, hb1⟩
           have hb01 : Below w.heap.size w w1 := ((Below.refl _ _).alloc (Nat.le_refl _) _).trans (hb1.mono (by simp <;> omega))
           have d0 : w1.cell? ⟨w.heap.size, 0, none⟩ = some (.slice A t.nodes.length c) := by
             rw [hb1.cell (p := ⟨w.heap.size, 0, none⟩) (by simp <;> omega)]; exact (Blk.new w _ _).cell 0
           have d1 : w1.cell? ⟨w.heap.size, 1, none⟩ = some (.int .i64 t.root) := by
             rw [hb1.cell (p := ⟨w.heap.size, 1, none⟩) (by simp <;> omega)]; exact (Blk.new w _ _).cell 1
           clear hb1)
        | fail)
    go_ret
    exact ⟨by rw [HV.out]; rfl, hb01⟩
  · have hv : sizeT t = 0 := if_neg hr
    rw [decide_eq_false hr] at HR
    have HV := Lib.hid hv
    clear h hns hr hv
    go_enter Tryd.func21, Tryd.ntmps21
    go_wp2_with (first
        | (go_at_call 11
           refine (HR.out _ ((Below.refl _ _).alloc (Nat.le_refl _) _)).mono ?_
           rintro e w1 ⟨rfl, hb1⟩
           have hb01 : Below w.heap.size w w1 := ((Below.refl _ _).alloc (Nat.le_refl _) _).trans (hb1.mono (by simp <;> omega))
           have d0 : w1.cell? ⟨w.heap.size, 0, none⟩ = some (.slice A t.nodes.length c) := by
             rw [hb1.cell (p := ⟨w.heap.size, 0, none⟩) (by simp <;> omega)]; exact (Blk.new w _ _).cell 0
           have d1 : w1.cell? ⟨w.heap.size, 1, none⟩ = some (.int .i64 t.root) := by
             rw [hb1.cell (p := ⟨w.heap.size, 1, none⟩) (by simp <;> omega)]; exact (Blk.new w _ _).cell 1
           clear hb1)
        | fail)
    go_ret
    exact ⟨by rw [HV.out]; rfl, hb01⟩


set_option maxHeartbeats 2000000 in
theorem Depth_g {t : Tr} {v : Value} {S : Nat → Prop} {w : World} (h : Given t v S w) :
    Calls Tryd.prog 17 #[v] w fun e w' => e = .returned (.int .i64 (depthT t)) ∧ Below w.heap.size w w' := by
  have HR := Lib.hid (fun wx (hx : Below w.heap.size w wx) => right_g (h.below hx))
  have HG := Lib.hid h
  obtain ⟨nv, rfl, hns, hr1, hr2⟩ := h.read
  obtain ⟨A, c, rfl, hc, hs, _⟩ := hns.at_
  by_cases hr : RightT t
  · have hv : depthT t = (treeOf t).depth := if_pos hr
    have HD := Lib.hid (fun wx (hx : Below w.heap.size w wx) => depth_g (h.below hx) hr)
    rw [decide_eq_true hr] at HR
    rw [← hv] at HD
    have HV := Lib.hid hv
    clear h hns hr hv
    go_enter Tryd.func17, Tryd.ntmps17
    go_wp2_with (first
        | (go_at_call 11
           refine (HR.out _ ((Below.refl _ _).alloc (Nat.le_refl _) _)).mono ?_
           rintro e w1 ⟨rfl, hb1⟩
           have hb01 : Below w.heap.size w w1 := ((Below.refl _ _).alloc (Nat.le_refl _) _).trans (hb1.mono (by simp <;> omega))
           have d0 : w1.cell? ⟨w.heap.size, 0, none⟩ = some (.slice A t.nodes.length c) := by
             rw [hb1.cell (p := ⟨w.heap.size, 0, none⟩) (by simp <;> omega)]; exact (Blk.new w _ _).cell 0
           have d1 : w1.cell? ⟨w.heap.size, 1, none⟩ = some (.int .i64 t.root) := by
             rw [hb1.cell (p := ⟨w.heap.size, 1, none⟩) (by simp <;> omega)]; exact (Blk.new w _ _).cell 1
           clear hb1)
        | (go_at_call 47; refine (HD.out _ hb01).mono ?_; rintro e w2 ⟨rfl, hb2⟩)
        | fail)
    go_ret
    exact ⟨rfl, hb01.trans (hb2.mono hb01.size)⟩
  · have hv : depthT t = 0 := if_neg hr
    rw [decide_eq_false hr] at HR
    have HV := Lib.hid hv
    clear h hns hr hv
    go_enter Tryd.func17, Tryd.ntmps17
    go_wp2_with (first
        | (go_at_call 11
           refine (HR.out _ ((Below.refl _ _).alloc (Nat.le_refl _) _)).mono ?_
           rintro e w1 ⟨rfl, hb1⟩
           have hb01 : Below w.heap.size w w1 := ((Below.refl _ _).alloc (Nat.le_refl _) _).trans (hb1.mono (by simp <;> omega))
           have d0 : w1.cell? ⟨w.heap.size, 0, none⟩ = some (.slice A t.nodes.length c) := by
             rw [hb1.cell (p := ⟨w.heap.size, 0, none⟩) (by simp <;> omega)]; exact (Blk.new w _ _).cell 0
           have d1 : w1.cell? ⟨w.heap.size, 1, none⟩ = some (.int .i64 t.root) := by
             rw [hb1.cell (p := ⟨w.heap.size, 1, none⟩) (by simp <;> omega)]; exact (Blk.new w _ _).cell 1
           clear hb1)
        | fail)
    go_ret
    exact ⟨by rw [HV.out]; rfl, hb01⟩


set_option maxHeartbeats 2000000 in
theorem Walk_g {t : Tr} {v : Value} {S : Nat → Prop} {w : World} (h : Given t v S w) :
    Calls Tryd.prog 10 #[v] w fun e w' => ∃ u, e = .returned u ∧ w'.ownsRow w.heap.size 3 1 u (walkOf t).length ((walkOf t).map (Value.int .i64)) ∧ Below w.heap.size w w' := by
  have HR := Lib.hid (fun wx (hx : Below w.heap.size w wx) => right_g (h.below hx))
  have HG := Lib.hid h
  obtain ⟨nv, rfl, hns, hr1, hr2⟩ := h.read
  obtain ⟨A, c, rfl, hc, hs, _⟩ := hns.at_
  by_cases hr : RightT t
  · have hv : walkOf t = pre t.nodes t.root.toNat := if_pos hr
    have HD := fun wx (hx : Below w.heap.size w wx) => walk_any t _ S t.root true wx (h.below hx).read (h.below hx).old hr.shape.low hr.shape.pos hr.shape.root_lt (by
      have := (pre_perm hr.shape).length_eq; rw [length_rangeI] at this; have := h.small; simp only [gRow, if_true]; omega)
    simp only [gRow, if_true] at HD
    have HD := Lib.hid HD
    rw [decide_eq_true hr] at HR
    rw [← hv] at HD
    have HV := Lib.hid hv
    clear h hns hr hv
    go_enter Tryd.func10, Tryd.ntmps10
    go_wp2_with (first
        | (go_at_call 11
           refine (HR.out _ ((Below.refl _ _).alloc (Nat.le_refl _) _)).mono ?_
           rintro e w1 ⟨rfl, hb1⟩
           have hb01 : Below w.heap.size w w1 := ((Below.refl _ _).alloc (Nat.le_refl _) _).trans (hb1.mono (by simp <;> omega))
           have d0 : w1.cell? ⟨w.heap.size, 0, none⟩ = some (.slice A t.nodes.length c) := by
             rw [hb1.cell (p := ⟨w.heap.size, 0, none⟩) (by simp <;> omega)]; exact (Blk.new w _ _).cell 0
           have d1 : w1.cell? ⟨w.heap.size, 1, none⟩ = some (.int .i64 t.root) := by
             rw [hb1.cell (p := ⟨w.heap.size, 1, none⟩) (by simp <;> omega)]; exact (Blk.new w _ _).cell 1
           clear hb1)
        | (go_at_call 41; refine (HD.out _ hb01).mono ?_; rintro e w2 ⟨u, rfl, ho, hb2⟩; have HO := Lib.hid ho; clear ho)
        | fail)
    go_ret
    exact ⟨_, rfl, own_more HO.out hb01.size, hb01.trans (hb2.mono hb01.size)⟩
  · have hv : walkOf t = [] := if_neg hr
    rw [decide_eq_false hr] at HR
    have HV := Lib.hid hv
    clear h hns hr hv
    go_enter Tryd.func10, Tryd.ntmps10
    go_wp2_with (first
        | (go_at_call 11
           refine (HR.out _ ((Below.refl _ _).alloc (Nat.le_refl _) _)).mono ?_
           rintro e w1 ⟨rfl, hb1⟩
           have hb01 : Below w.heap.size w w1 := ((Below.refl _ _).alloc (Nat.le_refl _) _).trans (hb1.mono (by simp <;> omega))
           have d0 : w1.cell? ⟨w.heap.size, 0, none⟩ = some (.slice A t.nodes.length c) := by
             rw [hb1.cell (p := ⟨w.heap.size, 0, none⟩) (by simp <;> omega)]; exact (Blk.new w _ _).cell 0
           have d1 : w1.cell? ⟨w.heap.size, 1, none⟩ = some (.int .i64 t.root) := by
             rw [hb1.cell (p := ⟨w.heap.size, 1, none⟩) (by simp <;> omega)]; exact (Blk.new w _ _).cell 1
           clear hb1)
        | fail)
    go_ret
    exact ⟨_, rfl, by rw [HV.out]; exact World.ownsRow_nil _ _ _ _, hb01⟩


theorem Blk.set9 {w : World} {g : Nat} {t : TypeId} {a0 a1 a2 a3 a4 a5 a6 a7 a8 : Value} (h : Blk w g t #[a0, a1, a2, a3, a4, a5, a6, a7, a8]) (b0 b1 b2 b3 b4 b5 b6 b7 b8 : Value) :
    Blk (((((((((w.setCell ⟨g, 0, none⟩ b0).setCell ⟨g, 1, none⟩ b1).setCell ⟨g, 2, none⟩ b2).setCell ⟨g, 3, none⟩ b3).setCell ⟨g, 4, none⟩ b4).setCell ⟨g, 5, none⟩ b5).setCell ⟨g, 6, none⟩ b6).setCell ⟨g, 7, none⟩ b7).setCell ⟨g, 8, none⟩ b8) g t #[b0, b1, b2, b3, b4, b5, b6, b7, b8] := by
  have h9 := ((((((((h.set_ 0 b0).set_ 1 b1).set_ 2 b2).set_ 3 b3).set_ 4 b4).set_ 5 b5).set_ 6 b6).set_ 7 b7).set_ 8 b8
  simpa only [List.setIfInBounds_toArray, List.set_cons_zero, List.set_cons_succ] using h9
theorem below_set9 {B : Nat} {w0 w : World} (h : Below B w0 w) {g : Nat} (hg : B ≤ g) (b0 b1 b2 b3 b4 b5 b6 b7 b8 : Value) : Below B w0 (((((((((w.setCell ⟨g, 0, none⟩ b0).setCell ⟨g, 1, none⟩ b1).setCell ⟨g, 2, none⟩ b2).setCell ⟨g, 3, none⟩ b3).setCell ⟨g, 4, none⟩ b4).setCell ⟨g, 5, none⟩ b5).setCell ⟨g, 6, none⟩ b6).setCell ⟨g, 7, none⟩ b7).setCell ⟨g, 8, none⟩ b8) :=
  ((((((((h.setCell hg b0).setCell hg b1).setCell hg b2).setCell hg b3).setCell hg b4).setCell hg b5).setCell hg b6).setCell hg b7).setCell hg b8
theorem node_size : (Tryd.prog.info? 34).map (·.size) = some 9 := by kernel_rfl


set_option maxHeartbeats 2000000 in
theorem Root_g {t : Tr} {v : Value} {S : Nat → Prop} {w : World} (h : Given t v S w) :
    Calls Tryd.prog 26 #[v] w fun e w' => (∃ N : Nd, e = .returned (.agg (nodeCells N (.slice none 0 0)).toArray) ∧ N = rootOf t) ∧ Below w.heap.size w w' := by
  have HR := Lib.hid (fun wx (hx : Below w.heap.size w wx) => right_g (h.below hx))
  have HG := Lib.hid h
  obtain ⟨nv, rfl, hns, hr1, hr2⟩ := h.read
  obtain ⟨A, c, rfl, hc, hs, _⟩ := hns.at_
  by_cases hr : RightT t
  · have hv : rootOf t = ⟨(treeOf t).d, []⟩ := if_pos hr
    have hn := hr.shape.root_lt
    have h0 := hr.shape.pos
    have hrl : t.root < (t.nodes.length : Int) := by omega
    obtain ⟨N, hN⟩ : ∃ N, t.nodes[t.root.toNat]? = some N := ⟨_, List.getElem?_eq_getElem hn⟩
    have hd : (treeOf t).d = N.d := by unfold treeOf; rw [D_eq hr.shape.low hN]; rfl
    obtain ⟨A', c', hv', _, _, hcells⟩ := hns.at_
    injection hv' with h1 _ h3
    subst h1
    subst h3
    obtain ⟨b, off, rfl, hbS, _⟩ := hcells (by omega)
    have hbB := h.old b hbS
    obtain ⟨_, Ak, ck, hki, hdo, hck, hkc⟩ := hns.known t.root.toNat N hN
    have k0 : w.cell? ⟨b, off + t.root.toNat * 9, none⟩ = some (.int .u8 N.d.kind) := hkc 0 _ rfl
    have k1 : w.cell? ⟨b, off + t.root.toNat * 9 + 1, none⟩ = some (.int .u64 N.d.s0) := hkc 1 _ rfl
    have k2 : w.cell? ⟨b, off + t.root.toNat * 9 + 2, none⟩ = some (.int .u64 N.d.s1) := hkc 2 _ rfl
    have k3 : w.cell? ⟨b, off + t.root.toNat * 9 + 3, none⟩ = some (.int .u64 N.d.s2) := hkc 3 _ rfl
    have k4 : w.cell? ⟨b, off + t.root.toNat * 9 + 4, none⟩ = some (.int .u64 N.d.s3) := hkc 4 _ rfl
    have k5 : w.cell? ⟨b, off + t.root.toNat * 9 + 5, none⟩ = some (.string ⟨N.d.text.toArray⟩) := hkc 5 _ rfl
    have k6 : w.cell? ⟨b, off + t.root.toNat * 9 + 6, none⟩ = some (.int .i64 N.d.min) := hkc 6 _ rfl
    have k7 : w.cell? ⟨b, off + t.root.toNat * 9 + 7, none⟩ = some (.int .i64 N.d.max) := hkc 7 _ rfl
    have k8 : w.cell? ⟨b, off + t.root.toNat * 9 + 8, none⟩ = some (.slice Ak N.kids.length ck) := hkc 8 _ rfl
    have hlt1 : t.root.toNat < t.nodes.length := hn
    rw [decide_eq_true hr] at HR
    have HV := Lib.hid hv
    have HD := Lib.hid hd
    clear hcells hkc hki
    clear h hns hr hv hd hN
    go_enter Tryd.func26, Tryd.ntmps26
    go_wp2_with (first
        | (go_at_call 11
           refine (HR.out _ (((Below.refl _ _).alloc (Nat.le_refl _) _).alloc (by simp) _)).mono ?_
           rintro e w1 ⟨rfl, hb1⟩
           have hb01 : Below w.heap.size w w1 := (((Below.refl _ _).alloc (Nat.le_refl _) _).alloc (by simp) _).trans (hb1.mono (by simp <;> omega))
           have d0 : w1.cell? ⟨w.heap.size, 0, none⟩ = some (.slice (some ⟨b, off, none⟩) t.nodes.length c) := by
             rw [hb1.cell (p := ⟨w.heap.size, 0, none⟩) (by simp <;> omega)]; exact ((Blk.new w _ _).alloc _).cell 0
           have d1 : w1.cell? ⟨w.heap.size, 1, none⟩ = some (.int .i64 t.root) := by
             rw [hb1.cell (p := ⟨w.heap.size, 1, none⟩) (by simp <;> omega)]; exact ((Blk.new w _ _).alloc _).cell 1
           have hB1 : Blk w1 (w.heap.size + 1) 34 #[.int .u8 0, .int .u64 0, .int .u64 0, .int .u64 0, .int .u64 0, .string ⟨#[]⟩, .int .i64 0, .int .i64 0, .slice none 0 0] := (Blk.new1 _ _ _ _).below hb1 (by simp)
           have HB1 := Lib.hid hB1
           have e0 : ∀ o : Obj, (w1.alloc o).cell? ⟨w.heap.size + 1, 0, none⟩ = some (.int .u8 0) := fun o => (hB1.alloc o).cell 0
           have f0 : ∀ o : Obj, (w1.alloc o).frozen? ⟨w.heap.size + 1, 0, none⟩ = false := fun o => (hB1.alloc o).frozen 0
           have e1 : ∀ o : Obj, (w1.alloc o).cell? ⟨w.heap.size + 1, 1, none⟩ = some (.int .u64 0) := fun o => (hB1.alloc o).cell 1
           have f1 : ∀ o : Obj, (w1.alloc o).frozen? ⟨w.heap.size + 1, 1, none⟩ = false := fun o => (hB1.alloc o).frozen 1
           have e2 : ∀ o : Obj, (w1.alloc o).cell? ⟨w.heap.size + 1, 2, none⟩ = some (.int .u64 0) := fun o => (hB1.alloc o).cell 2
           have f2 : ∀ o : Obj, (w1.alloc o).frozen? ⟨w.heap.size + 1, 2, none⟩ = false := fun o => (hB1.alloc o).frozen 2
           have e3 : ∀ o : Obj, (w1.alloc o).cell? ⟨w.heap.size + 1, 3, none⟩ = some (.int .u64 0) := fun o => (hB1.alloc o).cell 3
           have f3 : ∀ o : Obj, (w1.alloc o).frozen? ⟨w.heap.size + 1, 3, none⟩ = false := fun o => (hB1.alloc o).frozen 3
           have e4 : ∀ o : Obj, (w1.alloc o).cell? ⟨w.heap.size + 1, 4, none⟩ = some (.int .u64 0) := fun o => (hB1.alloc o).cell 4
           have f4 : ∀ o : Obj, (w1.alloc o).frozen? ⟨w.heap.size + 1, 4, none⟩ = false := fun o => (hB1.alloc o).frozen 4
           have e5 : ∀ o : Obj, (w1.alloc o).cell? ⟨w.heap.size + 1, 5, none⟩ = some (.string ⟨#[]⟩) := fun o => (hB1.alloc o).cell 5
           have f5 : ∀ o : Obj, (w1.alloc o).frozen? ⟨w.heap.size + 1, 5, none⟩ = false := fun o => (hB1.alloc o).frozen 5
           have e6 : ∀ o : Obj, (w1.alloc o).cell? ⟨w.heap.size + 1, 6, none⟩ = some (.int .i64 0) := fun o => (hB1.alloc o).cell 6
           have f6 : ∀ o : Obj, (w1.alloc o).frozen? ⟨w.heap.size + 1, 6, none⟩ = false := fun o => (hB1.alloc o).frozen 6
           have e7 : ∀ o : Obj, (w1.alloc o).cell? ⟨w.heap.size + 1, 7, none⟩ = some (.int .i64 0) := fun o => (hB1.alloc o).cell 7
           have f7 : ∀ o : Obj, (w1.alloc o).frozen? ⟨w.heap.size + 1, 7, none⟩ = false := fun o => (hB1.alloc o).frozen 7
           have e8 : ∀ o : Obj, (w1.alloc o).cell? ⟨w.heap.size + 1, 8, none⟩ = some (.slice none 0 0) := fun o => (hB1.alloc o).cell 8
           have f8 : ∀ o : Obj, (w1.alloc o).frozen? ⟨w.heap.size + 1, 8, none⟩ = false := fun o => (hB1.alloc o).frozen 8
           clear hB1
           have c0 := hb01.cell (p := ⟨b, off + t.root.toNat * 9, none⟩) hbB |>.trans k0
           have c1 := hb01.cell (p := ⟨b, off + t.root.toNat * 9 + 1, none⟩) hbB |>.trans k1
           have c2 := hb01.cell (p := ⟨b, off + t.root.toNat * 9 + 2, none⟩) hbB |>.trans k2
           have c3 := hb01.cell (p := ⟨b, off + t.root.toNat * 9 + 3, none⟩) hbB |>.trans k3
           have c4 := hb01.cell (p := ⟨b, off + t.root.toNat * 9 + 4, none⟩) hbB |>.trans k4
           have c5 := hb01.cell (p := ⟨b, off + t.root.toNat * 9 + 5, none⟩) hbB |>.trans k5
           have c6 := hb01.cell (p := ⟨b, off + t.root.toNat * 9 + 6, none⟩) hbB |>.trans k6
           have c7 := hb01.cell (p := ⟨b, off + t.root.toNat * 9 + 7, none⟩) hbB |>.trans k7
           have c8 := hb01.cell (p := ⟨b, off + t.root.toNat * 9 + 8, none⟩) hbB |>.trans k8
           clear hb1)
        | fail)
    have hsz1 := HB1.out.lt
    have hB2 := (HB1.out.alloc (.cells #[.int .u8 N.d.kind, .int .u64 N.d.s0, .int .u64 N.d.s1, .int .u64 N.d.s2, .int .u64 N.d.s3, .string ⟨N.d.text.toArray⟩, .int .i64 N.d.min, .int .i64 N.d.max, .slice none 0 0] 34)).set9 (.int .u8 N.d.kind) (.int .u64 N.d.s0) (.int .u64 N.d.s1) (.int .u64 N.d.s2) (.int .u64 N.d.s3) (.string ⟨N.d.text.toArray⟩) (.int .i64 N.d.min) (.int .i64 N.d.max) (.slice none 0 0)
    have hb2 := below_set9 (hb01.alloc hb01.size (.cells #[.int .u8 N.d.kind, .int .u64 N.d.s0, .int .u64 N.d.s1, .int .u64 N.d.s2, .int .u64 N.d.s3, .string ⟨N.d.text.toArray⟩, .int .i64 N.d.min, .int .i64 N.d.max, .slice none 0 0] 34)) (g := w.heap.size + 1) (by omega) (.int .u8 N.d.kind) (.int .u64 N.d.s0) (.int .u64 N.d.s1) (.int .u64 N.d.s2) (.int .u64 N.d.s3) (.string ⟨N.d.text.toArray⟩) (.int .i64 N.d.min) (.int .i64 N.d.max) (.slice none 0 0)
    refine bodyPost_ret (results_cell_row rfl _ _ (w.heap.size + 1) _ _ _ _ rfl hB2 Tryd.underlying34 rfl node_size) rfl ?_
    exact ⟨⟨⟨N.d, []⟩, rfl, by rw [HV.out, HD.out]⟩, hb2⟩
  · have hv : rootOf t = default := if_neg hr
    rw [decide_eq_false hr] at HR
    have HV := Lib.hid hv
    clear h hns hr hv
    go_enter Tryd.func26, Tryd.ntmps26
    go_wp2_with (first
        | (go_at_call 11
           refine (HR.out _ (((Below.refl _ _).alloc (Nat.le_refl _) _).alloc (by simp) _)).mono ?_
           rintro e w1 ⟨rfl, hb1⟩
           have hb01 : Below w.heap.size w w1 := (((Below.refl _ _).alloc (Nat.le_refl _) _).alloc (by simp) _).trans (hb1.mono (by simp <;> omega))
           have d0 : w1.cell? ⟨w.heap.size, 0, none⟩ = some (.slice A t.nodes.length c) := by
             rw [hb1.cell (p := ⟨w.heap.size, 0, none⟩) (by simp <;> omega)]; exact ((Blk.new w _ _).alloc _).cell 0
           have d1 : w1.cell? ⟨w.heap.size, 1, none⟩ = some (.int .i64 t.root) := by
             rw [hb1.cell (p := ⟨w.heap.size, 1, none⟩) (by simp <;> omega)]; exact ((Blk.new w _ _).alloc _).cell 1
           have hB1 : Blk w1 (w.heap.size + 1) 34 #[.int .u8 0, .int .u64 0, .int .u64 0, .int .u64 0, .int .u64 0, .string ⟨#[]⟩, .int .i64 0, .int .i64 0, .slice none 0 0] := (Blk.new1 _ _ _ _).below hb1 (by simp)
           have HB1 := Lib.hid hB1
           obtain ⟨e0, e1, e2, e3, e4, e5, e6, e7, e8⟩ := hB1.nine
           have f0 := hB1.frozen 0
           have f1 := hB1.frozen 1
           have f2 := hB1.frozen 2
           have f3 := hB1.frozen 3
           have f4 := hB1.frozen 4
           have f5 := hB1.frozen 5
           have f6 := hB1.frozen 6
           have f7 := hB1.frozen 7
           have f8 := hB1.frozen 8
           clear hB1
           clear hb1)
        | fail)
    have hsz1 := HB1.out.lt
    have hB2 := HB1.out.set9 (.int .u8 0) (.int .u64 0) (.int .u64 0) (.int .u64 0) (.int .u64 0) (.string ⟨#[]⟩) (.int .i64 0) (.int .i64 0) (.slice none 0 0)
    have hb2 := below_set9 hb01 (g := w.heap.size + 1) (by omega) (.int .u8 0) (.int .u64 0) (.int .u64 0) (.int .u64 0) (.int .u64 0) (.string ⟨#[]⟩) (.int .i64 0) (.int .i64 0) (.slice none 0 0)
    refine bodyPost_ret (results_cell_row rfl _ _ (w.heap.size + 1) _ _ _ _ rfl hB2 Tryd.underlying34 rfl node_size) rfl ?_
    exact ⟨⟨default, rfl, HV.out.symm⟩, hb2⟩

end Go.Proofs.YtlmlbdmbgfclkaaDoor

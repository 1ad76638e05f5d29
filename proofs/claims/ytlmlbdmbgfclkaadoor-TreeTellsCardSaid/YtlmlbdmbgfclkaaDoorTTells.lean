/- The law TreeTells, walked: it answers true. -/
import Derived.Test.YtlmlbdmbgfclkaaDoorTTelA
import Derived.Test.YtlmlbdmbgfclkaaDoorRfD
namespace Go.Proofs.YtlmlbdmbgfclkaaDoor
set_option linter.unusedSimpArgs false
open Go.RowKit
open Classical

set_option maxRecDepth 100000 in
set_option maxHeartbeats 20000000 in
theorem ltreetells_any (ta tb : Tr) (va vb : Value) (node : Int) (w : World) (ha : HasT w va ta) (hb : HasT w vb tb) (hk : KTab w) : Calls Tryd.prog 6 #[va, vb, .int .i64 node] w (TruePost w) := by
  have HK := Lib.hid (fun wx (hb : Below w.heap.size w wx) => hk.below hb)
  have HA := Lib.hid ha
  have HB := Lib.hid hb
  obtain ⟨na, rfl, hna, _⟩ := id ha
  obtain ⟨nb, rfl, hnb, _⟩ := id hb
  obtain ⟨Aa, ca, rfl, _⟩ := hna.at_
  obtain ⟨Ab, cb, rfl, _⟩ := hnb.at_
  clear ha hb hna hnb hk
  go_enter Tryd.func6, Tryd.ntmps6
  go_wp2_with fail
  have hb03 : Below w.heap.size w (((w.alloc (.cells #[.slice Aa ta.nodes.length ca, .int .i64 ta.root] 24)).alloc (.cells #[.slice Ab tb.nodes.length cb, .int .i64 tb.root] 24)).alloc (.cells #[.slice Aa ta.nodes.length ca, .int .i64 ta.root, .slice Ab tb.nodes.length cb, .int .i64 tb.root] 24)) :=
    ((((Below.refl _ _).alloc (Nat.le_refl _) _).alloc (by simp) _).alloc (by simp; omega) _)
  have hL := long_g (ts := [ta, tb]) (v := .slice (some ⟨w.heap.size + 1 + 1, 0, none⟩) 2 2) (S := fun b => b < w.heap.size + 1 + 1 + 1)
    (w := ((w.alloc (.cells #[.slice Aa ta.nodes.length ca, .int .i64 ta.root] 24)).alloc (.cells #[.slice Ab tb.nodes.length cb, .int .i64 tb.root] 24)).alloc (.cells #[.slice Aa ta.nodes.length ca, .int .i64 ta.root, .slice Ab tb.nodes.length cb, .int .i64 tb.root] 24))
    (RTrees.two (ty := 24) (by have := Blk.new ((w.alloc (.cells #[.slice Aa ta.nodes.length ca, .int .i64 ta.root] 24)).alloc (.cells #[.slice Ab tb.nodes.length cb, .int .i64 tb.root] 24)) 24 #[.slice Aa ta.nodes.length ca, .int .i64 ta.root, .slice Ab tb.nodes.length cb, .int .i64 tb.root]; simpa using this) (Nat.lt_succ_self _) ((HA.out.below hb03).more fun b hb => by simpa using hb) ((HB.out.below hb03).more fun b hb => by simpa using hb)) (fun b hb => by simpa using hb)
  refine hL.mono ?_
  rintro e w2 ⟨r, rfl, hsh, hb2⟩
  have hbw2 : Below w.heap.size w w2 := hb03.trans (hb2.mono (by simp; omega))
  have hBa : Blk w2 w.heap.size 24 #[.slice Aa ta.nodes.length ca, .int .i64 ta.root] := (((Blk.new w _ _).alloc _).alloc _).below hb2 (by simp; omega)
  have hBb : Blk w2 (w.heap.size + 1) 24 #[.slice Ab tb.nodes.length cb, .int .i64 tb.root] := ((Blk.new1 w _ _ _).alloc _).below hb2 (by simp)
  have d0 : w2.cell? ⟨w.heap.size, 0, none⟩ = some (.slice Aa ta.nodes.length ca) := hBa.cell 0
  have d1 : w2.cell? ⟨w.heap.size, 1, none⟩ = some (.int .i64 ta.root) := hBa.cell 1
  have HBa := Lib.hid hBa
  have HBb := Lib.hid hBb
  have HW2 := Lib.hid hbw2
  clear hb03 hb2 hbw2 hL hBa hBb
  cases r
  case true =>
    clear hsh
    go_wp2_with fail
    refine (works_g _ (HK.out _ HW2.out)).mono ?_
    rintro e w3 ⟨rfl, hb3⟩
    go_wp2_with fail
    go_ret
    exact ⟨rfl, HW2.out.trans (hb3.mono HW2.out.size)⟩
  case false =>
    have hsum := (hsh rfl).sum
    have hkds := (hsh rfl).kids
    simp [nodesSum] at hsum
    have hsa : ta.nodes.length ≤ 4000 := by omega
    have hsb : tb.nodes.length ≤ 4000 := by omega
    have HKA := Lib.hid (show ∀ n ∈ ta.nodes, n.kids.length ≤ 1000000 from fun n hn => by have := hkds ta (by simp) n hn; omega)
    have HKB := Lib.hid (show ∀ n ∈ tb.nodes, n.kids.length ≤ 1000000 from fun n hn => by have := hkds tb (by simp) n hn; omega)
    clear hsum hsh hkds
    have HGA := Lib.hid (fun (wx : World) (hb : Below w.heap.size w wx) => (GivenR.mk ((HA.out.below hb).given (HK.out wx hb) (by omega : ta.nodes.length ≤ 500000)) HKA.out))
    have HGB := Lib.hid (fun (wx : World) (hb : Below w.heap.size w wx) => (GivenR.mk ((HB.out.below hb).given (HK.out wx hb) (by omega : tb.nodes.length ≤ 500000)) HKB.out))
    have hra : -9223372036854775808 ≤ ta.root ∧ ta.root ≤ 9223372036854775807 := by obtain ⟨_, _, _, h1⟩ := HA.out; exact h1
    have HRA := Lib.hid hra
    clear hra
    go_wp2_with fail
    refine (own_g (HGA.out _ HW2.out)).mono ?_
    rintro e w3 ⟨⟨u, rfl, ho⟩, hb3⟩
    obtain ⟨nv, rfl, hoo⟩ := id ho
    obtain ⟨kvs, hkk⟩ := hoo
    obtain ⟨A3, c3, rfl, -⟩ := own_slice hkk.row
    have hX3 : HasT w3 (.agg #[.slice A3 ta.nodes.length c3, .int .i64 ta.root]) ta := ho.has HRA.out.1 HRA.out.2
    clear hkk ho d0 d1
    obtain ⟨ws, hws⟩ : ∃ ws, ws = w3.alloc (.cells #[.slice A3 ta.nodes.length c3, .int .i64 ta.root] 24) := ⟨_, rfl⟩
    obtain ⟨g7, hg7⟩ : ∃ g7, g7 = w3.heap.size := ⟨_, rfl⟩
    have hb3s : Below w3.heap.size w3 ws := by rw [hws]; exact (Below.refl _ _).alloc (Nat.le_refl _) _
    have hb2s : Below w2.heap.size w2 ws := hb3.trans (hb3s.mono hb3.size)
    have hBx : Blk ws g7 24 #[.slice A3 ta.nodes.length c3, .int .i64 ta.root] := by rw [hws, hg7]; exact Blk.new _ _ _
    have HBx := Lib.hid hBx
    have HXs := Lib.hid (hX3.below hb3s)
    have HWs := Lib.hid (HW2.out.trans (hb2s.mono HW2.out.size))
    have hBas := HBa.out.below hb2s HBa.out.lt
    have hBbs := HBb.out.below hb2s HBb.out.lt
    have hlt0 : w.heap.size < ws.heap.size := hBas.lt
    have hlt1 : w.heap.size + 1 < ws.heap.size := hBbs.lt
    have hlt7 : g7 < ws.heap.size := hBx.lt
    have HCL := Lib.hid (show ∀ wx, Below ws.heap.size ws wx → wx.cell? ⟨w.heap.size, 0, none⟩ = some (.slice Aa ta.nodes.length ca) ∧ wx.cell? ⟨w.heap.size, 1, none⟩ = some (.int .i64 ta.root) ∧ wx.cell? ⟨w.heap.size + 1, 0, none⟩ = some (.slice Ab tb.nodes.length cb) ∧ wx.cell? ⟨w.heap.size + 1, 1, none⟩ = some (.int .i64 tb.root) ∧ wx.cell? ⟨g7, 0, none⟩ = some (.slice A3 ta.nodes.length c3) ∧ wx.cell? ⟨g7, 1, none⟩ = some (.int .i64 ta.root) from fun wx hx =>
      ⟨(hBas.below hx hBas.lt).cell 0, (hBas.below hx hBas.lt).cell 1, (hBbs.below hx hBbs.lt).cell 0, (hBbs.below hx hBbs.lt).cell 1, (hBx.below hx hBx.lt).cell 0, (hBx.below hx hBx.lt).cell 1⟩)
    have HGa := Lib.hid (fun (wx : World) (hb : Below ws.heap.size ws wx) => HGA.out wx (HWs.out.trans (hb.mono HWs.out.size)))
    have HGb := Lib.hid (fun (wx : World) (hb : Below ws.heap.size ws wx) => HGB.out wx (HWs.out.trans (hb.mono HWs.out.size)))
    have HGx := Lib.hid (fun (wx : World) (hb : Below ws.heap.size ws wx) => (HXs.out.below hb).given (HK.out wx (HWs.out.trans (hb.mono HWs.out.size))) (by omega : ta.nodes.length ≤ 500000))
    obtain ⟨rr, hrr⟩ : ∃ rr, rr = decide (RightT ta) := ⟨_, rfl⟩
    obtain ⟨mm, hmm⟩ : ∃ mm, mm = decide (MayT ta) := ⟨_, rfl⟩
    obtain ⟨sz, hsz⟩ : ∃ sz : Nat, sz = sizeT ta := ⟨_, rfl⟩
    obtain ⟨dp, hdp⟩ : ∃ dp : Nat, dp = depthT ta := ⟨_, rfl⟩
    obtain ⟨ss, hss⟩ : ∃ ss, ss = decide (SameT ta tb) := ⟨_, rfl⟩
    obtain ⟨RT, hRT⟩ : ∃ RT, RT = rootOf ta := ⟨_, rfl⟩
    have hRd : RT.d.Ok := by rw [hRT]; exact root_ok HXs.out
    have HRD := Lib.hid hRd
    have HRx := Lib.hid (show ∀ wx, Below ws.heap.size ws wx → Calls Tryd.prog 11 #[.agg #[.slice A3 ta.nodes.length c3, .int .i64 ta.root]] wx fun e w' => e = .returned (.bool rr) ∧ Below wx.heap.size wx w' from fun wx hb => by rw [hrr]; exact right_g (HGx.out wx hb))
    have HRr := Lib.hid (show ∀ wx, Below ws.heap.size ws wx → Calls Tryd.prog 28 #[.agg #[.slice Aa ta.nodes.length ca, .int .i64 ta.root]] wx fun e w' => e = .returned (.bool rr) ∧ Below wx.heap.size wx w' from fun wx hb => by rw [hrr]; exact rright_g (HGa.out wx hb))
    have HMx := Lib.hid (show ∀ wx, Below ws.heap.size ws wx → Calls Tryd.prog 15 #[.agg #[.slice A3 ta.nodes.length c3, .int .i64 ta.root]] wx fun e w' => e = .returned (.bool mm) ∧ Below wx.heap.size wx w' from fun wx hb => by rw [hmm]; exact May_g (HGx.out wx hb))
    have HMr := Lib.hid (show ∀ wx, Below ws.heap.size ws wx → Calls Tryd.prog 29 #[.agg #[.slice Aa ta.nodes.length ca, .int .i64 ta.root]] wx fun e w' => e = .returned (.bool mm) ∧ Below wx.heap.size wx w' from fun wx hb => by rw [hmm]; exact rMay_g (HGa.out wx hb))
    have HSx := Lib.hid (show ∀ wx, Below ws.heap.size ws wx → Calls Tryd.prog 21 #[.agg #[.slice A3 ta.nodes.length c3, .int .i64 ta.root]] wx fun e w' => e = .returned (.int .i64 sz) ∧ Below wx.heap.size wx w' from fun wx hb => by rw [hsz]; exact size_g (HGx.out wx hb))
    have HSr := Lib.hid (show ∀ wx, Below ws.heap.size ws wx → Calls Tryd.prog 30 #[.agg #[.slice Aa ta.nodes.length ca, .int .i64 ta.root]] wx fun e w' => e = .returned (.int .i64 sz) ∧ Below wx.heap.size wx w' from fun wx hb => by rw [hsz]; exact rsize_g (HGa.out wx hb))
    have HDx := Lib.hid (show ∀ wx, Below ws.heap.size ws wx → Calls Tryd.prog 17 #[.agg #[.slice A3 ta.nodes.length c3, .int .i64 ta.root]] wx fun e w' => e = .returned (.int .i64 dp) ∧ Below wx.heap.size wx w' from fun wx hb => by rw [hdp]; exact Depth_g (HGx.out wx hb))
    have HDr := Lib.hid (show ∀ wx, Below ws.heap.size ws wx → Calls Tryd.prog 31 #[.agg #[.slice Aa ta.nodes.length ca, .int .i64 ta.root]] wx fun e w' => e = .returned (.int .i64 dp) ∧ Below wx.heap.size wx w' from fun wx hb => by rw [hdp]; exact rDepth_g (HGa.out wx hb))
    have HEx := Lib.hid (show ∀ wx, Below ws.heap.size ws wx → Calls Tryd.prog 14 #[.agg #[.slice A3 ta.nodes.length c3, .int .i64 ta.root], .agg #[.slice Ab tb.nodes.length cb, .int .i64 tb.root]] wx fun e w' => e = .returned (.bool ss) ∧ Below wx.heap.size wx w' from fun wx hb => by rw [hss]; exact Same_g (HGx.out wx hb) (HGb.out wx hb).given)
    have HEr := Lib.hid (show ∀ wx, Below ws.heap.size ws wx → Calls Tryd.prog 32 #[.agg #[.slice Aa ta.nodes.length ca, .int .i64 ta.root], .agg #[.slice Ab tb.nodes.length cb, .int .i64 tb.root]] wx fun e w' => e = .returned (.bool ss) ∧ Below wx.heap.size wx w' from fun wx hb => by rw [hss]; exact rSame_g (HGa.out wx hb) (HGb.out wx hb))
    have HOx := Lib.hid (show ∀ wx, Below ws.heap.size ws wx → Calls Tryd.prog 26 #[.agg #[.slice A3 ta.nodes.length c3, .int .i64 ta.root]] wx fun e w' => e = .returned (.agg #[.int .u8 RT.d.kind, .int .u64 RT.d.s0, .int .u64 RT.d.s1, .int .u64 RT.d.s2, .int .u64 RT.d.s3, .string ⟨RT.d.text.toArray⟩, .int .i64 RT.d.min, .int .i64 RT.d.max, .slice none 0 0]) ∧ Below wx.heap.size wx w' from fun wx hb =>
      (Root_g (HGx.out wx hb)).mono fun e w' h => by
        obtain ⟨⟨N0, he, hN0⟩, hbb⟩ := h
        exact ⟨by rw [he, hN0, ← hRT]; rfl, hbb⟩)
    have HOr := Lib.hid (show ∀ wx, Below ws.heap.size ws wx → Calls Tryd.prog 33 #[.agg #[.slice Aa ta.nodes.length ca, .int .i64 ta.root]] wx fun e w' => e = .returned (.agg #[.int .u8 RT.d.kind, .int .u64 RT.d.s0, .int .u64 RT.d.s1, .int .u64 RT.d.s2, .int .u64 RT.d.s3, .string ⟨RT.d.text.toArray⟩, .int .i64 RT.d.min, .int .i64 RT.d.max, .slice none 0 0]) ∧ Below wx.heap.size wx w' from fun wx hb =>
      (rRoot_g (HGa.out wx hb)).mono fun e w' h => by
        obtain ⟨⟨N0, he, hN0⟩, hbb⟩ := h
        exact ⟨by rw [he, hN0, ← hRT]; rfl, hbb⟩)
    have HEn := Lib.hid (show ∀ wx : World, ∀ g1, Blk wx g1 34 #[.int .u8 RT.d.kind, .int .u64 RT.d.s0, .int .u64 RT.d.s1, .int .u64 RT.d.s2, .int .u64 RT.d.s3, .string ⟨RT.d.text.toArray⟩, .int .i64 RT.d.min, .int .i64 RT.d.max, .slice none 0 0] → ∀ g2, Blk wx g2 34 #[.int .u8 RT.d.kind, .int .u64 RT.d.s0, .int .u64 RT.d.s1, .int .u64 RT.d.s2, .int .u64 RT.d.s3, .string ⟨RT.d.text.toArray⟩, .int .i64 RT.d.min, .int .i64 RT.d.max, .slice none 0 0] → Calls Tryd.prog 13 #[.agg #[.slice (some ⟨g1, 0, none⟩) 1 1, .int .i64 0], .agg #[.slice (some ⟨g2, 0, none⟩) 1 1, .int .i64 0]] wx fun e w' => e = .returned (.bool true) ∧ Below wx.heap.size wx w' from fun wx g1 h1 g2 h2 => by
      have h := exact_g (node_tree (N := ⟨RT.d, []⟩) (S := fun b => b < wx.heap.size) h1 (RInts.empty _ _ _ _) HRD.out h1.lt) (node_tree (N := ⟨RT.d, []⟩) (S := fun b => b < wx.heap.size) h2 (RInts.empty _ _ _ _) HRD.out h2.lt) (fun _ h => h) (fun _ h => h) (by simp)
      simpa using h)
    clear hrr hmm hsz hdp hss hRT hRd hX3 hb3s hb2s hBx hBas hBbs hb3 HBa HBb
    go_wp2_with fail
    rw [← hws, ← hg7]
    clear hws hg7
    refine wp_region_inv (G := Unit) () UE UN
      [fun v _ => v = .agg #[.slice A3 ta.nodes.length c3, .int .i64 ta.root], fun v _ => v = .bool rr, fun v _ => v = .agg #[.slice Aa ta.nodes.length ca, .int .i64 ta.root], fun v _ => v = .bool rr, fun v _ => v = .bool false, fun v _ => v = .bool false, fun v _ => v = .agg #[.slice A3 ta.nodes.length c3, .int .i64 ta.root], fun v _ => v = .bool mm, fun v _ => v = .agg #[.slice Aa ta.nodes.length ca, .int .i64 ta.root], fun v _ => v = .bool mm, fun v _ => v = .bool false, fun v _ => v = .bool false, fun v _ => v = .bool false, fun v _ => v = .agg #[.slice A3 ta.nodes.length c3, .int .i64 ta.root], fun v _ => v = .int .i64 sz, fun v _ => v = .agg #[.slice Aa ta.nodes.length ca, .int .i64 ta.root], fun v _ => v = .int .i64 sz, fun v _ => v = .bool false, fun v _ => v = .bool false, fun v _ => v = .bool false, fun v _ => v = .agg #[.slice A3 ta.nodes.length c3, .int .i64 ta.root], fun v _ => v = .int .i64 dp, fun v _ => v = .agg #[.slice Aa ta.nodes.length ca, .int .i64 ta.root], fun v _ => v = .int .i64 dp, fun v _ => v = .bool false, fun v _ => v = .bool false, fun v _ => v = .bool false, fun v _ => v = .agg #[.slice A3 ta.nodes.length c3, .int .i64 ta.root], fun v _ => v = .agg #[.slice Ab tb.nodes.length cb, .int .i64 tb.root], fun v _ => v = .bool ss, fun v _ => v = .agg #[.slice Aa ta.nodes.length ca, .int .i64 ta.root], fun v _ => v = .agg #[.slice Ab tb.nodes.length cb, .int .i64 tb.root], fun v _ => v = .bool ss, fun v _ => v = .bool false, fun v _ => v = .bool false, fun v _ => v = .bool false, fun v _ => v = .agg #[.slice A3 ta.nodes.length c3, .int .i64 ta.root], fun v _ => v = .agg #[.int .u8 RT.d.kind, .int .u64 RT.d.s0, .int .u64 RT.d.s1, .int .u64 RT.d.s2, .int .u64 RT.d.s3, .string ⟨RT.d.text.toArray⟩, .int .i64 RT.d.min, .int .i64 RT.d.max, .slice none 0 0], fun v s => ∃ g, v = .slice (some ⟨g, 0, none⟩) 1 1 ∧ Blk s.2 g 34 #[.int .u8 RT.d.kind, .int .u64 RT.d.s0, .int .u64 RT.d.s1, .int .u64 RT.d.s2, .int .u64 RT.d.s3, .string ⟨RT.d.text.toArray⟩, .int .i64 RT.d.min, .int .i64 RT.d.max, .slice none 0 0], fun v s => ∃ g, v = .agg #[.slice (some ⟨g, 0, none⟩) 1 1, .int .i64 0] ∧ Blk s.2 g 34 #[.int .u8 RT.d.kind, .int .u64 RT.d.s0, .int .u64 RT.d.s1, .int .u64 RT.d.s2, .int .u64 RT.d.s3, .string ⟨RT.d.text.toArray⟩, .int .i64 RT.d.min, .int .i64 RT.d.max, .slice none 0 0], fun v _ => v = .agg #[.slice Aa ta.nodes.length ca, .int .i64 ta.root], fun v _ => v = .agg #[.int .u8 RT.d.kind, .int .u64 RT.d.s0, .int .u64 RT.d.s1, .int .u64 RT.d.s2, .int .u64 RT.d.s3, .string ⟨RT.d.text.toArray⟩, .int .i64 RT.d.min, .int .i64 RT.d.max, .slice none 0 0], fun v s => ∃ g, v = .slice (some ⟨g, 0, none⟩) 1 1 ∧ Blk s.2 g 34 #[.int .u8 RT.d.kind, .int .u64 RT.d.s0, .int .u64 RT.d.s1, .int .u64 RT.d.s2, .int .u64 RT.d.s3, .string ⟨RT.d.text.toArray⟩, .int .i64 RT.d.min, .int .i64 RT.d.max, .slice none 0 0], fun v s => ∃ g, v = .agg #[.slice (some ⟨g, 0, none⟩) 1 1, .int .i64 0] ∧ Blk s.2 g 34 #[.int .u8 RT.d.kind, .int .u64 RT.d.s0, .int .u64 RT.d.s1, .int .u64 RT.d.s2, .int .u64 RT.d.s3, .string ⟨RT.d.text.toArray⟩, .int .i64 RT.d.min, .int .i64 RT.d.max, .slice none 0 0], fun v _ => v = .bool true, fun v _ => v = .bool false, fun v _ => v = .bool false]
      (by kernel_rfl) UE.trans (UE.refl _) (by kernel_rfl) (by kernel_rfl) (fun _ => trivial) ?rstt4 ?rstepst4 ?rfint4
    case rstt4 =>
      intro R hR v s s' _ h hr
      simp only [List.mem_cons, List.not_mem_nil, or_false] at hR
      rcases hR with rfl | rfl | rfl | rfl | rfl | rfl | rfl | rfl | rfl | rfl | rfl | rfl | rfl | rfl | rfl | rfl | rfl | rfl | rfl | rfl | rfl | rfl | rfl | rfl | rfl | rfl | rfl | rfl | rfl | rfl | rfl | rfl | rfl | rfl | rfl | rfl | rfl | rfl | rfl | rfl | rfl | rfl | rfl | rfl | rfl | rfl | rfl
      · exact hr
      · exact hr
      · exact hr
      · exact hr
      · exact hr
      · exact hr
      · exact hr
      · exact hr
      · exact hr
      · exact hr
      · exact hr
      · exact hr
      · exact hr
      · exact hr
      · exact hr
      · exact hr
      · exact hr
      · exact hr
      · exact hr
      · exact hr
      · exact hr
      · exact hr
      · exact hr
      · exact hr
      · exact hr
      · exact hr
      · exact hr
      · exact hr
      · exact hr
      · exact hr
      · exact hr
      · exact hr
      · exact hr
      · exact hr
      · exact hr
      · exact hr
      · exact hr
      · exact hr
      · exact hr.imp fun _ h' => ⟨h'.1, h'.2.below h h'.2.lt⟩
      · exact hr.imp fun _ h' => ⟨h'.1, h'.2.below h h'.2.lt⟩
      · exact hr
      · exact hr
      · exact hr.imp fun _ h' => ⟨h'.1, h'.2.below h h'.2.lt⟩
      · exact hr.imp fun _ h' => ⟨h'.1, h'.2.below h h'.2.lt⟩
      · exact hr
      · exact hr
      · exact hr
    case rstepst4 =>
      refine ⟨?_, ?_, ?_, ?_, ?_, ?_, ?_, ?_, ?_, ?_, ?_, ?_, ?_, ?_, ?_, ?_, ?_, ?_, ?_, ?_, ?_, ?_, ?_, ?_, ?_, ?_, ?_, ?_, ?_, ?_, ?_, ?_, ?_, ?_, ?_, ?_, ?_, ?_, ?_, ?_, ?_, ?_, ?_, ?_, ?_, ?_, ?_, trivial⟩
      · intro a γ wx hB hE hN hW K hK
        have hw := UE.start hE
        have h7 : a.tmps[7]? = some (.pointer (some ⟨g7, 0, none⟩)) := (hB.at_ 7 (of_decide_eq_true (by kernel_rfl))).trans rfl
        have hc := HCL.out _ hw
        clear hB hN hE
        go_simp
        exact hK (.agg #[.slice A3 ta.nodes.length c3, .int .i64 ta.root]) () _ (UE.refl _) (fun _ _ h => h) rfl
      · intro a γ wx hB hE hN hW K hK
        have hw := UE.start hE
        obtain ⟨⟨_, h26, rfl⟩, -⟩ := hW
        clear hB hN hE
        go_simp
        refine (HRx.out _ hw).mono ?_
        rintro e w' ⟨rfl, hbb⟩
        exact hK _ () _ hbb (fun _ _ h => h) rfl
      · intro a γ wx hB hE hN hW K hK
        have hw := UE.start hE
        have h3 : a.tmps[3]? = some (.pointer (some ⟨w.heap.size, 0, none⟩)) := (hB.at_ 3 (of_decide_eq_true (by kernel_rfl))).trans rfl
        have hc := HCL.out _ hw
        clear hB hN hE
        go_simp
        exact hK (.agg #[.slice Aa ta.nodes.length ca, .int .i64 ta.root]) () _ (UE.refl _) (fun _ _ h => h) rfl
      · intro a γ wx hB hE hN hW K hK
        have hw := UE.start hE
        obtain ⟨⟨_, h28, rfl⟩, -⟩ := hW
        clear hB hN hE
        go_simp
        refine (HRr.out _ hw).mono ?_
        rintro e w' ⟨rfl, hbb⟩
        exact hK _ () _ hbb (fun _ _ h => h) rfl
      · intro a γ wx hB hE hN hW K hK
        have hw := UE.start hE
        obtain ⟨⟨_, h27, rfl⟩, ⟨_, h29, rfl⟩, -⟩ := hW
        clear hB hN hE
        go_simp
        exact hK (.bool false) () _ (UE.refl _) (fun _ _ h => h) rfl
      · intro a γ wx hB hE hN hW K hK
        have hw := UE.start hE
        obtain ⟨⟨_, h30, rfl⟩, -⟩ := hW
        clear hB hN hE
        go_simp
        exact hK (.bool false) () _ (UE.refl _) (fun _ _ h => h) rfl
      · intro a γ wx hB hE hN hW K hK
        have hw := UE.start hE
        obtain ⟨⟨_, h31, rfl⟩, -⟩ := hW
        have h7 : a.tmps[7]? = some (.pointer (some ⟨g7, 0, none⟩)) := (hB.at_ 7 (of_decide_eq_true (by kernel_rfl))).trans rfl
        have hc := HCL.out _ hw
        clear hB hN hE
        go_simp
        exact hK (.agg #[.slice A3 ta.nodes.length c3, .int .i64 ta.root]) () _ (UE.refl _) (fun _ _ h => h) rfl
      · intro a γ wx hB hE hN hW K hK
        have hw := UE.start hE
        obtain ⟨⟨_, h32, rfl⟩, ⟨_, h31, rfl⟩, -⟩ := hW
        clear hB hN hE
        go_simp
        refine (HMx.out _ hw).mono ?_
        rintro e w' ⟨rfl, hbb⟩
        exact hK _ () _ hbb (fun _ _ h => h) rfl
      · intro a γ wx hB hE hN hW K hK
        have hw := UE.start hE
        obtain ⟨⟨_, h31, rfl⟩, -⟩ := hW
        have h3 : a.tmps[3]? = some (.pointer (some ⟨w.heap.size, 0, none⟩)) := (hB.at_ 3 (of_decide_eq_true (by kernel_rfl))).trans rfl
        have hc := HCL.out _ hw
        clear hB hN hE
        go_simp
        exact hK (.agg #[.slice Aa ta.nodes.length ca, .int .i64 ta.root]) () _ (UE.refl _) (fun _ _ h => h) rfl
      · intro a γ wx hB hE hN hW K hK
        have hw := UE.start hE
        obtain ⟨⟨_, h34, rfl⟩, -, ⟨_, h31, rfl⟩, -⟩ := hW
        clear hB hN hE
        go_simp
        refine (HMr.out _ hw).mono ?_
        rintro e w' ⟨rfl, hbb⟩
        exact hK _ () _ hbb (fun _ _ h => h) rfl
      · intro a γ wx hB hE hN hW K hK
        have hw := UE.start hE
        obtain ⟨⟨_, h33, rfl⟩, ⟨_, h35, rfl⟩, ⟨_, h31, rfl⟩, -⟩ := hW
        clear hB hN hE
        go_simp
        exact hK (.bool false) () _ (UE.refl _) (fun _ _ h => h) rfl
      · intro a γ wx hB hE hN hW K hK
        have hw := UE.start hE
        obtain ⟨⟨_, h31, rfl⟩, ⟨_, h36, rfl⟩, -⟩ := hW
        clear hB hN hE
        go_simp
        exact hK (.bool false) () _ (UE.refl _) (fun _ _ h => h) rfl
      · intro a γ wx hB hE hN hW K hK
        have hw := UE.start hE
        obtain ⟨⟨_, h37, rfl⟩, -⟩ := hW
        clear hB hN hE
        go_simp
        exact hK (.bool false) () _ (UE.refl _) (fun _ _ h => h) rfl
      · intro a γ wx hB hE hN hW K hK
        have hw := UE.start hE
        obtain ⟨⟨_, h38, rfl⟩, -⟩ := hW
        have h7 : a.tmps[7]? = some (.pointer (some ⟨g7, 0, none⟩)) := (hB.at_ 7 (of_decide_eq_true (by kernel_rfl))).trans rfl
        have hc := HCL.out _ hw
        clear hB hN hE
        go_simp
        exact hK (.agg #[.slice A3 ta.nodes.length c3, .int .i64 ta.root]) () _ (UE.refl _) (fun _ _ h => h) rfl
      · intro a γ wx hB hE hN hW K hK
        have hw := UE.start hE
        obtain ⟨⟨_, h39, rfl⟩, ⟨_, h38, rfl⟩, -⟩ := hW
        clear hB hN hE
        go_simp
        refine (HSx.out _ hw).mono ?_
        rintro e w' ⟨rfl, hbb⟩
        exact hK _ () _ hbb (fun _ _ h => h) rfl
      · intro a γ wx hB hE hN hW K hK
        have hw := UE.start hE
        obtain ⟨⟨_, h38, rfl⟩, -⟩ := hW
        have h3 : a.tmps[3]? = some (.pointer (some ⟨w.heap.size, 0, none⟩)) := (hB.at_ 3 (of_decide_eq_true (by kernel_rfl))).trans rfl
        have hc := HCL.out _ hw
        clear hB hN hE
        go_simp
        exact hK (.agg #[.slice Aa ta.nodes.length ca, .int .i64 ta.root]) () _ (UE.refl _) (fun _ _ h => h) rfl
      · intro a γ wx hB hE hN hW K hK
        have hw := UE.start hE
        obtain ⟨⟨_, h41, rfl⟩, -, ⟨_, h38, rfl⟩, -⟩ := hW
        clear hB hN hE
        go_simp
        refine (HSr.out _ hw).mono ?_
        rintro e w' ⟨rfl, hbb⟩
        exact hK _ () _ hbb (fun _ _ h => h) rfl
      · intro a γ wx hB hE hN hW K hK
        have hw := UE.start hE
        obtain ⟨⟨_, h40, rfl⟩, ⟨_, h42, rfl⟩, ⟨_, h38, rfl⟩, -⟩ := hW
        clear hB hN hE
        go_simp
        exact hK (.bool false) () _ (UE.refl _) (fun _ _ h => h) rfl
      · intro a γ wx hB hE hN hW K hK
        have hw := UE.start hE
        obtain ⟨⟨_, h38, rfl⟩, ⟨_, h43, rfl⟩, -⟩ := hW
        clear hB hN hE
        go_simp
        exact hK (.bool false) () _ (UE.refl _) (fun _ _ h => h) rfl
      · intro a γ wx hB hE hN hW K hK
        have hw := UE.start hE
        obtain ⟨⟨_, h44, rfl⟩, -⟩ := hW
        clear hB hN hE
        go_simp
        exact hK (.bool false) () _ (UE.refl _) (fun _ _ h => h) rfl
      · intro a γ wx hB hE hN hW K hK
        have hw := UE.start hE
        obtain ⟨⟨_, h45, rfl⟩, -⟩ := hW
        have h7 : a.tmps[7]? = some (.pointer (some ⟨g7, 0, none⟩)) := (hB.at_ 7 (of_decide_eq_true (by kernel_rfl))).trans rfl
        have hc := HCL.out _ hw
        clear hB hN hE
        go_simp
        exact hK (.agg #[.slice A3 ta.nodes.length c3, .int .i64 ta.root]) () _ (UE.refl _) (fun _ _ h => h) rfl
      · intro a γ wx hB hE hN hW K hK
        have hw := UE.start hE
        obtain ⟨⟨_, h46, rfl⟩, ⟨_, h45, rfl⟩, -⟩ := hW
        clear hB hN hE
        go_simp
        refine (HDx.out _ hw).mono ?_
        rintro e w' ⟨rfl, hbb⟩
        exact hK _ () _ hbb (fun _ _ h => h) rfl
      · intro a γ wx hB hE hN hW K hK
        have hw := UE.start hE
        obtain ⟨⟨_, h45, rfl⟩, -⟩ := hW
        have h3 : a.tmps[3]? = some (.pointer (some ⟨w.heap.size, 0, none⟩)) := (hB.at_ 3 (of_decide_eq_true (by kernel_rfl))).trans rfl
        have hc := HCL.out _ hw
        clear hB hN hE
        go_simp
        exact hK (.agg #[.slice Aa ta.nodes.length ca, .int .i64 ta.root]) () _ (UE.refl _) (fun _ _ h => h) rfl
      · intro a γ wx hB hE hN hW K hK
        have hw := UE.start hE
        obtain ⟨⟨_, h48, rfl⟩, -, ⟨_, h45, rfl⟩, -⟩ := hW
        clear hB hN hE
        go_simp
        refine (HDr.out _ hw).mono ?_
        rintro e w' ⟨rfl, hbb⟩
        exact hK _ () _ hbb (fun _ _ h => h) rfl
      · intro a γ wx hB hE hN hW K hK
        have hw := UE.start hE
        obtain ⟨⟨_, h47, rfl⟩, ⟨_, h49, rfl⟩, ⟨_, h45, rfl⟩, -⟩ := hW
        clear hB hN hE
        go_simp
        exact hK (.bool false) () _ (UE.refl _) (fun _ _ h => h) rfl
      · intro a γ wx hB hE hN hW K hK
        have hw := UE.start hE
        obtain ⟨⟨_, h45, rfl⟩, ⟨_, h50, rfl⟩, -⟩ := hW
        clear hB hN hE
        go_simp
        exact hK (.bool false) () _ (UE.refl _) (fun _ _ h => h) rfl
      · intro a γ wx hB hE hN hW K hK
        have hw := UE.start hE
        obtain ⟨⟨_, h51, rfl⟩, -⟩ := hW
        clear hB hN hE
        go_simp
        exact hK (.bool false) () _ (UE.refl _) (fun _ _ h => h) rfl
      · intro a γ wx hB hE hN hW K hK
        have hw := UE.start hE
        obtain ⟨⟨_, h52, rfl⟩, -⟩ := hW
        have h7 : a.tmps[7]? = some (.pointer (some ⟨g7, 0, none⟩)) := (hB.at_ 7 (of_decide_eq_true (by kernel_rfl))).trans rfl
        have hc := HCL.out _ hw
        clear hB hN hE
        go_simp
        exact hK (.agg #[.slice A3 ta.nodes.length c3, .int .i64 ta.root]) () _ (UE.refl _) (fun _ _ h => h) rfl
      · intro a γ wx hB hE hN hW K hK
        have hw := UE.start hE
        obtain ⟨⟨_, h52, rfl⟩, -⟩ := hW
        have h4 : a.tmps[4]? = some (.pointer (some ⟨w.heap.size + 1, 0, none⟩)) := (hB.at_ 4 (of_decide_eq_true (by kernel_rfl))).trans rfl
        have hc := HCL.out _ hw
        clear hB hN hE
        go_simp
        exact hK (.agg #[.slice Ab tb.nodes.length cb, .int .i64 tb.root]) () _ (UE.refl _) (fun _ _ h => h) rfl
      · intro a γ wx hB hE hN hW K hK
        have hw := UE.start hE
        obtain ⟨⟨_, h53, rfl⟩, ⟨_, h54, rfl⟩, ⟨_, h52, rfl⟩, -⟩ := hW
        clear hB hN hE
        go_simp
        refine (HEx.out _ hw).mono ?_
        rintro e w' ⟨rfl, hbb⟩
        exact hK _ () _ hbb (fun _ _ h => h) rfl
      · intro a γ wx hB hE hN hW K hK
        have hw := UE.start hE
        obtain ⟨⟨_, h52, rfl⟩, -⟩ := hW
        have h3 : a.tmps[3]? = some (.pointer (some ⟨w.heap.size, 0, none⟩)) := (hB.at_ 3 (of_decide_eq_true (by kernel_rfl))).trans rfl
        have hc := HCL.out _ hw
        clear hB hN hE
        go_simp
        exact hK (.agg #[.slice Aa ta.nodes.length ca, .int .i64 ta.root]) () _ (UE.refl _) (fun _ _ h => h) rfl
      · intro a γ wx hB hE hN hW K hK
        have hw := UE.start hE
        obtain ⟨⟨_, h52, rfl⟩, -⟩ := hW
        have h4 : a.tmps[4]? = some (.pointer (some ⟨w.heap.size + 1, 0, none⟩)) := (hB.at_ 4 (of_decide_eq_true (by kernel_rfl))).trans rfl
        have hc := HCL.out _ hw
        clear hB hN hE
        go_simp
        exact hK (.agg #[.slice Ab tb.nodes.length cb, .int .i64 tb.root]) () _ (UE.refl _) (fun _ _ h => h) rfl
      · intro a γ wx hB hE hN hW K hK
        have hw := UE.start hE
        obtain ⟨⟨_, h56, rfl⟩, ⟨_, h57, rfl⟩, -, ⟨_, h52, rfl⟩, -⟩ := hW
        clear hB hN hE
        go_simp
        refine (HEr.out _ hw).mono ?_
        rintro e w' ⟨rfl, hbb⟩
        exact hK _ () _ hbb (fun _ _ h => h) rfl
      · intro a γ wx hB hE hN hW K hK
        have hw := UE.start hE
        obtain ⟨⟨_, h55, rfl⟩, ⟨_, h58, rfl⟩, ⟨_, h52, rfl⟩, -⟩ := hW
        clear hB hN hE
        go_simp
        exact hK (.bool false) () _ (UE.refl _) (fun _ _ h => h) rfl
      · intro a γ wx hB hE hN hW K hK
        have hw := UE.start hE
        obtain ⟨⟨_, h52, rfl⟩, ⟨_, h59, rfl⟩, -⟩ := hW
        clear hB hN hE
        go_simp
        exact hK (.bool false) () _ (UE.refl _) (fun _ _ h => h) rfl
      · intro a γ wx hB hE hN hW K hK
        have hw := UE.start hE
        obtain ⟨⟨_, h60, rfl⟩, -⟩ := hW
        clear hB hN hE
        go_simp
        exact hK (.bool false) () _ (UE.refl _) (fun _ _ h => h) rfl
      · intro a γ wx hB hE hN hW K hK
        have hw := UE.start hE
        obtain ⟨⟨_, h61, rfl⟩, -⟩ := hW
        have h7 : a.tmps[7]? = some (.pointer (some ⟨g7, 0, none⟩)) := (hB.at_ 7 (of_decide_eq_true (by kernel_rfl))).trans rfl
        have hc := HCL.out _ hw
        clear hB hN hE
        go_simp
        exact hK (.agg #[.slice A3 ta.nodes.length c3, .int .i64 ta.root]) () _ (UE.refl _) (fun _ _ h => h) rfl
      · intro a γ wx hB hE hN hW K hK
        have hw := UE.start hE
        obtain ⟨⟨_, h62, rfl⟩, ⟨_, h61, rfl⟩, -⟩ := hW
        clear hB hN hE
        go_simp
        refine (HOx.out _ hw).mono ?_
        rintro e w' ⟨rfl, hbb⟩
        exact hK _ () _ hbb (fun _ _ h => h) rfl
      · intro a γ wx hB hE hN hW K hK
        have hw := UE.start hE
        obtain ⟨⟨_, h63, rfl⟩, ⟨_, h61, rfl⟩, -⟩ := hW
        clear hB hE
        go_simp
        exact hK _ () _ UE.alloc (fun _ _ h => h) ⟨wx.heap.size, rfl, Blk.new _ _ _⟩
      · intro a γ wx hB hE hN hW K hK
        have hw := UE.start hE
        obtain ⟨⟨v64, h64, ⟨g64, rfl, r64⟩⟩, ⟨_, h61, rfl⟩, -⟩ := hW
        clear hB hN hE
        go_simp
        exact hK (_) () _ (UE.refl _) (fun _ _ h => h) ⟨g64, rfl, r64⟩
      · intro a γ wx hB hE hN hW K hK
        have hw := UE.start hE
        obtain ⟨⟨_, h61, rfl⟩, -⟩ := hW
        have h3 : a.tmps[3]? = some (.pointer (some ⟨w.heap.size, 0, none⟩)) := (hB.at_ 3 (of_decide_eq_true (by kernel_rfl))).trans rfl
        have hc := HCL.out _ hw
        clear hB hN hE
        go_simp
        exact hK (.agg #[.slice Aa ta.nodes.length ca, .int .i64 ta.root]) () _ (UE.refl _) (fun _ _ h => h) rfl
      · intro a γ wx hB hE hN hW K hK
        have hw := UE.start hE
        obtain ⟨⟨_, h66, rfl⟩, -, ⟨_, h61, rfl⟩, -⟩ := hW
        clear hB hN hE
        go_simp
        refine (HOr.out _ hw).mono ?_
        rintro e w' ⟨rfl, hbb⟩
        exact hK _ () _ hbb (fun _ _ h => h) rfl
      · intro a γ wx hB hE hN hW K hK
        have hw := UE.start hE
        obtain ⟨⟨_, h67, rfl⟩, ⟨_, h61, rfl⟩, -⟩ := hW
        clear hB hE
        go_simp
        exact hK _ () _ UE.alloc (fun _ _ h => h) ⟨wx.heap.size, rfl, Blk.new _ _ _⟩
      · intro a γ wx hB hE hN hW K hK
        have hw := UE.start hE
        obtain ⟨⟨v68, h68, ⟨g68, rfl, r68⟩⟩, ⟨_, h61, rfl⟩, -⟩ := hW
        clear hB hN hE
        go_simp
        exact hK (_) () _ (UE.refl _) (fun _ _ h => h) ⟨g68, rfl, r68⟩
      · intro a γ wx hB hE hN hW K hK
        have hw := UE.start hE
        obtain ⟨⟨v65, h65, ⟨g65, rfl, r65⟩⟩, ⟨v69, h69, ⟨g69, rfl, r69⟩⟩, -, ⟨_, h61, rfl⟩, -⟩ := hW
        clear hB hN hE
        go_simp
        refine (HEn.out _ _ r65 _ r69).mono ?_
        rintro e w' ⟨rfl, hbb⟩
        exact hK _ () _ hbb (fun _ _ h => h) rfl
      · intro a γ wx hB hE hN hW K hK
        have hw := UE.start hE
        obtain ⟨⟨_, h70, rfl⟩, ⟨_, h61, rfl⟩, -⟩ := hW
        clear hB hN hE
        go_simp
        exact hK (.bool false) () _ (UE.refl _) (fun _ _ h => h) rfl
      · intro a γ wx hB hE hN hW K hK
        have hw := UE.start hE
        obtain ⟨⟨_, h61, rfl⟩, ⟨_, h71, rfl⟩, -⟩ := hW
        clear hB hN hE
        go_simp
        exact hK (.bool false) () _ (UE.refl _) (fun _ _ h => h) rfl
    intro a' γ w5 hB hE hK
    obtain ⟨_, h26, rfl⟩ := hK 0 (of_decide_eq_true (by kernel_rfl))
    obtain ⟨_, h27, rfl⟩ := hK 1 (of_decide_eq_true (by kernel_rfl))
    obtain ⟨_, h28, rfl⟩ := hK 2 (of_decide_eq_true (by kernel_rfl))
    obtain ⟨_, h29, rfl⟩ := hK 3 (of_decide_eq_true (by kernel_rfl))
    obtain ⟨_, h30, rfl⟩ := hK 4 (of_decide_eq_true (by kernel_rfl))
    obtain ⟨_, h31, rfl⟩ := hK 5 (of_decide_eq_true (by kernel_rfl))
    obtain ⟨_, h32, rfl⟩ := hK 6 (of_decide_eq_true (by kernel_rfl))
    obtain ⟨_, h33, rfl⟩ := hK 7 (of_decide_eq_true (by kernel_rfl))
    obtain ⟨_, h34, rfl⟩ := hK 8 (of_decide_eq_true (by kernel_rfl))
    obtain ⟨_, h35, rfl⟩ := hK 9 (of_decide_eq_true (by kernel_rfl))
    obtain ⟨_, h36, rfl⟩ := hK 10 (of_decide_eq_true (by kernel_rfl))
    obtain ⟨_, h37, rfl⟩ := hK 11 (of_decide_eq_true (by kernel_rfl))
    obtain ⟨_, h38, rfl⟩ := hK 12 (of_decide_eq_true (by kernel_rfl))
    obtain ⟨_, h39, rfl⟩ := hK 13 (of_decide_eq_true (by kernel_rfl))
    obtain ⟨_, h40, rfl⟩ := hK 14 (of_decide_eq_true (by kernel_rfl))
    obtain ⟨_, h41, rfl⟩ := hK 15 (of_decide_eq_true (by kernel_rfl))
    obtain ⟨_, h42, rfl⟩ := hK 16 (of_decide_eq_true (by kernel_rfl))
    obtain ⟨_, h43, rfl⟩ := hK 17 (of_decide_eq_true (by kernel_rfl))
    obtain ⟨_, h44, rfl⟩ := hK 18 (of_decide_eq_true (by kernel_rfl))
    obtain ⟨_, h45, rfl⟩ := hK 19 (of_decide_eq_true (by kernel_rfl))
    obtain ⟨_, h46, rfl⟩ := hK 20 (of_decide_eq_true (by kernel_rfl))
    obtain ⟨_, h47, rfl⟩ := hK 21 (of_decide_eq_true (by kernel_rfl))
    obtain ⟨_, h48, rfl⟩ := hK 22 (of_decide_eq_true (by kernel_rfl))
    obtain ⟨_, h49, rfl⟩ := hK 23 (of_decide_eq_true (by kernel_rfl))
    obtain ⟨_, h50, rfl⟩ := hK 24 (of_decide_eq_true (by kernel_rfl))
    obtain ⟨_, h51, rfl⟩ := hK 25 (of_decide_eq_true (by kernel_rfl))
    obtain ⟨_, h52, rfl⟩ := hK 26 (of_decide_eq_true (by kernel_rfl))
    obtain ⟨_, h53, rfl⟩ := hK 27 (of_decide_eq_true (by kernel_rfl))
    obtain ⟨_, h54, rfl⟩ := hK 28 (of_decide_eq_true (by kernel_rfl))
    obtain ⟨_, h55, rfl⟩ := hK 29 (of_decide_eq_true (by kernel_rfl))
    obtain ⟨_, h56, rfl⟩ := hK 30 (of_decide_eq_true (by kernel_rfl))
    obtain ⟨_, h57, rfl⟩ := hK 31 (of_decide_eq_true (by kernel_rfl))
    obtain ⟨_, h58, rfl⟩ := hK 32 (of_decide_eq_true (by kernel_rfl))
    obtain ⟨_, h59, rfl⟩ := hK 33 (of_decide_eq_true (by kernel_rfl))
    obtain ⟨_, h60, rfl⟩ := hK 34 (of_decide_eq_true (by kernel_rfl))
    obtain ⟨_, h61, rfl⟩ := hK 35 (of_decide_eq_true (by kernel_rfl))
    obtain ⟨_, h62, rfl⟩ := hK 36 (of_decide_eq_true (by kernel_rfl))
    obtain ⟨_, h63, rfl⟩ := hK 37 (of_decide_eq_true (by kernel_rfl))
    obtain ⟨v64, h64, ⟨g64, rfl, r64⟩⟩ := hK 38 (of_decide_eq_true (by kernel_rfl))
    obtain ⟨v65, h65, ⟨g65, rfl, r65⟩⟩ := hK 39 (of_decide_eq_true (by kernel_rfl))
    obtain ⟨_, h66, rfl⟩ := hK 40 (of_decide_eq_true (by kernel_rfl))
    obtain ⟨_, h67, rfl⟩ := hK 41 (of_decide_eq_true (by kernel_rfl))
    obtain ⟨v68, h68, ⟨g68, rfl, r68⟩⟩ := hK 42 (of_decide_eq_true (by kernel_rfl))
    obtain ⟨v69, h69, ⟨g69, rfl, r69⟩⟩ := hK 43 (of_decide_eq_true (by kernel_rfl))
    obtain ⟨_, h70, rfl⟩ := hK 44 (of_decide_eq_true (by kernel_rfl))
    obtain ⟨_, h71, rfl⟩ := hK 45 (of_decide_eq_true (by kernel_rfl))
    obtain ⟨_, h72, rfl⟩ := hK 46 (of_decide_eq_true (by kernel_rfl))
    have ha := hB.eq [(26, .agg #[.slice A3 ta.nodes.length c3, .int .i64 ta.root]), (27, .bool rr), (28, .agg #[.slice Aa ta.nodes.length ca, .int .i64 ta.root]), (29, .bool rr), (30, .bool false), (31, .bool false), (32, .agg #[.slice A3 ta.nodes.length c3, .int .i64 ta.root]), (33, .bool mm), (34, .agg #[.slice Aa ta.nodes.length ca, .int .i64 ta.root]), (35, .bool mm), (36, .bool false), (37, .bool false), (38, .bool false), (39, .agg #[.slice A3 ta.nodes.length c3, .int .i64 ta.root]), (40, .int .i64 sz), (41, .agg #[.slice Aa ta.nodes.length ca, .int .i64 ta.root]), (42, .int .i64 sz), (43, .bool false), (44, .bool false), (45, .bool false), (46, .agg #[.slice A3 ta.nodes.length c3, .int .i64 ta.root]), (47, .int .i64 dp), (48, .agg #[.slice Aa ta.nodes.length ca, .int .i64 ta.root]), (49, .int .i64 dp), (50, .bool false), (51, .bool false), (52, .bool false), (53, .agg #[.slice A3 ta.nodes.length c3, .int .i64 ta.root]), (54, .agg #[.slice Ab tb.nodes.length cb, .int .i64 tb.root]), (55, .bool ss), (56, .agg #[.slice Aa ta.nodes.length ca, .int .i64 ta.root]), (57, .agg #[.slice Ab tb.nodes.length cb, .int .i64 tb.root]), (58, .bool ss), (59, .bool false), (60, .bool false), (61, .bool false), (62, .agg #[.slice A3 ta.nodes.length c3, .int .i64 ta.root]), (63, .agg #[.int .u8 RT.d.kind, .int .u64 RT.d.s0, .int .u64 RT.d.s1, .int .u64 RT.d.s2, .int .u64 RT.d.s3, .string ⟨RT.d.text.toArray⟩, .int .i64 RT.d.min, .int .i64 RT.d.max, .slice none 0 0]), (64, .slice (some ⟨g64, 0, none⟩) 1 1), (65, .agg #[.slice (some ⟨g65, 0, none⟩) 1 1, .int .i64 0]), (66, .agg #[.slice Aa ta.nodes.length ca, .int .i64 ta.root]), (67, .agg #[.int .u8 RT.d.kind, .int .u64 RT.d.s0, .int .u64 RT.d.s1, .int .u64 RT.d.s2, .int .u64 RT.d.s3, .string ⟨RT.d.text.toArray⟩, .int .i64 RT.d.min, .int .i64 RT.d.max, .slice none 0 0]), (68, .slice (some ⟨g68, 0, none⟩) 1 1), (69, .agg #[.slice (some ⟨g69, 0, none⟩) 1 1, .int .i64 0]), (70, .bool true), (71, .bool false), (72, .bool false)] rfl (by kernel_rfl) ⟨h26, h27, h28, h29, h30, h31, h32, h33, h34, h35, h36, h37, h38, h39, h40, h41, h42, h43, h44, h45, h46, h47, h48, h49, h50, h51, h52, h53, h54, h55, h56, h57, h58, h59, h60, h61, h62, h63, h64, h65, h66, h67, h68, h69, h70, h71, h72, trivial⟩
    subst ha
    have hw5 := UE.start hE
    clear hK hB hE h26 h27 h28 h29 h30 h31 h32 h33 h34 h35 h36 h37 h38 h39 h40 h41 h42 h43 h44 h45 h46 h47 h48 h49 h50 h51 h52 h53 h54 h55 h56 h57 h58 h59 h60 h61 h62 h63 h64 h65 h66 h67 h68 h69 h70 h71 h72
    simp only [putAll, List.foldl_cons, List.foldl_nil, List.setIfInBounds_toArray, List.set_cons_succ, List.set_cons_zero]
    go_wp2_with fail
    have HW5 := Lib.hid hw5
    obtain ⟨WK, hWK⟩ : ∃ WK, WK = walkOf ta := ⟨_, rfl⟩
    obtain ⟨wn, hwn⟩ : ∃ wn, wn = WK.length := ⟨_, rfl⟩
    have HWN := Lib.hid hwn
    have HWx := Lib.hid (show ∀ wx, Below w5.heap.size w5 wx → Calls Tryd.prog 10 #[.agg #[.slice A3 ta.nodes.length c3, .int .i64 ta.root]] wx fun e w' => (∃ A c, e = .returned (.slice A wn c) ∧ RInts w' (fun b => b < w'.heap.size) (.slice A wn c) WK) ∧ Below wx.heap.size wx w' from fun wx hb =>
      (Walk_g (HGx.out wx (HW5.out.trans (hb.mono HW5.out.size)))).mono fun e w' h => by
        obtain ⟨u, he, ho, hbb⟩ := h
        rw [← hWK, ← hwn] at ho
        obtain ⟨A, c, rfl, -⟩ := own_slice ho
        rw [hwn] at ho he ⊢
        exact ⟨⟨A, c, he, RInts.of_own ho fun g hg => (own_blk_lt ho hg).2⟩, hbb⟩)
    have HWr := Lib.hid (show ∀ wx, Below w5.heap.size w5 wx → Calls Tryd.prog 34 #[.agg #[.slice Aa ta.nodes.length ca, .int .i64 ta.root]] wx fun e w' => (∃ A c, e = .returned (.slice A wn c) ∧ RInts w' (fun b => b < w'.heap.size) (.slice A wn c) WK) ∧ Below wx.heap.size wx w' from fun wx hb =>
      (rWalk_g (HGa.out wx (HW5.out.trans (hb.mono HW5.out.size)))).mono fun e w' h => by
        obtain ⟨u, he, ho, hbb⟩ := h
        rw [← hWK, ← hwn] at ho
        obtain ⟨A, c, rfl, -⟩ := own_slice ho
        rw [hwn] at ho he ⊢
        exact ⟨⟨A, c, he, RInts.of_own ho fun g hg => (own_blk_lt ho hg).2⟩, hbb⟩)
    have HCL5 := Lib.hid (show ∀ wx, Below w5.heap.size w5 wx → wx.cell? ⟨w.heap.size, 0, none⟩ = some (.slice Aa ta.nodes.length ca) ∧ wx.cell? ⟨w.heap.size, 1, none⟩ = some (.int .i64 ta.root) ∧ wx.cell? ⟨w.heap.size + 1, 0, none⟩ = some (.slice Ab tb.nodes.length cb) ∧ wx.cell? ⟨w.heap.size + 1, 1, none⟩ = some (.int .i64 tb.root) ∧ wx.cell? ⟨g7, 0, none⟩ = some (.slice A3 ta.nodes.length c3) ∧ wx.cell? ⟨g7, 1, none⟩ = some (.int .i64 ta.root) from fun wx hx => HCL.out wx (HW5.out.trans (hx.mono HW5.out.size)))
    have hwm : wn ≤ 500000 := by
      have h1 : (walkOf ta).length ≤ ta.nodes.length := by
        unfold walkOf
        by_cases hr : RightT ta
        · rw [if_pos hr, (pre_perm hr.shape).length_eq, length_rangeI]; exact Nat.le_refl _
        · rw [if_neg hr]; exact Nat.zero_le _
      rw [hwn, hWK]; omega
    clear hw5 hWK hwn HRx HRr HMx HMr HSx HSr HDx HDr HEx HEr HOx HOr HEn HRD r64 r65 r68 r69
    refine wp_region_inv (G := Unit) () UE UN
      [fun v _ => v = .agg #[.slice A3 ta.nodes.length c3, .int .i64 ta.root], fun v s => ∃ A c, v = .slice A wn c ∧ RInts s.2 (fun b => b < s.2.heap.size) (.slice A wn c) WK, fun v _ => v = .agg #[.slice Aa ta.nodes.length ca, .int .i64 ta.root], fun v s => ∃ A c, v = .slice A wn c ∧ RInts s.2 (fun b => b < s.2.heap.size) (.slice A wn c) WK, fun v s => ∃ A c, v = .slice A wn c ∧ RInts s.2 (fun b => b < s.2.heap.size) (.slice A wn c) WK, fun v s => ∃ A c, v = .slice A wn c ∧ RInts s.2 (fun b => b < s.2.heap.size) (.slice A wn c) WK]
      (by kernel_rfl) UE.trans (UE.refl _) (by kernel_rfl) (by kernel_rfl) (fun _ => trivial) ?rstt6 ?rstepst6 ?rfint6
    case rstt6 =>
      intro R hR v s s' _ h hr
      simp only [List.mem_cons, List.not_mem_nil, or_false] at hR
      rcases hR with rfl | rfl | rfl | rfl | rfl | rfl
      · exact hr
      · exact hr.imp fun _ h' => h'.imp fun _ h2 => ⟨h2.1, (h2.2.below h fun _ hb => hb).more fun b hb => Nat.lt_of_lt_of_le hb h.size⟩
      · exact hr
      · exact hr.imp fun _ h' => h'.imp fun _ h2 => ⟨h2.1, (h2.2.below h fun _ hb => hb).more fun b hb => Nat.lt_of_lt_of_le hb h.size⟩
      · exact hr.imp fun _ h' => h'.imp fun _ h2 => ⟨h2.1, (h2.2.below h fun _ hb => hb).more fun b hb => Nat.lt_of_lt_of_le hb h.size⟩
      · exact hr.imp fun _ h' => h'.imp fun _ h2 => ⟨h2.1, (h2.2.below h fun _ hb => hb).more fun b hb => Nat.lt_of_lt_of_le hb h.size⟩
    case rstepst6 =>
      refine ⟨?_, ?_, ?_, ?_, ?_, ?_, trivial⟩
      · intro a γ wx hB hE hN hW K hK
        have hw := UE.start hE
        have h7 : a.tmps[7]? = some (.pointer (some ⟨g7, 0, none⟩)) := (hB.at_ 7 (of_decide_eq_true (by kernel_rfl))).trans rfl
        have hc := HCL5.out _ hw
        clear hB hN hE
        go_simp
        exact hK (.agg #[.slice A3 ta.nodes.length c3, .int .i64 ta.root]) () _ (UE.refl _) (fun _ _ h => h) rfl
      · intro a γ wx hB hE hN hW K hK
        have hw := UE.start hE
        obtain ⟨⟨_, h73, rfl⟩, -⟩ := hW
        clear hB hN hE
        go_simp
        refine (HWx.out _ hw).mono ?_
        rintro e w' ⟨⟨A, c, rfl, hu⟩, hbb⟩
        exact hK _ () _ hbb (fun _ _ h => h) ⟨A, c, rfl, hu⟩
      · intro a γ wx hB hE hN hW K hK
        have hw := UE.start hE
        have h3 : a.tmps[3]? = some (.pointer (some ⟨w.heap.size, 0, none⟩)) := (hB.at_ 3 (of_decide_eq_true (by kernel_rfl))).trans rfl
        have hc := HCL5.out _ hw
        clear hB hN hE
        go_simp
        exact hK (.agg #[.slice Aa ta.nodes.length ca, .int .i64 ta.root]) () _ (UE.refl _) (fun _ _ h => h) rfl
      · intro a γ wx hB hE hN hW K hK
        have hw := UE.start hE
        obtain ⟨⟨_, h75, rfl⟩, -⟩ := hW
        clear hB hN hE
        go_simp
        refine (HWr.out _ hw).mono ?_
        rintro e w' ⟨⟨A, c, rfl, hu⟩, hbb⟩
        exact hK _ () _ hbb (fun _ _ h => h) ⟨A, c, rfl, hu⟩
      · intro a γ wx hB hE hN hW K hK
        have hw := UE.start hE
        obtain ⟨⟨v74, h74, ⟨A74, c74, rfl, r74⟩⟩, -⟩ := hW
        clear hB hN hE
        go_simp
        exact hK (_) () _ (UE.refl _) (fun _ _ h => h) ⟨_, _, rfl, r74⟩
      · intro a γ wx hB hE hN hW K hK
        have hw := UE.start hE
        obtain ⟨⟨v76, h76, ⟨A76, c76, rfl, r76⟩⟩, -⟩ := hW
        clear hB hN hE
        go_simp
        exact hK (_) () _ (UE.refl _) (fun _ _ h => h) ⟨_, _, rfl, r76⟩
    intro a' γ w6 hB hE hK
    obtain ⟨_, h73, rfl⟩ := hK 0 (of_decide_eq_true (by kernel_rfl))
    obtain ⟨v74, h74, ⟨A74, c74, rfl, r74⟩⟩ := hK 1 (of_decide_eq_true (by kernel_rfl))
    obtain ⟨_, h75, rfl⟩ := hK 2 (of_decide_eq_true (by kernel_rfl))
    obtain ⟨v76, h76, ⟨A76, c76, rfl, r76⟩⟩ := hK 3 (of_decide_eq_true (by kernel_rfl))
    obtain ⟨v8, h8, ⟨A8, c8, rfl, r8⟩⟩ := hK 4 (of_decide_eq_true (by kernel_rfl))
    obtain ⟨v9, h9, ⟨A9, c9, rfl, r9⟩⟩ := hK 5 (of_decide_eq_true (by kernel_rfl))
    have ha := hB.eq [(73, .agg #[.slice A3 ta.nodes.length c3, .int .i64 ta.root]), (74, .slice A74 wn c74), (75, .agg #[.slice Aa ta.nodes.length ca, .int .i64 ta.root]), (76, .slice A76 wn c76), (8, .slice A8 wn c8), (9, .slice A9 wn c9)] rfl (by kernel_rfl) ⟨h73, h74, h75, h76, h8, h9, trivial⟩
    subst ha
    have hw6 := UE.start hE
    clear hK hB hE h73 h74 h75 h76 h8 h9
    simp only [putAll, List.foldl_cons, List.foldl_nil, List.setIfInBounds_toArray, List.set_cons_succ, List.set_cons_zero]
    have hw06 := HW5.out.trans (hw6.mono HW5.out.size)
    have HW6 := Lib.hid hw06
    have HR8 := Lib.hid r8
    have HR9 := Lib.hid r9
    clear hw6 hw06 HCL5 HWx HWr r74 r76 r8 r9 HW5
    go_wp2_with fail
    go_loopw [10] (fun i wr => ∃ k : Nat, k ≤ wn ∧ i = .int .i64 k ∧ Hid (Below w6.heap.size w6 wr)) (fun i _ => wn - (intOf i).toNat)
    case atStart => exact ⟨0, Nat.zero_le _, rfl, Lib.hid (Below.refl _ _)⟩
    case round =>
      obtain ⟨wo, rfl⟩ : ∃ wo, wo = wr := ⟨_, rfl⟩
      obtain ⟨k, hk, rfl, HB6⟩ := hrel
      by_cases hlt : k < wn
      · obtain ⟨z, hz⟩ : ∃ z, WK[k]? = some z := ⟨_, List.getElem?_eq_getElem (by rw [← HWN.out]; exact hlt)⟩
        obtain ⟨p1, o1, rfl, -, q1⟩ := (HR8.out.below HB6.out fun _ h => h).get k z hz
        obtain ⟨p2, o2, rfl, -, q2⟩ := (HR9.out.below HB6.out fun _ h => h).get k z hz
        have hlt' : (k : Int) < (wn : Int) := by omega
        have hk0 : (0 : Int) ≤ (k : Int) := by omega
        clear hz
        go_wp2
        go_region
        go_wp2
        go_roundw
        case measure => simp [intOf]; omega
        case rel => exact ⟨k + 1, by omega, by go_num, Lib.hid (below_drewN HB6.out 1)⟩
      · obtain rfl : k = wn := by omega
        have HW7 := Lib.hid (HW6.out.trans (HB6.out.mono HW6.out.size))
        clear HR8 HR9 HB6 HW6 HWN
        go_wp2_with fail
        go_loopw [11] (fun i wr => ∃ j : Nat, j ≤ 2 ∧ i = .int .i64 j ∧ Hid (Below ws.heap.size ws wr)) (fun i _ => 2 - (intOf i).toNat)
        case atStart => exact ⟨0, by omega, rfl, HW7⟩
        case round =>
          clear HW7
          obtain ⟨wq, rfl⟩ : ∃ wq, wq = wr := ⟨_, rfl⟩
          obtain ⟨j, hj, rfl, HBQ⟩ := hrel
          obtain ⟨d0, d1, -, -, d4, d5⟩ := HCL.out wq HBQ.out
          have hsq := HBQ.out.size
          by_cases hj2 : j < 2
          · have hj2' : (j : Int) < 2 := by omega
            go_wp2_with fail
            refine (Clean_g (HGx.out wq HBQ.out)).mono ?_
            rintro e w10 ⟨u, rfl, ho, hbb⟩
            have hcs := clean_sm5 (by omega : ta.nodes.length ≤ 500000)
            have hC10 : WTree w10 wq.heap.size u (cleanOf ta) := ho.soft hcs.2.1 hcs.2.2
            obtain ⟨Ac, cc, rfl⟩ := hC10.agg
            have hb10 : Below ws.heap.size ws w10 := HBQ.out.trans (hbb.mono hsq)
            clear d0 d1 d4 d5
            obtain ⟨d0, d1, -, -, d4, d5⟩ := HCL.out w10 hb10
            have hl0 : w.heap.size < w10.heap.size := Nat.lt_of_lt_of_le hlt0 hb10.size
            have hl7 : g7 < w10.heap.size := Nat.lt_of_lt_of_le hlt7 hb10.size
            have hs10 := hb10.size
            have HC10 := Lib.hid hC10
            have HQ10 := Lib.hid hbb
            have HB10 := Lib.hid hb10
            clear ho hbb hC10 hb10 hcs
            go_wp2_with fail
            obtain ⟨w11, hw11⟩ : ∃ w11, w11 = w10.alloc (.cells #[.slice Ac (cleanOf ta).nodes.length cc, .int .i64 (cleanOf ta).root] 24) := ⟨_, rfl⟩
            obtain ⟨g12, hg12⟩ : ∃ g12, g12 = w10.heap.size := ⟨_, rfl⟩
            have hB12 : Blk w11 g12 24 #[.slice Ac (cleanOf ta).nodes.length cc, .int .i64 (cleanOf ta).root] := by rw [hw11, hg12]; exact Blk.new _ _ _
            have hb1011 : Below w10.heap.size w10 w11 := by rw [hw11]; exact (Below.refl _ _).alloc (Nat.le_refl _) _
            have hq12 : wq.heap.size ≤ g12 := by rw [hg12]; exact HQ10.out.size
            rw [← hw11, ← hg12]
            have HB11 := Lib.hid (HB10.out.trans (hb1011.mono HB10.out.size))
            have HQ11 := Lib.hid (HQ10.out.trans (hb1011.mono HQ10.out.size))
            have HC11 := Lib.hid (HC10.out.below hb1011)
            have HB12 := Lib.hid hB12
            clear hw11 hg12 hB12 hb1011 HC10 HB10 HQ10 d0 d1 d4 d5 hs10 hl0 hl7
            refine (sub_g (HGx.out w11 HB11.out) node).mono ?_
            rintro e w13 ⟨u, x, is, rfl, ho, hi, hbb⟩
            obtain ⟨rfl, rfl⟩ := hi.is
            have hss := sub_small (node := node) (by omega : ta.nodes.length ≤ 500000)
            have hS13 : WTree w13 wq.heap.size u (subT ta node) := (ho.soft hss.2.1 hss.2.2).more fun b hb => ⟨Nat.le_trans HQ11.out.size hb.1, hb.2⟩
            obtain ⟨As, cs, rfl⟩ := hS13.agg
            have hb13 : Below ws.heap.size ws w13 := HB11.out.trans (hbb.mono HB11.out.size)
            obtain ⟨d0, d1, -, -, d4, d5⟩ := HCL.out w13 hb13
            have hl0 : w.heap.size < w13.heap.size := Nat.lt_of_lt_of_le hlt0 hb13.size
            have hl7 : g7 < w13.heap.size := Nat.lt_of_lt_of_le hlt7 hb13.size
            have hs13 := hb13.size
            have HS13 := Lib.hid hS13
            have HQ13 := Lib.hid (HQ11.out.trans (hbb.mono HQ11.out.size))
            have HC13 := Lib.hid (HC11.out.below hbb)
            have HB1213 := Lib.hid (HB12.out.below hbb HB12.out.lt)
            have HB13 := Lib.hid hb13
            clear ho hi hbb hS13 hb13 HB11 HQ11 HC11 HB12
            go_wp2_with fail
            obtain ⟨w14, hw14⟩ : ∃ w14, w14 = w13.alloc (.cells #[.slice As (subT ta node).nodes.length cs, .int .i64 (subT ta node).root] 24) := ⟨_, rfl⟩
            obtain ⟨g13, hg13⟩ : ∃ g13, g13 = w13.heap.size := ⟨_, rfl⟩
            have hBg13 : Blk w14 g13 24 #[.slice As (subT ta node).nodes.length cs, .int .i64 (subT ta node).root] := by rw [hw14, hg13]; exact Blk.new _ _ _
            have hb1314 : Below w13.heap.size w13 w14 := by rw [hw14]; exact (Below.refl _ _).alloc (Nat.le_refl _) _
            have hq13 : wq.heap.size ≤ g13 := by rw [hg13]; exact HQ13.out.size
            rw [← hw14, ← hg13]
            have HB14 := Lib.hid (HB13.out.trans (hb1314.mono HB13.out.size))
            have HQ14 := Lib.hid (HQ13.out.trans (hb1314.mono HQ13.out.size))
            have HC14 := Lib.hid (HC13.out.below hb1314)
            have HS14 := Lib.hid (HS13.out.below hb1314)
            have HB1214 := Lib.hid (HB1213.out.below hb1314 HB1213.out.lt)
            have HB1314 := Lib.hid hBg13
            clear hw14 hg13 hBg13 hb1314 HB13 HQ13 HC13 HS13 HB1213 d0 d1 d4 d5 hs13 hl0 hl7
            refine (rsub_g (HGa.out w14 HB14.out) node).mono ?_
            rintro e w15 ⟨u, x, is, rfl, ho, hi, hbb⟩
            obtain ⟨rfl, rfl⟩ := hi.is
            have hT15 : WTree w15 wq.heap.size u (subT ta node) := (ho.soft hss.2.1 hss.2.2).more fun b hb => ⟨Nat.le_trans HQ14.out.size hb.1, hb.2⟩
            obtain ⟨As2, cs2, rfl⟩ := hT15.agg
            have hb15 : Below ws.heap.size ws w15 := HB14.out.trans (hbb.mono HB14.out.size)
            obtain ⟨d0, d1, -, -, d4, d5⟩ := HCL.out w15 hb15
            have hl0 : w.heap.size < w15.heap.size := Nat.lt_of_lt_of_le hlt0 hb15.size
            have hl7 : g7 < w15.heap.size := Nat.lt_of_lt_of_le hlt7 hb15.size
            have hs15 := hb15.size
            have HT15 := Lib.hid hT15
            have HQ15 := Lib.hid (HQ14.out.trans (hbb.mono HQ14.out.size))
            have HC15 := Lib.hid (HC14.out.below hbb)
            have HS15 := Lib.hid (HS14.out.below hbb)
            have HB1215 := Lib.hid (HB1214.out.below hbb HB1214.out.lt)
            have HB1315 := Lib.hid (HB1314.out.below hbb HB1314.out.lt)
            have HB15 := Lib.hid hb15
            clear ho hi hbb hT15 hb15 HB14 HQ14 HC14 HS14 HB1214 HB1314
            go_wp2_with fail
            obtain ⟨w16, hw16⟩ : ∃ w16, w16 = w15.alloc (.cells #[.slice As2 (subT ta node).nodes.length cs2, .int .i64 (subT ta node).root] 24) := ⟨_, rfl⟩
            obtain ⟨g15, hg15⟩ : ∃ g15, g15 = w15.heap.size := ⟨_, rfl⟩
            have hBg15 : Blk w16 g15 24 #[.slice As2 (subT ta node).nodes.length cs2, .int .i64 (subT ta node).root] := by rw [hw16, hg15]; exact Blk.new _ _ _
            have hb1516 : Below w15.heap.size w15 w16 := by rw [hw16]; exact (Below.refl _ _).alloc (Nat.le_refl _) _
            rw [← hw16, ← hg15]
            have HB16 := Lib.hid (HB15.out.trans (hb1516.mono HB15.out.size))
            have HQ16 := Lib.hid (HQ15.out.trans (hb1516.mono HQ15.out.size))
            have HC16 := Lib.hid (HC15.out.below hb1516)
            have HS16 := Lib.hid (HS15.out.below hb1516)
            have HT16 := Lib.hid (HT15.out.below hb1516)
            have HB1216 := Lib.hid (HB1215.out.below hb1516 HB1215.out.lt)
            have HB1316 := Lib.hid (HB1315.out.below hb1516 HB1315.out.lt)
            have HB1516 := Lib.hid hBg15
            clear hw16 hg15 hBg15 hb1516 HB15 HQ15 HC15 HS15 HT15 HB1215 HB1315 d0 d1 d4 d5 hs15 hl0 hl7
            refine (Kids_g (HGx.out w16 HB16.out)).mono ?_
            rintro e wt ⟨u, rfl, ho, hbb⟩
            obtain ⟨ln, hln⟩ : ∃ ln, ln = (kidsOfT ta).length := ⟨_, rfl⟩
            have hlq := (ho.lo_ HQ16.out.size).base_ HQ16.out.size
            obtain ⟨Al, cl, rfl, -⟩ := own_slice ho.choose_spec.2.1
            rw [← hln] at hlq ⊢
            have HBt := Lib.hid (HB16.out.trans (hbb.mono HB16.out.size))
            have HQt := Lib.hid (HQ16.out.trans (hbb.mono HQ16.out.size))
            have HCt := Lib.hid (HC16.out.below hbb)
            have HSt := Lib.hid (HS16.out.below hbb)
            have HTt := Lib.hid (HT16.out.below hbb)
            have HB12t := Lib.hid (HB1216.out.below hbb HB1216.out.lt)
            have HB13t := Lib.hid (HB1316.out.below hbb HB1316.out.lt)
            have HB15t := Lib.hid (HB1516.out.below hbb HB1516.out.lt)
            have HLQ := Lib.hid hlq
            have HLN := Lib.hid hln
            have hlm : ln ≤ 4000 := by rw [hln]; exact kids_few hsa
            clear ho hbb hlq hln HB16 HQ16 HC16 HS16 HT16 HB1216 HB1316 HB1516
            obtain ⟨sb, hsb'⟩ : ∃ sb, sb = subB ta node := ⟨_, rfl⟩
            rw [← hsb']
            clear hsb'
            have HCT := Lib.hid (show ∀ wx, Below wt.heap.size wt wx → (wx.cell? ⟨g12, 0, none⟩ = some (.slice Ac (cleanOf ta).nodes.length cc) ∧ wx.cell? ⟨g12, 1, none⟩ = some (.int .i64 (cleanOf ta).root) ∧ wx.cell? ⟨g13, 0, none⟩ = some (.slice As (subT ta node).nodes.length cs) ∧ wx.cell? ⟨g13, 1, none⟩ = some (.int .i64 (subT ta node).root) ∧ wx.cell? ⟨g15, 0, none⟩ = some (.slice As2 (subT ta node).nodes.length cs2) ∧ wx.cell? ⟨g15, 1, none⟩ = some (.int .i64 (subT ta node).root)) ∧ wx.cell? ⟨w.heap.size, 0, none⟩ = some (.slice Aa ta.nodes.length ca) ∧ wx.cell? ⟨w.heap.size, 1, none⟩ = some (.int .i64 ta.root) ∧ wx.cell? ⟨w.heap.size + 1, 0, none⟩ = some (.slice Ab tb.nodes.length cb) ∧ wx.cell? ⟨w.heap.size + 1, 1, none⟩ = some (.int .i64 tb.root) ∧ wx.cell? ⟨g7, 0, none⟩ = some (.slice A3 ta.nodes.length c3) ∧ wx.cell? ⟨g7, 1, none⟩ = some (.int .i64 ta.root) from fun wx hx =>
              ⟨⟨(HB12t.out.below hx HB12t.out.lt).cell 0, (HB12t.out.below hx HB12t.out.lt).cell 1, (HB13t.out.below hx HB13t.out.lt).cell 0, (HB13t.out.below hx HB13t.out.lt).cell 1, (HB15t.out.below hx HB15t.out.lt).cell 0, (HB15t.out.below hx HB15t.out.lt).cell 1⟩, HCL.out wx (HBt.out.trans (hx.mono HBt.out.size))⟩)
            have HGat := Lib.hid (fun (wx : World) (hb : Below wt.heap.size wt wx) => HGa.out wx (HBt.out.trans (hb.mono HBt.out.size)))
            have HCr := Lib.hid (fun (wx : World) (hb : Below wt.heap.size wt wx) => rclean_has (HGat.out wx hb))
            have HEc := Lib.hid (show ∀ wx, Below wt.heap.size wt wx → ∀ v, HasT wx v (cleanOf ta) → Calls Tryd.prog 13 #[.agg #[.slice Ac (cleanOf ta).nodes.length cc, .int .i64 (cleanOf ta).root], v] wx fun e w' => e = .returned (.bool true) ∧ Below wx.heap.size wx w' from fun wx hb v hv => by
              have h := exact_g (HCt.out.below hb).has hv (fun _ h => h) (fun _ h => h) (by have := (clean_sm5 (by omega : ta.nodes.length ≤ 500000)).1; omega)
              simpa using h)
            have HEs := Lib.hid (show ∀ wx, Below wt.heap.size wt wx → Calls Tryd.prog 13 #[.agg #[.slice As (subT ta node).nodes.length cs, .int .i64 (subT ta node).root], .agg #[.slice As2 (subT ta node).nodes.length cs2, .int .i64 (subT ta node).root]] wx fun e w' => e = .returned (.bool true) ∧ Below wx.heap.size wx w' from fun wx hb => by
              have h := exact_g (HSt.out.below hb).has (HTt.out.below hb).has (fun _ h => h) (fun _ h => h) (by have := hss.1; omega)
              simpa using h)
            have HKr := Lib.hid (show ∀ wx, Below wt.heap.size wt wx → Calls Tryd.prog 38 #[.agg #[.slice Aa ta.nodes.length ca, .int .i64 ta.root]] wx fun e w' => (∃ u, e = .returned u ∧ RTrees w' (fun b => b < w'.heap.size) u (kidsOfT ta)) ∧ Below wx.heap.size wx w' from fun wx hb =>
              (rKids_g (HGat.out wx hb)).mono fun e w' h => by
                obtain ⟨u, he, ho, hbb⟩ := h
                exact ⟨⟨u, he, ho.read⟩, hbb⟩)
            have HAl := Lib.hid (show ∀ wx, Below wt.heap.size wt wx → ∀ v, RTrees wx (fun b => b < wx.heap.size) v (kidsOfT ta) → Calls Tryd.prog 37 #[.slice Al ln cl, v] wx fun e w' => e = .returned (.bool true) ∧ Below wx.heap.size wx w' from fun wx hb v hv =>
              all_eq (HLQ.out.below hb).read hv (fun _ h => h) (fun _ h => h) fun x hx => by
                have h1 := nodesSum_mem hx
                have h2 := kids_small hsa
                omega)
            go_wp2_with fail
            refine wp_region_inv (G := Unit) () UE UN
              [fun v _ => v = .agg #[.slice Ac (cleanOf ta).nodes.length cc, .int .i64 (cleanOf ta).root], fun v _ => v = .agg #[.slice Aa ta.nodes.length ca, .int .i64 ta.root], fun v s => HasT s.2 v (cleanOf ta), fun v _ => v = .bool true, fun v _ => v = .bool false, fun v _ => v = .bool false, fun v _ => v = .bool sb, fun v _ => v = .bool sb, fun v _ => v = .bool false, fun v _ => v = .bool false, fun v _ => v = .bool false, fun v _ => v = .agg #[.slice As (subT ta node).nodes.length cs, .int .i64 (subT ta node).root], fun v _ => v = .agg #[.slice As2 (subT ta node).nodes.length cs2, .int .i64 (subT ta node).root], fun v _ => v = .bool true, fun v _ => v = .bool false, fun v _ => v = .bool false, fun v _ => v = .bool false, fun v _ => v = .slice Al ln cl, fun v _ => v = .agg #[.slice Aa ta.nodes.length ca, .int .i64 ta.root], fun v s => RTrees s.2 (fun b => b < s.2.heap.size) v (kidsOfT ta), fun v _ => v = .bool true, fun v _ => v = .bool false, fun v _ => v = .bool false]
              (by kernel_rfl) UE.trans (UE.refl _) (by kernel_rfl) (by kernel_rfl) (fun _ => trivial) ?rstt21 ?rstepst21 ?rfint21
            case rstt21 =>
              intro R hR v s s' _ h hr
              simp only [List.mem_cons, List.not_mem_nil, or_false] at hR
              rcases hR with rfl | rfl | rfl | rfl | rfl | rfl | rfl | rfl | rfl | rfl | rfl | rfl | rfl | rfl | rfl | rfl | rfl | rfl | rfl | rfl | rfl | rfl | rfl
              · exact hr
              · exact hr
              · exact HasT.below hr h
              · exact hr
              · exact hr
              · exact hr
              · exact hr
              · exact hr
              · exact hr
              · exact hr
              · exact hr
              · exact hr
              · exact hr
              · exact hr
              · exact hr
              · exact hr
              · exact hr
              · exact hr
              · exact hr
              · exact (hr.below h fun _ hb => hb).more fun b hb => Nat.lt_of_lt_of_le hb h.size
              · exact hr
              · exact hr
              · exact hr
            case rstepst21 =>
              refine ⟨?_, ?_, ?_, ?_, ?_, ?_, ?_, ?_, ?_, ?_, ?_, ?_, ?_, ?_, ?_, ?_, ?_, ?_, ?_, ?_, ?_, ?_, ?_, trivial⟩
              · intro a γ wx hB hE hN hW K hK
                have hw := UE.start hE
                have h12 : a.tmps[12]? = some (.pointer (some ⟨g12, 0, none⟩)) := (hB.at_ 12 (of_decide_eq_true (by kernel_rfl))).trans rfl
                have hc := HCT.out _ hw
                clear hB hN hE
                go_simp
                exact hK (.agg #[.slice Ac (cleanOf ta).nodes.length cc, .int .i64 (cleanOf ta).root]) () _ (UE.refl _) (fun _ _ h => h) rfl
              · intro a γ wx hB hE hN hW K hK
                have hw := UE.start hE
                have h3 : a.tmps[3]? = some (.pointer (some ⟨w.heap.size, 0, none⟩)) := (hB.at_ 3 (of_decide_eq_true (by kernel_rfl))).trans rfl
                have hc := HCT.out _ hw
                clear hB hN hE
                go_simp
                exact hK (.agg #[.slice Aa ta.nodes.length ca, .int .i64 ta.root]) () _ (UE.refl _) (fun _ _ h => h) rfl
              · intro a γ wx hB hE hN hW K hK
                have hw := UE.start hE
                obtain ⟨⟨_, h118, rfl⟩, -⟩ := hW
                clear hB hN hE
                go_simp
                refine (HCr.out _ hw).mono ?_
                rintro e w' ⟨⟨u, rfl, hu⟩, hbb⟩
                exact hK _ () _ hbb (fun _ _ h => h) hu
              · intro a γ wx hB hE hN hW K hK
                have hw := UE.start hE
                obtain ⟨⟨_, h117, rfl⟩, ⟨v119, h119, r119⟩, -⟩ := hW
                clear hB hN hE
                go_simp
                refine (HEc.out _ hw _ r119).mono ?_
                rintro e w' ⟨rfl, hbb⟩
                exact hK _ () _ hbb (fun _ _ h => h) rfl
              · intro a γ wx hB hE hN hW K hK
                have hw := UE.start hE
                obtain ⟨⟨_, h120, rfl⟩, -⟩ := hW
                clear hB hN hE
                go_simp
                exact hK (.bool false) () _ (UE.refl _) (fun _ _ h => h) rfl
              · intro a γ wx hB hE hN hW K hK
                have hw := UE.start hE
                obtain ⟨⟨_, h121, rfl⟩, -⟩ := hW
                clear hB hN hE
                go_simp
                exact hK (.bool false) () _ (UE.refl _) (fun _ _ h => h) rfl
              · intro a γ wx hB hE hN hW K hK
                have hw := UE.start hE
                obtain ⟨⟨_, h122, rfl⟩, -⟩ := hW
                have h14 : a.tmps[14]? = some (.bool sb) := (hB.at_ 14 (of_decide_eq_true (by kernel_rfl))).trans rfl
                clear hB hN hE
                go_simp
                exact hK (.bool sb) () _ (UE.refl _) (fun _ _ h => h) rfl
              · intro a γ wx hB hE hN hW K hK
                have hw := UE.start hE
                obtain ⟨⟨_, h122, rfl⟩, -⟩ := hW
                have h16 : a.tmps[16]? = some (.bool sb) := (hB.at_ 16 (of_decide_eq_true (by kernel_rfl))).trans rfl
                clear hB hN hE
                go_simp
                exact hK (.bool sb) () _ (UE.refl _) (fun _ _ h => h) rfl
              · intro a γ wx hB hE hN hW K hK
                have hw := UE.start hE
                obtain ⟨⟨_, h123, rfl⟩, ⟨_, h124, rfl⟩, ⟨_, h122, rfl⟩, -⟩ := hW
                clear hB hN hE
                go_simp
                exact hK (.bool false) () _ (UE.refl _) (fun _ _ h => h) rfl
              · intro a γ wx hB hE hN hW K hK
                have hw := UE.start hE
                obtain ⟨⟨_, h122, rfl⟩, ⟨_, h125, rfl⟩, -⟩ := hW
                clear hB hN hE
                go_simp
                exact hK (.bool false) () _ (UE.refl _) (fun _ _ h => h) rfl
              · intro a γ wx hB hE hN hW K hK
                have hw := UE.start hE
                obtain ⟨⟨_, h126, rfl⟩, -⟩ := hW
                clear hB hN hE
                go_simp
                exact hK (.bool false) () _ (UE.refl _) (fun _ _ h => h) rfl
              · intro a γ wx hB hE hN hW K hK
                have hw := UE.start hE
                obtain ⟨⟨_, h127, rfl⟩, -⟩ := hW
                have h13 : a.tmps[13]? = some (.pointer (some ⟨g13, 0, none⟩)) := (hB.at_ 13 (of_decide_eq_true (by kernel_rfl))).trans rfl
                have hc := HCT.out _ hw
                clear hB hN hE
                go_simp
                exact hK (.agg #[.slice As (subT ta node).nodes.length cs, .int .i64 (subT ta node).root]) () _ (UE.refl _) (fun _ _ h => h) rfl
              · intro a γ wx hB hE hN hW K hK
                have hw := UE.start hE
                obtain ⟨⟨_, h127, rfl⟩, -⟩ := hW
                have h15 : a.tmps[15]? = some (.pointer (some ⟨g15, 0, none⟩)) := (hB.at_ 15 (of_decide_eq_true (by kernel_rfl))).trans rfl
                have hc := HCT.out _ hw
                clear hB hN hE
                go_simp
                exact hK (.agg #[.slice As2 (subT ta node).nodes.length cs2, .int .i64 (subT ta node).root]) () _ (UE.refl _) (fun _ _ h => h) rfl
              · intro a γ wx hB hE hN hW K hK
                have hw := UE.start hE
                obtain ⟨⟨_, h128, rfl⟩, ⟨_, h129, rfl⟩, ⟨_, h127, rfl⟩, -⟩ := hW
                clear hB hN hE
                go_simp
                refine (HEs.out _ hw).mono ?_
                rintro e w' ⟨rfl, hbb⟩
                exact hK _ () _ hbb (fun _ _ h => h) rfl
              · intro a γ wx hB hE hN hW K hK
                have hw := UE.start hE
                obtain ⟨⟨_, h130, rfl⟩, ⟨_, h127, rfl⟩, -⟩ := hW
                clear hB hN hE
                go_simp
                exact hK (.bool false) () _ (UE.refl _) (fun _ _ h => h) rfl
              · intro a γ wx hB hE hN hW K hK
                have hw := UE.start hE
                obtain ⟨⟨_, h127, rfl⟩, ⟨_, h131, rfl⟩, -⟩ := hW
                clear hB hN hE
                go_simp
                exact hK (.bool false) () _ (UE.refl _) (fun _ _ h => h) rfl
              · intro a γ wx hB hE hN hW K hK
                have hw := UE.start hE
                obtain ⟨⟨_, h132, rfl⟩, -⟩ := hW
                clear hB hN hE
                go_simp
                exact hK (.bool false) () _ (UE.refl _) (fun _ _ h => h) rfl
              · intro a γ wx hB hE hN hW K hK
                have hw := UE.start hE
                obtain ⟨⟨_, h133, rfl⟩, -⟩ := hW
                have h17 : a.tmps[17]? = some (.slice Al ln cl) := (hB.at_ 17 (of_decide_eq_true (by kernel_rfl))).trans rfl
                clear hB hN hE
                go_simp
                exact hK (.slice Al ln cl) () _ (UE.refl _) (fun _ _ h => h) rfl
              · intro a γ wx hB hE hN hW K hK
                have hw := UE.start hE
                obtain ⟨⟨_, h133, rfl⟩, -⟩ := hW
                have h3 : a.tmps[3]? = some (.pointer (some ⟨w.heap.size, 0, none⟩)) := (hB.at_ 3 (of_decide_eq_true (by kernel_rfl))).trans rfl
                have hc := HCT.out _ hw
                clear hB hN hE
                go_simp
                exact hK (.agg #[.slice Aa ta.nodes.length ca, .int .i64 ta.root]) () _ (UE.refl _) (fun _ _ h => h) rfl
              · intro a γ wx hB hE hN hW K hK
                have hw := UE.start hE
                obtain ⟨⟨_, h135, rfl⟩, ⟨_, h133, rfl⟩, -⟩ := hW
                clear hB hN hE
                go_simp
                refine (HKr.out _ hw).mono ?_
                rintro e w' ⟨⟨u, rfl, hu⟩, hbb⟩
                exact hK _ () _ hbb (fun _ _ h => h) hu
              · intro a γ wx hB hE hN hW K hK
                have hw := UE.start hE
                obtain ⟨⟨_, h134, rfl⟩, ⟨v136, h136, r136⟩, -, ⟨_, h133, rfl⟩, -⟩ := hW
                clear hB hN hE
                go_simp
                refine (HAl.out _ hw _ r136).mono ?_
                rintro e w' ⟨rfl, hbb⟩
                exact hK _ () _ hbb (fun _ _ h => h) rfl
              · intro a γ wx hB hE hN hW K hK
                have hw := UE.start hE
                obtain ⟨⟨_, h137, rfl⟩, ⟨_, h133, rfl⟩, -⟩ := hW
                clear hB hN hE
                go_simp
                exact hK (.bool false) () _ (UE.refl _) (fun _ _ h => h) rfl
              · intro a γ wx hB hE hN hW K hK
                have hw := UE.start hE
                obtain ⟨⟨_, h133, rfl⟩, ⟨_, h138, rfl⟩, -⟩ := hW
                clear hB hN hE
                go_simp
                exact hK (.bool false) () _ (UE.refl _) (fun _ _ h => h) rfl
            intro a' γ wz hB hE hK
            obtain ⟨_, h117, rfl⟩ := hK 0 (of_decide_eq_true (by kernel_rfl))
            obtain ⟨_, h118, rfl⟩ := hK 1 (of_decide_eq_true (by kernel_rfl))
            obtain ⟨v119, h119, r119⟩ := hK 2 (of_decide_eq_true (by kernel_rfl))
            obtain ⟨_, h120, rfl⟩ := hK 3 (of_decide_eq_true (by kernel_rfl))
            obtain ⟨_, h121, rfl⟩ := hK 4 (of_decide_eq_true (by kernel_rfl))
            obtain ⟨_, h122, rfl⟩ := hK 5 (of_decide_eq_true (by kernel_rfl))
            obtain ⟨_, h123, rfl⟩ := hK 6 (of_decide_eq_true (by kernel_rfl))
            obtain ⟨_, h124, rfl⟩ := hK 7 (of_decide_eq_true (by kernel_rfl))
            obtain ⟨_, h125, rfl⟩ := hK 8 (of_decide_eq_true (by kernel_rfl))
            obtain ⟨_, h126, rfl⟩ := hK 9 (of_decide_eq_true (by kernel_rfl))
            obtain ⟨_, h127, rfl⟩ := hK 10 (of_decide_eq_true (by kernel_rfl))
            obtain ⟨_, h128, rfl⟩ := hK 11 (of_decide_eq_true (by kernel_rfl))
            obtain ⟨_, h129, rfl⟩ := hK 12 (of_decide_eq_true (by kernel_rfl))
            obtain ⟨_, h130, rfl⟩ := hK 13 (of_decide_eq_true (by kernel_rfl))
            obtain ⟨_, h131, rfl⟩ := hK 14 (of_decide_eq_true (by kernel_rfl))
            obtain ⟨_, h132, rfl⟩ := hK 15 (of_decide_eq_true (by kernel_rfl))
            obtain ⟨_, h133, rfl⟩ := hK 16 (of_decide_eq_true (by kernel_rfl))
            obtain ⟨_, h134, rfl⟩ := hK 17 (of_decide_eq_true (by kernel_rfl))
            obtain ⟨_, h135, rfl⟩ := hK 18 (of_decide_eq_true (by kernel_rfl))
            obtain ⟨v136, h136, r136⟩ := hK 19 (of_decide_eq_true (by kernel_rfl))
            obtain ⟨_, h137, rfl⟩ := hK 20 (of_decide_eq_true (by kernel_rfl))
            obtain ⟨_, h138, rfl⟩ := hK 21 (of_decide_eq_true (by kernel_rfl))
            obtain ⟨_, h139, rfl⟩ := hK 22 (of_decide_eq_true (by kernel_rfl))
            have ha := hB.eq [(117, .agg #[.slice Ac (cleanOf ta).nodes.length cc, .int .i64 (cleanOf ta).root]), (118, .agg #[.slice Aa ta.nodes.length ca, .int .i64 ta.root]), (119, v119), (120, .bool true), (121, .bool false), (122, .bool false), (123, .bool sb), (124, .bool sb), (125, .bool false), (126, .bool false), (127, .bool false), (128, .agg #[.slice As (subT ta node).nodes.length cs, .int .i64 (subT ta node).root]), (129, .agg #[.slice As2 (subT ta node).nodes.length cs2, .int .i64 (subT ta node).root]), (130, .bool true), (131, .bool false), (132, .bool false), (133, .bool false), (134, .slice Al ln cl), (135, .agg #[.slice Aa ta.nodes.length ca, .int .i64 ta.root]), (136, v136), (137, .bool true), (138, .bool false), (139, .bool false)] rfl (by kernel_rfl) ⟨h117, h118, h119, h120, h121, h122, h123, h124, h125, h126, h127, h128, h129, h130, h131, h132, h133, h134, h135, h136, h137, h138, h139, trivial⟩
            subst ha
            have hwz := UE.start hE
            clear hK hB hE h117 h118 h119 h120 h121 h122 h123 h124 h125 h126 h127 h128 h129 h130 h131 h132 h133 h134 h135 h136 h137 h138 h139
            simp only [putAll, List.foldl_cons, List.foldl_nil, List.setIfInBounds_toArray, List.set_cons_succ, List.set_cons_zero]
            clear r119 r136 HCr HEc HEs HKr HAl HGat
            obtain ⟨⟨m0, m1, m2, m3, -, -⟩, -⟩ := HCT.out wz hwz
            have hP0 : SP wq.heap.size wt wz := SP.of_below hwz HQt.out.size
            have HP0 := Lib.hid hP0
            have HCz := Lib.hid (HCt.out.below hwz)
            clear hwz hP0
            go_wp2_with fail
            refine (spoil_g HCz.out (Nat.le_trans HQt.out.size HP0.out.below.size)).mono ?_
            rintro e w20 ⟨rfl, hs1, hs2, hs3⟩
            have hP1 := HP0.out.trans ⟨hs1, hs2, hs3⟩
            obtain ⟨-, z13, -, -⟩ := hP1.cells (p := ⟨g13, 0, none⟩) (q := ⟨g13, 1, none⟩) HB13t.out.lt (HB13t.out.cell 0) ⟨_, _, _, rfl⟩ HB13t.out.lt (HB13t.out.cell 1)
            obtain ⟨m2, z, m3, hzz⟩ := hP1.cells (p := ⟨g13, 0, none⟩) (q := ⟨g13, 1, none⟩) HB13t.out.lt (HB13t.out.cell 0) ⟨_, _, _, rfl⟩ HB13t.out.lt (HB13t.out.cell 1)
            obtain ⟨ts, hts⟩ := hP1.wtree HSt.out hzz
            have HTS := Lib.hid hts
            have HP1 := Lib.hid hP1
            clear hs1 hs2 hs3 hP1 hts hzz m0 m1 HP0 HCz
            go_wp2_with fail
            refine (spoil_g HTS.out (Nat.le_trans HQt.out.size HP1.out.below.size)).mono ?_
            rintro e w21 ⟨rfl, hs1, hs2, hs3⟩
            have HP2 := Lib.hid (HP1.out.trans ⟨hs1, hs2, hs3⟩)
            clear hs1 hs2 hs3 m2 m3 HTS HP1
            go_wp2_with fail
            go_loopw [18] (fun i wr => ∃ q : Nat, q ≤ ln ∧ i = .int .i64 q ∧ Hid (SP wq.heap.size wt wr)) (fun i _ => ln - (intOf i).toNat)
            case atStart => exact ⟨0, Nat.zero_le _, rfl, HP2⟩
            case round =>
              clear HP2
              obtain ⟨wp, rfl⟩ : ∃ wp, wp = wr := ⟨_, rfl⟩
              obtain ⟨q, hq, rfl, HP⟩ := hrel
              by_cases hql : q < ln
              · obtain ⟨tq, htq⟩ : ∃ tq, (kidsOfT ta)[q]? = some tq := ⟨_, List.getElem?_eq_getElem (by rw [← HLN.out]; exact hql)⟩
                obtain ⟨pb, po, pc, pA, pe, hv, hpS, hpt, q0, q1⟩ := HLQ.out.soft.get q tq htq
                injection hv with hv1 hv2 hv3
                subst hv1 hv3
                obtain ⟨m0, z, m1, hzz⟩ := HP.out.cells (p := ⟨pb, po + q * 2, none⟩) (q := ⟨pb, po + q * 2 + 1, none⟩) hpS.2.1 q0 ⟨_, _, _, rfl⟩ hpS.2.1 q1
                obtain ⟨ts, hts⟩ := HP.out.wtree hpt hzz
                have HTS := Lib.hid hts
                have hql' : (q : Int) < (ln : Int) := by omega
                have hq0 : (0 : Int) ≤ (q : Int) := by omega
                clear hv2 hpS hpt q0 q1 hzz hts htq
                go_wp2_with fail
                refine (spoil_g HTS.out (Nat.le_trans HQt.out.size HP.out.below.size)).mono ?_
                rintro e w22 ⟨rfl, hs1, hs2, hs3⟩
                have HP3 := Lib.hid (HP.out.trans ⟨hs1, hs2, hs3⟩)
                clear hs1 hs2 hs3 m0 m1 HTS
                go_wp2_with fail
                go_roundw
                case measure => simp [intOf]; omega
                case rel => exact ⟨q + 1, by omega, by go_num, HP3⟩
              · obtain rfl : q = ln := by omega
                go_wp2_with fail
                go_roundw
                case measure => simp [intOf]; omega
                case rel => exact ⟨j + 1, by omega, by go_num, Lib.hid (HBt.out.trans (HP.out.below.mono hsq))⟩
          · obtain rfl : j = 2 := by omega
            go_wp2_with fail
            have hE := exact_g (HXs.out.below HBQ.out) (HGa.out wq HBQ.out).given.read (fun _ h => h) (HGa.out wq HBQ.out).given.old (by omega)
            simp only [decide_true] at hE
            refine hE.mono ?_
            rintro e w30 ⟨rfl, hbb⟩
            have HB30 := Lib.hid (HBQ.out.trans (hbb.mono hsq))
            clear hE hbb
            go_wp2_with fail
            refine (works_g _ (HK.out _ (HWs.out.trans (HB30.out.mono HWs.out.size)))).mono ?_
            rintro e w31 ⟨rfl, hbb⟩
            go_wp2_with fail
            go_ret
            exact ⟨rfl, HWs.out.trans ((HB30.out.trans (hbb.mono HB30.out.size)).mono HWs.out.size)⟩
end Go.Proofs.YtlmlbdmbgfclkaaDoor

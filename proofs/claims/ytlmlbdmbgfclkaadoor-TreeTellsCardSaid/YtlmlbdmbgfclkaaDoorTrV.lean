/- The contracts of tree's small functions, on: Clean, May, leaf, Empty, Text, Rule. -/
import Derived.Test.YtlmlbdmbgfclkaaDoorTrU
namespace Go.Proofs.YtlmlbdmbgfclkaaDoor
open Go.RowKit
open Classical

theorem results_cell1 {P : Program} {fn : Func} {p : Tmp} {ty : TypeId} (h : fn.results = #[.cell p ty]) (tmps : Array Value) (w : World) (g : Nat) (t : TypeId) (cs : Array Value) (d : TypeDesc)
    (hp : tmps.getD p undef = .pointer (some ⟨g, 0, none⟩)) (hg : Blk w g t cs) (hu : P.underlying ty = some d) (hd : (match d with | .struct _ | .array _ _ => true | _ => false) = true) (hi : (P.info? ty).map (·.size) = some cs.size) :
    (results fn tmps).run P w = .ok (.agg cs) w := results_cell_row h tmps w g t cs (0, 0) d hp hg hu hd hi
theorem Blk.set2 {w : World} {g : Nat} {t : TypeId} {a0 a1 : Value} (h : Blk w g t #[a0, a1]) (b0 b1 : Value) : Blk ((w.setCell ⟨g, 0, none⟩ b0).setCell ⟨g, 1, none⟩ b1) g t #[b0, b1] := by
  have h2 := (h.set_ 0 b0).set_ 1 b1
  simpa only [List.setIfInBounds_toArray, List.set_cons_zero, List.set_cons_succ] using h2

set_option maxHeartbeats 2000000 in
theorem Clean_g {t : Tr} {v : Value} {S : Nat → Prop} {w : World} (h : Given t v S w) :
    Calls Tryd.prog 12 #[v] w fun e w' => ∃ u, e = .returned u ∧ OwnTree w' w.heap.size u (cleanOf t) ∧ Below w.heap.size w w' := by
  have HS := Lib.hid (fun (wx : World) (hx : Below w.heap.size w wx) => sub_g (h.below hx) t.root)
  have hcl : ∀ x is, IsSub t t.root x is → x = cleanOf t := by
    intro x is hs
    unfold cleanOf
    by_cases hr : RightT t
    · rw [if_pos hr]
      exact (hs.yes hr hr.shape.pos (by have := hr.shape.top; omega)).2
    · rw [if_neg hr]
      exact (hs.no fun h => hr h.1).2
  have HCL := Lib.hid hcl
  obtain ⟨nv, rfl, hns, hr1, hr2⟩ := h.read
  clear h hcl
  go_enter Tryd.func12, Tryd.ntmps12
  go_wp2_with (first
    | (go_at_call 24
       refine (HS.out _ (((Below.refl _ _).alloc (Nat.le_refl _) _).alloc (by simp) _)).mono ?_
       rintro e w1 ⟨u, x, is, rfl, ⟨xv, rfl, kvs, ho0⟩, hsub, hb1⟩
       obtain ⟨A2, c2, rfl, _, _, _⟩ := own_slice ho0.row
       have ho : OwnNodes w1 34 _ (fun _ => True) (.slice A2 x.nodes.length c2) x.nodes := ⟨kvs, ho0⟩
       have hb01 : Below w.heap.size w w1 := (((Below.refl _ _).alloc (Nat.le_refl _) _).alloc (by simp) _).trans (hb1.mono (by simp <;> omega))
       have hB1 : Blk w1 (w.heap.size + 1) 24 #[.slice none 0 0, .int .i64 0] := (Blk.new1 _ _ _ _).below hb1 (by simp)
       have e0 : ∀ o : Obj, (w1.alloc o).cell? ⟨w.heap.size + 1, 0, none⟩ = some (.slice none 0 0) := fun o => (hB1.alloc o).cell 0
       have e1 : ∀ o : Obj, (w1.alloc o).cell? ⟨w.heap.size + 1, 1, none⟩ = some (.int .i64 0) := fun o => (hB1.alloc o).cell 1
       have f0 : ∀ o : Obj, (w1.alloc o).frozen? ⟨w.heap.size + 1, 0, none⟩ = false := fun o => (hB1.alloc o).frozen 0
       have f1 : ∀ o : Obj, (w1.alloc o).frozen? ⟨w.heap.size + 1, 1, none⟩ = false := fun o => (hB1.alloc o).frozen 1
       have HB1 := Lib.hid hB1
       have HO := Lib.hid ho
       have HSUB := Lib.hid hsub
       clear hb1 hB1 ho hsub)
    | fail)
  have hO1 := HO.out
  simp only [World.size_alloc] at hO1
  have hO2 := (hO1.below ((Below.refl _ _).alloc (Nat.le_refl _) (.cells #[.slice A2 x.nodes.length c2, .int .i64 x.root] 24))).low (g := w.heap.size + 1) (grown_set2 _ _ 0 1 (.slice A2 x.nodes.length c2) (.int .i64 x.root)) (by omega)
  have hB2 := (HB1.out.alloc (.cells #[.slice A2 x.nodes.length c2, .int .i64 x.root] 24)).set2 (.slice A2 x.nodes.length c2) (.int .i64 x.root)
  have hb2 := ((hb01.alloc hb01.size (.cells #[.slice A2 x.nodes.length c2, .int .i64 x.root] 24)).setCell (p := ⟨w.heap.size + 1, 0, none⟩) (by simp) (.slice A2 x.nodes.length c2)).setCell (p := ⟨w.heap.size + 1, 1, none⟩) (by simp) (.int .i64 x.root)
  refine bodyPost_ret (results_cell1 rfl _ _ (w.heap.size + 1) _ _ _ rfl hB2 Tryd.underlying24 rfl tree_size) rfl ?_
  rw [← HCL.out x is HSUB.out]
  exact ⟨_, rfl, ⟨.slice A2 x.nodes.length c2, rfl, hO2.base_ (by omega)⟩, hb2⟩

set_option maxHeartbeats 2000000 in
theorem leaf_g {d : Dt} (hd : d.Ok) (w : World) :
    Calls Tryd.prog 48 #[.agg (nodeCells ⟨d, []⟩ (.slice none 0 0)).toArray] w fun e w' => ∃ u, e = .returned u ∧ OwnTree w' w.heap.size u ⟨[⟨d, []⟩], 0⟩ ∧ Below w.heap.size w w' := by
  simp only [nodeCells]
  have HD := Lib.hid hd
  clear hd
  go_enter Tryd.func48, Tryd.ntmps48
  go_wp2
  obtain ⟨C, hC⟩ : ∃ C : List Value, C = [.int .u8 d.kind, .int .u64 d.s0, .int .u64 d.s1, .int .u64 d.s2, .int .u64 d.s3, .string ⟨d.text.toArray⟩, .int .i64 d.min, .int .i64 d.max, .slice none 0 0] := ⟨_, rfl⟩
  have hB : Blk (((w.alloc (.cells C.toArray 34)).alloc (.cells #[.slice (some ⟨w.heap.size + 1 + 1, 0, none⟩) 1 1, .int .i64 0] 24)).alloc (.cells C.toArray 34)) (w.heap.size + 1) 24 #[.slice (some ⟨w.heap.size + 1 + 1, 0, none⟩) 1 1, .int .i64 0] := (Blk.new1 _ _ _ _).alloc _
  have hO := World.ownsRow_lit (base := w.heap.size) (e := 34) (size := 9) ((w.alloc (.cells C.toArray 34)).alloc (.cells #[.slice (some ⟨w.heap.size + 1 + 1, 0, none⟩) 1 1, .int .i64 0] 24)) C.toArray 1 (by simp; omega) (by simp [maxLen]) (by rw [hC]; rfl)
  simp only [World.size_alloc] at hO
  have hN : OwnNodes (((w.alloc (.cells C.toArray 34)).alloc (.cells #[.slice (some ⟨w.heap.size + 1 + 1, 0, none⟩) 1 1, .int .i64 0] 24)).alloc (.cells C.toArray 34)) 34 w.heap.size (fun _ => True) (.slice (some ⟨w.heap.size + 1 + 1, 0, none⟩) 1 1) [⟨d, []⟩] := by
    refine ⟨[.slice none 0 0], rfl, ?_, fun j n kv h1 h2 => ?_⟩
    · have e : nodesCells [⟨d, []⟩] [.slice none 0 0] = C := by rw [hC]; rfl
      rw [e]
      exact hO
    · cases j with
      | succ j => simp at h1
      | zero =>
        simp at h1 h2
        subst h1; subst h2
        exact ⟨Row.nil_ _ _ _, HD.out⟩
  rw [hC] at hB hN
  refine bodyPost_ret (results_cell1 rfl _ _ (w.heap.size + 1) _ _ _ rfl hB Tryd.underlying24 rfl tree_size) rfl ?_
  exact ⟨_, rfl, ⟨_, rfl, hN⟩, (((Below.refl _ _).alloc (Nat.le_refl _) _).alloc (by simp) _).alloc (by simp <;> omega) _⟩

set_option maxHeartbeats 2000000 in
theorem Empty_g (w : World) :
    Calls Tryd.prog 20 #[] w fun e w' => ∃ u, e = .returned u ∧ OwnTree w' w.heap.size u ⟨[⟨(default : Dt), []⟩], 0⟩ ∧ Below w.heap.size w w' := by
  have hL := fun (wx : World) => leaf_g (d := (default : Dt)) ⟨by decide, by decide, by decide, by decide, by decide⟩ wx
  simp only [nodeCells] at hL
  have HL := Lib.hid hL
  clear hL
  go_enter Tryd.func20, Tryd.ntmps20
  go_wp2_with (first
    | (go_at_call 48
       refine (HL.out _).mono ?_
       rintro e w1 ⟨u, rfl, ⟨xv, rfl, kvs, ho0⟩, hb1⟩
       obtain ⟨A2, c2, rfl, _, _, _⟩ := own_slice ho0.row
       have ho : OwnNodes w1 34 _ (fun _ => True) (.slice A2 1 c2) [⟨(default : Dt), []⟩] := ⟨kvs, ho0⟩
       have hb01 : Below w.heap.size w w1 := ((Below.refl _ _).alloc (Nat.le_refl _) _).trans (hb1.mono (by simp <;> omega))
       have hB1 : Blk w1 w.heap.size 24 #[.slice none 0 0, .int .i64 0] := (Blk.new w _ _).below hb1 (by simp)
       have e0 : w1.cell? ⟨w.heap.size, 0, none⟩ = some (.slice none 0 0) := hB1.cell 0
       have e1 : w1.cell? ⟨w.heap.size, 1, none⟩ = some (.int .i64 0) := hB1.cell 1
       have f0 := hB1.frozen 0
       have f1 := hB1.frozen 1
       have HB1 := Lib.hid hB1
       have HO := Lib.hid ho
       clear hb1 hB1 ho)
    | fail)
  have hO1 := HO.out
  simp only [World.size_alloc] at hO1
  have hO2 := hO1.low (g := w.heap.size) (grown_set2 _ _ 0 1 (.slice A2 1 c2) (.int .i64 0)) (by omega)
  have hB2 := HB1.out.set2 (.slice A2 1 c2) (.int .i64 0)
  have hb2 := (hb01.setCell (p := ⟨w.heap.size, 0, none⟩) (by simp) (.slice A2 1 c2)).setCell (p := ⟨w.heap.size, 1, none⟩) (by simp) (.int .i64 0)
  refine bodyPost_ret (results_cell1 rfl _ _ w.heap.size _ _ _ rfl hB2 Tryd.underlying24 rfl tree_size) rfl ?_
  exact ⟨_, rfl, ⟨.slice A2 1 c2, rfl, hO2.base_ (by omega)⟩, hb2⟩
def textD (s : List UInt8) : Dt := ⟨2, 0, 0, 0, 0, s, 0, 0⟩
def ruleD (s : List UInt8) : Dt := ⟨3, 0, 0, 0, 0, s, 0, 0⟩

set_option maxHeartbeats 2000000 in
theorem Text_g (s : List UInt8) (hs : s.length ≤ maxLen) (w : World) :
    Calls Tryd.prog 18 #[.string ⟨s.toArray⟩] w fun e w' => ∃ u, e = .returned u ∧ OwnTree w' w.heap.size u ⟨[⟨(textD s), []⟩], 0⟩ ∧ Below w.heap.size w w' := by
  have hL := fun (wx : World) => leaf_g (d := (textD s)) ⟨by simp [textD], by simp [textD], hs, by simp [textD], by simp [textD]⟩ wx
  simp only [nodeCells, textD] at hL
  have HL := Lib.hid hL
  clear hL
  go_enter Tryd.func18, Tryd.ntmps18
  go_wp2_with (first
    | (go_at_call 48
       refine (HL.out _).mono ?_
       rintro e w1 ⟨u, rfl, ⟨xv, rfl, kvs, ho0⟩, hb1⟩
       obtain ⟨A2, c2, rfl, _, _, _⟩ := own_slice ho0.row
       have ho : OwnNodes w1 34 _ (fun _ => True) (.slice A2 1 c2) [⟨(textD s), []⟩] := ⟨kvs, ho0⟩
       have hb01 : Below w.heap.size w w1 := ((Below.refl _ _).alloc (Nat.le_refl _) _).trans (hb1.mono (by simp <;> omega))
       have hB1 : Blk w1 w.heap.size 24 #[.slice none 0 0, .int .i64 0] := (Blk.new w _ _).below hb1 (by simp)
       have e0 : w1.cell? ⟨w.heap.size, 0, none⟩ = some (.slice none 0 0) := hB1.cell 0
       have e1 : w1.cell? ⟨w.heap.size, 1, none⟩ = some (.int .i64 0) := hB1.cell 1
       have f0 := hB1.frozen 0
       have f1 := hB1.frozen 1
       have HB1 := Lib.hid hB1
       have HO := Lib.hid ho
       clear hb1 hB1 ho)
    | fail)
  have hO1 := HO.out
  simp only [World.size_alloc] at hO1
  have hO2 := hO1.low (g := w.heap.size) (grown_set2 _ _ 0 1 (.slice A2 1 c2) (.int .i64 0)) (by omega)
  have hB2 := HB1.out.set2 (.slice A2 1 c2) (.int .i64 0)
  have hb2 := (hb01.setCell (p := ⟨w.heap.size, 0, none⟩) (by simp) (.slice A2 1 c2)).setCell (p := ⟨w.heap.size, 1, none⟩) (by simp) (.int .i64 0)
  refine bodyPost_ret (results_cell1 rfl _ _ w.heap.size _ _ _ rfl hB2 Tryd.underlying24 rfl tree_size) rfl ?_
  exact ⟨_, rfl, ⟨.slice A2 1 c2, rfl, hO2.base_ (by omega)⟩, hb2⟩

set_option maxHeartbeats 2000000 in
theorem Rule_g (s : List UInt8) (hs : s.length ≤ maxLen) (w : World) :
    Calls Tryd.prog 40 #[.string ⟨s.toArray⟩] w fun e w' => ∃ u, e = .returned u ∧ OwnTree w' w.heap.size u ⟨[⟨(ruleD s), []⟩], 0⟩ ∧ Below w.heap.size w w' := by
  have hL := fun (wx : World) => leaf_g (d := (ruleD s)) ⟨by simp [ruleD], by simp [ruleD], hs, by simp [ruleD], by simp [ruleD]⟩ wx
  simp only [nodeCells, ruleD] at hL
  have HL := Lib.hid hL
  clear hL
  go_enter Tryd.func40, Tryd.ntmps40
  go_wp2_with (first
    | (go_at_call 48
       refine (HL.out _).mono ?_
       rintro e w1 ⟨u, rfl, ⟨xv, rfl, kvs, ho0⟩, hb1⟩
       obtain ⟨A2, c2, rfl, _, _, _⟩ := own_slice ho0.row
       have ho : OwnNodes w1 34 _ (fun _ => True) (.slice A2 1 c2) [⟨(ruleD s), []⟩] := ⟨kvs, ho0⟩
       have hb01 : Below w.heap.size w w1 := ((Below.refl _ _).alloc (Nat.le_refl _) _).trans (hb1.mono (by simp <;> omega))
       have hB1 : Blk w1 w.heap.size 24 #[.slice none 0 0, .int .i64 0] := (Blk.new w _ _).below hb1 (by simp)
       have e0 : w1.cell? ⟨w.heap.size, 0, none⟩ = some (.slice none 0 0) := hB1.cell 0
       have e1 : w1.cell? ⟨w.heap.size, 1, none⟩ = some (.int .i64 0) := hB1.cell 1
       have f0 := hB1.frozen 0
       have f1 := hB1.frozen 1
       have HB1 := Lib.hid hB1
       have HO := Lib.hid ho
       clear hb1 hB1 ho)
    | fail)
  have hO1 := HO.out
  simp only [World.size_alloc] at hO1
  have hO2 := hO1.low (g := w.heap.size) (grown_set2 _ _ 0 1 (.slice A2 1 c2) (.int .i64 0)) (by omega)
  have hB2 := HB1.out.set2 (.slice A2 1 c2) (.int .i64 0)
  have hb2 := (hb01.setCell (p := ⟨w.heap.size, 0, none⟩) (by simp) (.slice A2 1 c2)).setCell (p := ⟨w.heap.size, 1, none⟩) (by simp) (.int .i64 0)
  refine bodyPost_ret (results_cell1 rfl _ _ w.heap.size _ _ _ rfl hB2 Tryd.underlying24 rfl tree_size) rfl ?_
  exact ⟨_, rfl, ⟨.slice A2 1 c2, rfl, hO2.base_ (by omega)⟩, hb2⟩
end Go.Proofs.YtlmlbdmbgfclkaaDoor

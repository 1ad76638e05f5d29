/- The contracts of tree's small functions: Sub, Clean, Walk, Root, Size, Depth, May, leaf, Empty, Text, Rule. -/
import Derived.Test.YtlmlbdmbgfclkaaDoorTrD
import Derived.Laws.ResultCell
import Derived.Laws.Rows
namespace Go.Proofs.YtlmlbdmbgfclkaaDoor
open Go.RowKit

def flatT (x : T) : Tr := ⟨flatAt 0 x, (x.size : Int) - 1⟩
def zeroT : Tr := ⟨[], 0⟩
/-- A tree whose nodes lie in memory of the call's own. -/
def OwnTree (w : World) (base : Nat) (v : Value) (t : Tr) : Prop := ∃ nv, v = .agg #[nv, .int .i64 t.root] ∧ OwnNodes w 34 base (fun _ => True) nv t.nodes
theorem OwnTree.zero (w : World) (base : Nat) : OwnTree w base (.agg #[.slice none 0 0, .int .i64 0]) zeroT := ⟨_, rfl, _, OwnNK.nil_ _ _ _ _⟩
theorem OwnTree.read {w : World} {base : Nat} {v : Value} {t : Tr} {S : Nat → Prop} (h : OwnTree w base v t) (hS : ∀ b, base ≤ b → b < w.heap.size → S b) (h1 : -9223372036854775808 ≤ t.root) (h2 : t.root ≤ 9223372036854775807) : RTree w S v t := by
  obtain ⟨nv, rfl, kvs, hk⟩ := h
  exact ⟨nv, rfl, hk.nodes fun b h1 h2 _ => hS b h1 h2, h1, h2⟩
theorem RightT.kids_le {t : Tr} (h : RightT t) : ∀ n ∈ t.nodes, n.kids.length ≤ t.nodes.length := by
  intro n hn
  have h1 := h.shape.perm.length_eq
  rw [length_rangeI] at h1
  have h2 : n.kids.length ≤ (kidsOf t.nodes).length := by
    unfold kidsOf
    obtain ⟨a, b, e⟩ := List.append_of_mem hn
    rw [e]; simp; omega
  simp at h1
  omega
/-- The tree that a right arena stands for. -/
def treeOf (t : Tr) : T := D t.nodes t.root.toNat
theorem RightT.size {t : Tr} (h : RightT t) : (treeOf t).size = t.nodes.length := h.shape.size
/-- Conditions that all of tree's functions ask of a tree that is handed in. -/
structure Given (t : Tr) (v : Value) (S : Nat → Prop) (w : World) : Prop where
  read : RTree w S v t
  old : ∀ b, S b → b < w.heap.size
  tab : KTab w
  small : t.nodes.length ≤ 500000
theorem Given.below {t : Tr} {v : Value} {S : Nat → Prop} {w w' : World} (h : Given t v S w) (hb : Below w.heap.size w w') : Given t v S w' :=
  ⟨h.read.below hb h.old, fun b hs => Nat.lt_of_lt_of_le (h.old b hs) hb.size, h.tab.below hb, h.small⟩
open Classical in
theorem right_g {t : Tr} {v : Value} {S : Nat → Prop} {w : World} (h : Given t v S w) : Calls Tryd.prog 11 #[v] w fun e w' => e = .returned (.bool (decide (RightT t))) ∧ Below w.heap.size w w' :=
  right_any t v S w h.read h.old h.tab (by have := h.small; omega)
theorem depth_g {t : Tr} {v : Value} {S : Nat → Prop} {w : World} (h : Given t v S w) (hr : RightT t) : Calls Tryd.prog 47 #[v] w fun e w' => e = .returned (.int .i64 (treeOf t).depth) ∧ Below w.heap.size w w' :=
  depth_any t v S w h.read h.old hr.shape.low hr.shape.pos hr.shape.root_lt (by have := h.small; omega) (fun n hn => by have := hr.kids_le n hn; have := h.small; omega)
theorem put_g {t : Tr} {v : Value} {S : Nat → Prop} {w : World} (h : Given t v S w) (hr : RightT t) (node : Int) (h0 : 0 ≤ node) (hn : node.toNat < t.nodes.length) (vo : Value) (outs : List Nd) (base : Nat) (hbase : base ≤ w.heap.size) (X0 : Nat → Prop) (ho : OwnNodes w 34 base X0 vo outs)
    (hS : ∀ b, S b → vo.ownBlock ≠ some b) (hl : outs.length ≤ 500000) :
    Calls Tryd.prog 44 #[vo, v, .int .i64 node] w fun e w' => ∃ u, e = .returned u ∧ OwnNodes w' 34 base (fun b => X0 b ∨ w.heap.size ≤ b) u (outs ++ flatAt outs.length (D t.nodes node.toNat)) ∧
      w.grownBy w' vo.ownBlock ∧ (u.ownBlock = vo.ownBlock ∨ ∀ g, u.ownBlock = some g → w.heap.size ≤ g) := by
  obtain ⟨kvs, hk⟩ := ho
  exact put_any t v S node vo outs kvs base w h.read (fun b hb => ⟨h.old b hb, hS b hb⟩) hbase X0 hk hr.shape.low h0 hn (post_nodup hr.shape _ hn) (by have := size_le hr.shape _ hn; have := h.small; omega) (fun n hn => by have := hr.kids_le n hn; have := h.small; omega)
theorem put_nil {t : Tr} {v : Value} {S : Nat → Prop} {w : World} (h : Given t v S w) (hr : RightT t) (node : Int) (h0 : 0 ≤ node) (hn : node.toNat < t.nodes.length) (base : Nat) (hbase : base ≤ w.heap.size) :
    Calls Tryd.prog 44 #[.slice none 0 0, v, .int .i64 node] w fun e w' => ∃ A c, e = .returned (.slice A (D t.nodes node.toNat).size c) ∧ OwnNodes w' 34 base (fun _ => True) (.slice A (D t.nodes node.toNat).size c) (flatAt 0 (D t.nodes node.toNat)) ∧ Below w.heap.size w w' := by
  refine (put_g h hr node h0 hn (.slice none 0 0) [] base hbase (fun _ => True) ⟨_, OwnNK.nil_ _ _ _ _⟩ (fun b _ => by simp [Value.ownBlock]) (by simp)).mono ?_
  rintro e w' ⟨u, rfl, ⟨kvs, ho⟩, hg, _⟩
  simp only [List.nil_append, List.length_nil] at ho
  obtain ⟨A, c, rfl, _, _, _⟩ := own_slice ho.row
  rw [flatAt_length] at ho ⊢
  exact ⟨A, c, rfl, ⟨kvs, ho.weaken fun _ _ _ _ => trivial⟩, below_of_grown hg (Nat.le_refl _) (fun g e => by simp [Value.ownBlock] at e)⟩

theorem results_cell2 {P : Program} {fn : Func} {p u : Tmp} {ty : TypeId} (h : fn.results = #[.cell p ty, .tmp u]) (tmps : Array Value) (w : World) (g : Nat) (t : TypeId) (cs : Array Value) (d : TypeDesc)
    (hp : tmps.getD p undef = .pointer (some ⟨g, 0, none⟩)) (hg : Blk w g t cs) (hu : P.underlying ty = some d) (hd : (match d with | .struct _ | .array _ _ => true | _ => false) = true) (hi : (P.info? ty).map (·.size) = some cs.size) :
    (results fn tmps).run P w = .ok (.tuple #[.agg cs, tmps.getD u undef]) w := by
  rw [results_cell_tmp h, hp]
  simp [asAddr, run_loadVar_row w g t ty cs (0, 0) d hg hu hd hi]
theorem tree_size : (Tryd.prog.info? 24).map (·.size) = some 2 := by kernel_rfl

/-- What Sub tells. -/
structure IsSub (t : Tr) (node : Int) (x : Tr) (is : Bool) : Prop where
  yes : RightT t → 0 ≤ node → node < t.nodes.length → is = true ∧ x = flatT (D t.nodes node.toNat)
  no : ¬ (RightT t ∧ 0 ≤ node ∧ node < t.nodes.length) → is = false ∧ x = zeroT
set_option maxHeartbeats 2000000 in
theorem sub_g {t : Tr} {v : Value} {S : Nat → Prop} {w : World} (h : Given t v S w) (node : Int) :
    Calls Tryd.prog 24 #[v, .int .i64 node] w fun e w' => ∃ u x is, e = .returned (.tuple #[u, .bool is]) ∧ OwnTree w' w.heap.size u x ∧ IsSub t node x is ∧ Below w.heap.size w w' := by
  classical
  have HR := Lib.hid (fun wx (hx : Below w.heap.size w wx) => right_g (h.below hx))
  obtain ⟨nv, rfl, hns, hr1, hr2⟩ := h.read
  obtain ⟨A, c, rfl, hc, hs, _⟩ := hns.at_
  have HG := Lib.hid h
  by_cases hin : RightT t ∧ 0 ≤ node ∧ node < (t.nodes.length : Int)
  · obtain ⟨hr, h0, hn⟩ := hin
    · have HP := Lib.hid (fun wx (hx : Below w.heap.size w wx) => put_nil (h.below hx) hr node h0 (by omega) wx.heap.size (Nat.le_refl _))
      rw [decide_eq_true hr] at HR
      have hsp := (D t.nodes node.toNat).size_pos
      have hsl := size_le hr.shape node.toNat (by omega)
      have hsm := h.small
      have HRT := Lib.hid hr
      obtain ⟨n, hn2⟩ : ∃ n, n = (D t.nodes node.toNat).size := ⟨_, rfl⟩
      rw [← hn2] at HP hsp hsl
      have HN := Lib.hid hn2
      clear h hns hr hn2
      go_enter Tryd.func24, Tryd.ntmps24
      go_wp2_with (first
        | (go_at_call 11
           refine (HR.out _ (((Below.refl _ _).alloc (Nat.le_refl _) _).alloc (by simp) _)).mono ?_
           rintro e w1 ⟨rfl, hb1⟩
           have hb01 : Below w.heap.size w w1 := (((Below.refl _ _).alloc (Nat.le_refl _) _).alloc (by simp) _).trans (hb1.mono (by simp; omega))
           have d0 : w1.cell? ⟨w.heap.size, 0, none⟩ = some (.slice A t.nodes.length c) := by
             rw [hb1.cell (p := ⟨w.heap.size, 0, none⟩) (by simp; omega)]; exact ((Blk.new w _ _).alloc _).cell 0
           have d1 : w1.cell? ⟨w.heap.size, 1, none⟩ = some (.int .i64 t.root) := by
             rw [hb1.cell (p := ⟨w.heap.size, 1, none⟩) (by simp; omega)]; exact ((Blk.new w _ _).alloc _).cell 1
           have hB1 : Blk w1 (w.heap.size + 1) 24 #[.slice none 0 0, .int .i64 0] := (Blk.new1 _ _ _ _).below hb1 (by simp)
           have HB1 := Lib.hid hB1
           have hsz1 := hB1.lt
           clear hb1 hB1)
        | (go_at_call 44
           refine (HP.out _ hb01).mono ?_
           rintro e w2 ⟨A2, c2, rfl, ho, hb2⟩
           have hB2 := HB1.out.below hb2 hsz1
           have f0 := hB2.frozen 0
           have f1 := hB2.frozen 1
           have e0 : w2.cell? ⟨w.heap.size + 1, 0, none⟩ = some (.slice none 0 0) := hB2.cell 0
           have e1 : w2.cell? ⟨w.heap.size + 1, 1, none⟩ = some (.int .i64 0) := hB2.cell 1)
        | fail)
      have hb02 := (hb01.trans (hb2.mono hb01.size))
      obtain ⟨w3, hw3⟩ : ∃ w3, w3 = (w2.setCell ⟨w.heap.size + 1, 0, none⟩ (.slice A2 n c2)).setCell ⟨w.heap.size + 1, 1, none⟩ (.int .i64 ((n : Int) - 1)) := ⟨_, rfl⟩
      have hB3 : Blk w3 (w.heap.size + 1) 24 #[.slice A2 n c2, .int .i64 ((n : Int) - 1)] := by
        rw [hw3]; exact (hB2.set_ 0 (.slice A2 n c2)).set_ 1 (.int .i64 ((n : Int) - 1))
      have ho2 : OwnNodes w3 34 w1.heap.size (fun _ => True) (.slice A2 n c2) (flatAt 0 (D t.nodes node.toNat)) := by
        rw [hw3]
        exact ho.low (g := w.heap.size + 1) (grown_set2 _ _ _ _ _ _) hsz1
      have hb3 : Below w.heap.size w w3 := by
        rw [hw3]
        exact (hb02.setCell (by simp) _).setCell (by simp) _
      have hO : OwnTree w3 w.heap.size (.agg #[.slice A2 n c2, .int .i64 ((n : Int) - 1)]) (flatT (D t.nodes node.toNat)) := by
        refine ⟨.slice A2 n c2, ?_, ho2.base_ hb01.size⟩
        rw [flatT, ← HN.out]
      rw [← hw3]
      refine bodyPost_ret (results_cell2 rfl _ _ (w.heap.size + 1) _ _ _ rfl hB3 Tryd.underlying24 rfl tree_size) rfl ?_
      exact ⟨_, _, _, rfl, hO, ⟨fun _ _ _ => ⟨rfl, rfl⟩, fun hno => absurd ⟨HRT.out, h0, hn⟩ hno⟩, hb3⟩
  · have HIN := Lib.hid hin
    have hcase : ¬ RightT t ∨ (RightT t ∧ node < 0) ∨ (RightT t ∧ 0 ≤ node ∧ (t.nodes.length : Int) ≤ node) := by
      by_cases hr : RightT t
      · by_cases h0 : 0 ≤ node
        · exact .inr (.inr ⟨hr, h0, by
            rcases Int.lt_or_le node (t.nodes.length : Int) with h1 | h1
            · exact absurd ⟨hr, h0, h1⟩ hin
            · exact h1⟩)
        · exact .inr (.inl ⟨hr, by omega⟩)
      · exact .inl hr
    clear hin h hns
    rcases hcase with hr | ⟨hr, hn0⟩ | ⟨hr, hn0, hn1⟩
    · rw [decide_eq_false hr] at HR
      clear hr
      go_enter Tryd.func24, Tryd.ntmps24
      go_wp2_with (first
        | (go_at_call 11
           refine (HR.out _ (((Below.refl _ _).alloc (Nat.le_refl _) _).alloc (by simp) _)).mono ?_
           rintro e w1 ⟨rfl, hb1⟩
           have hb01 : Below w.heap.size w w1 := (((Below.refl _ _).alloc (Nat.le_refl _) _).alloc (by simp) _).trans (hb1.mono (by simp; omega))
           have d0 : w1.cell? ⟨w.heap.size, 0, none⟩ = some (.slice A t.nodes.length c) := by
             rw [hb1.cell (p := ⟨w.heap.size, 0, none⟩) (by simp; omega)]; exact ((Blk.new w _ _).alloc _).cell 0
           have hB1 : Blk w1 (w.heap.size + 1) 24 #[.slice none 0 0, .int .i64 0] := (Blk.new1 _ _ _ _).below hb1 (by simp)
           have f0 := hB1.frozen 0
           have f1 := hB1.frozen 1
           have e0 : w1.cell? ⟨w.heap.size + 1, 0, none⟩ = some (.slice none 0 0) := hB1.cell 0
           have e1 : w1.cell? ⟨w.heap.size + 1, 1, none⟩ = some (.int .i64 0) := hB1.cell 1
           have HB1 := Lib.hid hB1
           clear hb1 hB1)
        | fail)
      obtain ⟨w3, hw3⟩ : ∃ w3, w3 = (w1.setCell ⟨w.heap.size + 1, 0, none⟩ (.slice none 0 0)).setCell ⟨w.heap.size + 1, 1, none⟩ (.int .i64 0) := ⟨_, rfl⟩
      have hB3 : Blk w3 (w.heap.size + 1) 24 #[.slice none 0 0, .int .i64 0] := by
        rw [hw3]; exact (HB1.out.set_ 0 (.slice none 0 0)).set_ 1 (.int .i64 0)
      have hb3 : Below w.heap.size w w3 := by
        rw [hw3]
        exact (hb01.setCell (by simp) _).setCell (by simp) _
      rw [← hw3]
      refine bodyPost_ret (results_cell2 rfl _ _ (w.heap.size + 1) _ _ _ rfl hB3 Tryd.underlying24 rfl tree_size) rfl ?_
      exact ⟨_, _, _, rfl, OwnTree.zero _ _, ⟨fun a b c => absurd ⟨a, b, c⟩ HIN.out, fun _ => ⟨rfl, rfl⟩⟩, hb3⟩
    · rw [decide_eq_true hr] at HR
      clear hr
      go_enter Tryd.func24, Tryd.ntmps24
      go_wp2_with (first
        | (go_at_call 11
           refine (HR.out _ (((Below.refl _ _).alloc (Nat.le_refl _) _).alloc (by simp) _)).mono ?_
           rintro e w1 ⟨rfl, hb1⟩
           have hb01 : Below w.heap.size w w1 := (((Below.refl _ _).alloc (Nat.le_refl _) _).alloc (by simp) _).trans (hb1.mono (by simp; omega))
           have d0 : w1.cell? ⟨w.heap.size, 0, none⟩ = some (.slice A t.nodes.length c) := by
             rw [hb1.cell (p := ⟨w.heap.size, 0, none⟩) (by simp; omega)]; exact ((Blk.new w _ _).alloc _).cell 0
           have hB1 : Blk w1 (w.heap.size + 1) 24 #[.slice none 0 0, .int .i64 0] := (Blk.new1 _ _ _ _).below hb1 (by simp)
           have f0 := hB1.frozen 0
           have f1 := hB1.frozen 1
           have e0 : w1.cell? ⟨w.heap.size + 1, 0, none⟩ = some (.slice none 0 0) := hB1.cell 0
           have e1 : w1.cell? ⟨w.heap.size + 1, 1, none⟩ = some (.int .i64 0) := hB1.cell 1
           have HB1 := Lib.hid hB1
           clear hb1 hB1)
        | fail)
      obtain ⟨w3, hw3⟩ : ∃ w3, w3 = (w1.setCell ⟨w.heap.size + 1, 0, none⟩ (.slice none 0 0)).setCell ⟨w.heap.size + 1, 1, none⟩ (.int .i64 0) := ⟨_, rfl⟩
      have hB3 : Blk w3 (w.heap.size + 1) 24 #[.slice none 0 0, .int .i64 0] := by
        rw [hw3]; exact (HB1.out.set_ 0 (.slice none 0 0)).set_ 1 (.int .i64 0)
      have hb3 : Below w.heap.size w w3 := by
        rw [hw3]
        exact (hb01.setCell (by simp) _).setCell (by simp) _
      rw [← hw3]
      refine bodyPost_ret (results_cell2 rfl _ _ (w.heap.size + 1) _ _ _ rfl hB3 Tryd.underlying24 rfl tree_size) rfl ?_
      exact ⟨_, _, _, rfl, OwnTree.zero _ _, ⟨fun a b c => absurd ⟨a, b, c⟩ HIN.out, fun _ => ⟨rfl, rfl⟩⟩, hb3⟩
    · rw [decide_eq_true hr] at HR
      clear hr
      go_enter Tryd.func24, Tryd.ntmps24
      go_wp2_with (first
        | (go_at_call 11
           refine (HR.out _ (((Below.refl _ _).alloc (Nat.le_refl _) _).alloc (by simp) _)).mono ?_
           rintro e w1 ⟨rfl, hb1⟩
           have hb01 : Below w.heap.size w w1 := (((Below.refl _ _).alloc (Nat.le_refl _) _).alloc (by simp) _).trans (hb1.mono (by simp; omega))
           have d0 : w1.cell? ⟨w.heap.size, 0, none⟩ = some (.slice A t.nodes.length c) := by
             rw [hb1.cell (p := ⟨w.heap.size, 0, none⟩) (by simp; omega)]; exact ((Blk.new w _ _).alloc _).cell 0
           have hB1 : Blk w1 (w.heap.size + 1) 24 #[.slice none 0 0, .int .i64 0] := (Blk.new1 _ _ _ _).below hb1 (by simp)
           have f0 := hB1.frozen 0
           have f1 := hB1.frozen 1
           have e0 : w1.cell? ⟨w.heap.size + 1, 0, none⟩ = some (.slice none 0 0) := hB1.cell 0
           have e1 : w1.cell? ⟨w.heap.size + 1, 1, none⟩ = some (.int .i64 0) := hB1.cell 1
           have HB1 := Lib.hid hB1
           clear hb1 hB1)
        | fail)
      obtain ⟨w3, hw3⟩ : ∃ w3, w3 = (w1.setCell ⟨w.heap.size + 1, 0, none⟩ (.slice none 0 0)).setCell ⟨w.heap.size + 1, 1, none⟩ (.int .i64 0) := ⟨_, rfl⟩
      have hB3 : Blk w3 (w.heap.size + 1) 24 #[.slice none 0 0, .int .i64 0] := by
        rw [hw3]; exact (HB1.out.set_ 0 (.slice none 0 0)).set_ 1 (.int .i64 0)
      have hb3 : Below w.heap.size w w3 := by
        rw [hw3]
        exact (hb01.setCell (by simp) _).setCell (by simp) _
      rw [← hw3]
      refine bodyPost_ret (results_cell2 rfl _ _ (w.heap.size + 1) _ _ _ rfl hB3 Tryd.underlying24 rfl tree_size) rfl ?_
      exact ⟨_, _, _, rfl, OwnTree.zero _ _, ⟨fun a b c => absurd ⟨a, b, c⟩ HIN.out, fun _ => ⟨rfl, rfl⟩⟩, hb3⟩
end Go.Proofs.YtlmlbdmbgfclkaaDoor

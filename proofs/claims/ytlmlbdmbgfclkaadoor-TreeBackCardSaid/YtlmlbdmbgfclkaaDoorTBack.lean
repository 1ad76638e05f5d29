/- The law TreeBack, walked: it answers true. -/
import Derived.Test.YtlmlbdmbgfclkaaDoorTMore
import Derived.Test.YtlmlbdmbgfclkaaDoorBoxT
import Derived.Deep.CutBlock
import Derived.Deep.Cut
import Derived.IntWalk
import Derived.Test.YtlmlbdmbgfclkaaDoorTrees
namespace Go.Proofs.YtlmlbdmbgfclkaaDoor
set_option linter.unusedSimpArgs false
open Go.RowKit
open Classical

def nodeC (d : Dt) (kv : Value) : Array Value := #[.int .u8 d.kind, .int .u64 d.s0, .int .u64 d.s1, .int .u64 d.s2, .int .u64 d.s3, .string ⟨d.text.toArray⟩, .int .i64 d.min, .int .i64 d.max, kv]
noncomputable def fitsTo (d : Dt) (ts : List Tr) (j : Nat) : Bool := fits d ts.length && (ts.take j).all fun t => decide (RightT t)
noncomputable def sizeTo (ts : List Tr) (j : Nat) : Nat := 1 + ((ts.take j).map sizeT).sum
noncomputable def deepTo (ts : List Tr) (j : Nat) : Nat := (ts.take j).foldl (fun m t => max m (depthT t)) 0
theorem fitsTo_next {d : Dt} {ts : List Tr} {j : Nat} {t : Tr} (h : ts[j]? = some t) : fitsTo d ts (j + 1) = (fitsTo d ts j && decide (RightT t)) := by
  unfold fitsTo
  rw [List.take_add_one, h]
  simp [Bool.and_assoc]
theorem sizeTo_next {ts : List Tr} {j : Nat} {t : Tr} (h : ts[j]? = some t) : sizeTo ts (j + 1) = sizeTo ts j + sizeT t := by
  unfold sizeTo
  rw [List.take_add_one, h]
  simp; omega
theorem deepTo_next {ts : List Tr} {j : Nat} {t : Tr} (h : ts[j]? = some t) : deepTo ts (j + 1) = max (deepTo ts j) (depthT t) := by
  unfold deepTo
  rw [List.take_add_one, h]
  simp
theorem sizeT_le (t : Tr) : sizeT t ≤ t.nodes.length := by unfold sizeT; split <;> omega
theorem depthT_le (t : Tr) : depthT t ≤ t.nodes.length := by
  unfold depthT
  split
  · rename_i h
    have := depth_le h.shape.low t.root.toNat h.shape.root_lt
    have := h.shape.root_lt
    unfold treeOf; omega
  · omega
theorem sizeTo_le (ts : List Tr) (j : Nat) : sizeTo ts j ≤ 1 + nodesSum ts := by
  have h : ∀ (l : List Tr), (l.map sizeT).sum ≤ nodesSum l := by
    intro l
    induction l with
    | nil => simp [nodesSum]
    | cons t l ih => have := sizeT_le t; unfold nodesSum at ih ⊢; simp; omega
  have h2 : nodesSum (ts.take j) ≤ nodesSum ts := by
    have : nodesSum ts = nodesSum (ts.take j) + nodesSum (ts.drop j) := by unfold nodesSum; rw [← List.sum_append, ← List.map_append, List.take_append_drop]
    omega
  have := h (ts.take j)
  unfold sizeTo; omega
theorem deepTo_le (ts : List Tr) (j b : Nat) (h : ∀ t ∈ ts, t.nodes.length ≤ b) : deepTo ts j ≤ b := by
  unfold deepTo
  have key : ∀ (l : List Tr) (m : Nat), m ≤ b → (∀ t ∈ l, t.nodes.length ≤ b) → l.foldl (fun m t => max m (depthT t)) m ≤ b := by
    intro l
    induction l with
    | nil => intro m hm _; exact hm
    | cons t l ih =>
      intro m hm hl
      simp only [List.foldl_cons]
      refine ih _ ?_ fun t ht => hl t (by simp [ht])
      have := depthT_le t
      have := hl t (by simp)
      omega
  exact key _ _ (Nat.zero_le _) fun t ht => h t (List.mem_of_mem_take ht)

theorem nodesSum_mem {ts : List Tr} {t : Tr} (h : t ∈ ts) : t.nodes.length ≤ nodesSum ts := by
  obtain ⟨a, b, rfl⟩ := List.append_of_mem h
  unfold nodesSum
  simp; omega
theorem IsOf.root_ok {d : Dt} {ts : List Tr} {x : Tr} {is : Bool} {v : Value} {S : Nat → Prop} {w : World} (h : IsOf d ts x is) (_hg : GivenL ts v S w) (hs : (ts.map (·.nodes.length)).sum ≤ 500000) : -9223372036854775808 ≤ x.root ∧ x.root ≤ 9223372036854775807 := by
  by_cases hh : fits d ts.length = true ∧ ∀ t ∈ ts, RightT t
  · obtain ⟨_, rfl⟩ := h.yes hh.1 hh.2
    simp only [flatT, T.size]
    have := sizes_take_le ts hh.2 ts.length
    rw [List.take_length] at this
    omega
  · obtain ⟨_, rfl⟩ := h.no hh
    simp [zeroT]
theorem kids_sizes : ∀ (l : List T), nodesSum (l.map flatT) = sizes l
  | [] => rfl
  | t :: l => by
    have := kids_sizes l
    unfold nodesSum at this ⊢
    simp only [List.map_cons, List.sum_cons, sizes, this, flatT_len]
theorem kids_small {t : Tr} (h : t.nodes.length ≤ 4000) : nodesSum (kidsOfT t) ≤ 4000 := by
  unfold kidsOfT
  split
  · rename_i hr
    rw [kids_sizes]
    have := hr.size
    rw [(treeOf t).eta] at this
    simp only [T.size, T.kids] at this ⊢
    omega
  · simp [nodesSum]
theorem sizes_len (l : List T) : l.length ≤ sizes l := by
  induction l with
  | nil => simp [sizes]
  | cons t l ih => have := t.size_pos; simp [sizes]; omega
theorem kids_few {t : Tr} (h : t.nodes.length ≤ 4000) : (kidsOfT t).length ≤ 4000 := by
  have h1 := kids_small h
  unfold kidsOfT at h1 ⊢
  split
  · rename_i hr
    rw [if_pos hr, kids_sizes] at h1
    have := sizes_len (treeOf t).kids
    rw [List.length_map]; omega
  · simp
theorem of_root {d : Dt} {ts : List Tr} (h : nodesSum ts ≤ 4000) : -9223372036854775808 ≤ (ofT d ts).root ∧ (ofT d ts).root ≤ 9223372036854775807 := by
  unfold ofT
  split
  · rename_i hh
    simp only [flatT, T.size]
    have := sizes_take_le ts hh.2 ts.length
    rw [List.take_length] at this
    unfold nodesSum at h
    omega
  · simp [zeroT]
theorem RTree.ok {w : World} {S : Nat → Prop} {v : Value} {t : Tr} (h : RTree w S v t) : ∀ n ∈ t.nodes, n.d.Ok := by
  obtain ⟨nv, _, ⟨kvs, hl, _, he⟩, _⟩ := h
  intro n hn
  obtain ⟨j, hj⟩ := List.getElem?_of_mem hn
  have hjl : j < t.nodes.length := (List.getElem?_eq_some_iff.1 hj).1
  exact (he j n _ hj (List.getElem?_eq_getElem (by omega : j < kvs.length))).2
theorem root_ok {w : World} {S : Nat → Prop} {v : Value} {t : Tr} (h : RTree w S v t) : (rootOf t).d.Ok := by
  unfold rootOf
  split
  · rename_i hr
    have hN := List.getElem?_eq_getElem hr.shape.root_lt
    have : (treeOf t).d = (t.nodes[t.root.toNat]'hr.shape.root_lt).d := by unfold treeOf; rw [D_eq hr.shape.low hN]; rfl
    show (treeOf t).d.Ok
    rw [this]
    exact h.ok _ (List.getElem_mem _)
  · exact ⟨by decide, by decide, by decide, by decide, by decide⟩
theorem of_back {t : Tr} (hr : RightT t) : ofB (rootOf t).d (kidsOfT t) = true ∧ ofT (rootOf t).d (kidsOfT t) = flatT (treeOf t) := by
  have hf := hr.fitT
  have hk : kidsOfT t = (treeOf t).kids.map flatT := if_pos hr
  have hd : (rootOf t).d = (treeOf t).d := by rw [rootOf, if_pos hr]
  rw [hk, hd]
  generalize treeOf t = u at hf
  obtain ⟨d, ks, h1, h2⟩ := hf
  have hc : fits (T.node d ks).d (((T.node d ks).kids.map flatT).length : Int) = true ∧ ∀ x ∈ (T.node d ks).kids.map flatT, RightT x := by
    refine ⟨by simpa [T.d, T.kids] using h1, fun x hx => ?_⟩
    obtain ⟨k, hk, rfl⟩ := List.mem_map.1 hx
    exact right_flat (h2 k hk)
  unfold ofB ofT
  rw [if_pos hc, decide_eq_true hc]
  refine ⟨rfl, ?_⟩
  simp only [T.d, T.kids, List.map_map]
  have : ks.map (treeOf ∘ flatT) = ks := by
    conv => rhs; rw [← List.map_id ks]
    exact List.map_congr_left fun k _ => treeOf_flat k
  rw [this]
/-- A tree that reads above a block. -/
def MidT (lo : Nat) (w : World) (v : Value) (t : Tr) : Prop := RTree w (fun b => lo < b ∧ b < w.heap.size) v t
theorem MidT.below {lo : Nat} {w w' : World} {v : Value} {t : Tr} (h : MidT lo w v t) (hb : Below w.heap.size w w') : MidT lo w' v t := (RTree.below h hb fun _ h => h.2).more fun _ h => ⟨h.1, Nat.lt_of_lt_of_le h.2 hb.size⟩
theorem MidT.has {lo : Nat} {w : World} {v : Value} {t : Tr} (h : MidT lo w v t) : HasT w v t := h.more fun _ h => h.2
theorem MidT.set_ {lo : Nat} {w : World} {v : Value} {t : Tr} (h : MidT lo w v t) (i : Nat) (u : Value) : MidT lo (w.setCell ⟨lo, i, none⟩ u) v t :=
  (RTree.keep h fun p hp => World.cell?_of_block ((grown_set1 w lo i u).block p.block hp.2 fun e => by injection e with e; have := hp.1; omega)).more fun b h => ⟨h.1, by have := (grown_set1 w lo i u).size; omega⟩
theorem flat_facts {d : Dt} {ts : List Tr} (hf : fits d ts.length = true) (hr : ∀ t ∈ ts, RightT t) : RightT (flatT (.node d (ts.map treeOf))) ∧ rootOf (flatT (.node d (ts.map treeOf))) = ⟨d, []⟩ ∧ kidsOfT (flatT (.node d (ts.map treeOf))) = ts.map (fun t => flatT (treeOf t)) ∧
    sizeT (flatT (.node d (ts.map treeOf))) = sizeTo ts ts.length ∧ depthT (flatT (.node d (ts.map treeOf))) = deepTo ts ts.length + 1 ∧ cleanOf (flatT (.node d (ts.map treeOf))) = flatT (.node d (ts.map treeOf)) := by
  have hR : RightT (flatT (.node d (ts.map treeOf))) := right_flat ⟨d, _, by simpa using hf, fun k hk => by
    obtain ⟨t, ht, rfl⟩ := List.mem_map.1 hk
    exact (hr t ht).fitT⟩
  refine ⟨hR, ?_, ?_, ?_, ?_, ?_⟩
  · rw [rootOf, if_pos hR, treeOf_flat]; rfl
  · rw [kidsOfT, if_pos hR, treeOf_flat]; simp [T.kids, List.map_map, Function.comp_def]
  · rw [sizeT, if_pos hR, flatT_len]
    simp only [T.size, sizeTo, List.take_length]
    congr 1
    clear hf hR
    induction ts with
    | nil => simp [sizes]
    | cons t ts ih =>
      have h1 := hr t (by simp)
      simp only [List.map_cons, sizes, List.sum_cons, ih fun t ht => hr t (by simp [ht])]
      rw [sizeT, if_pos h1, h1.size]
  · rw [depthT, if_pos hR, treeOf_flat]
    simp only [T.depth, deepTo, List.take_length]
    rw [Nat.add_comm]
    congr 1
    clear hf hR
    have key : ∀ (l : List Tr) (m : Nat), (∀ t ∈ l, RightT t) → l.foldl (fun m t => max m (depthT t)) m = max m (depths (l.map treeOf)) := by
      intro l
      induction l with
      | nil => intro m _; simp [depths]
      | cons t l ih =>
        intro m h
        have h1 := h t (by simp)
        simp only [List.foldl_cons, List.map_cons, depths]
        rw [ih _ fun t ht => h t (by simp [ht]), depthT, if_pos h1]
        simp only [Nat.max_def]
        split <;> split <;> (try split) <;> omega
    rw [key ts 0 hr]; simp
  · rw [cleanOf, if_pos hR, treeOf_flat]
/-- A tree of one node, just as it is. -/
theorem node_tree {wx : World} {S : Nat → Prop} {g : Nat} {N : Nd} {kv : Value} (hb : Blk wx g 34 (nodeC N.d kv)) (hk : RInts wx S kv N.kids) (hd : N.d.Ok) (hS : S g) : RTree wx S (.agg #[.slice (some ⟨g, 0, none⟩) 1 1, .int .i64 0]) ⟨[N], 0⟩ :=
  ⟨_, rfl, RNodes.of_blk (ns := [N]) (kvs := [kv]) rfl hb hS (by simp [maxLen]) fun j n k h1 h2 => by
    rcases j with _ | j
    · simp at h1 h2; subst h1; subst h2; exact ⟨hk, hd⟩
    · simp at h2, by simp, by simp⟩

set_option maxHeartbeats 8000000 in
theorem ltreeback_any (N : Nd) (kv : Value) (ts : List Tr) (vl : Value) (t : Tr) (vt : Value) (w : World) (hkv : RInts w (fun b => b < w.heap.size) kv N.kids) (hd : N.d.Ok) (hl : RTrees w (fun b => b < w.heap.size) vl ts) (ht : HasT w vt t) (hk : KTab w) :
    Calls Tryd.prog 7 #[.agg (nodeC N.d kv), vl, vt] w (TruePost w) := by
  have HK := Lib.hid (fun wx (hb : Below w.heap.size w wx) => hk.below hb)
  have HL := Lib.hid (fun wx (hb : Below w.heap.size w wx) => (hl.below hb fun _ h => h).more (S' := fun b => b < wx.heap.size) fun _ h => Nat.lt_of_lt_of_le h hb.size)
  have HT := Lib.hid ht
  have HKV := Lib.hid hkv
  have HDO := Lib.hid hd
  obtain ⟨Al, cl, rfl, -, hml, -⟩ := hl.at_
  obtain ⟨nt, rfl, hnt, -⟩ := id ht
  obtain ⟨At, ct, rfl, -⟩ := hnt.at_
  obtain ⟨Akv, ckv, rfl, -⟩ := hkv.at_
  unfold maxLen at hml
  clear hl ht hnt hkv hk hd
  unfold nodeC
  go_enter Tryd.func7, Tryd.ntmps7
  go_wp2_with fail
  have hb02 : Below w.heap.size w ((w.alloc (.cells #[.int .u8 N.d.kind, .int .u64 N.d.s0, .int .u64 N.d.s1, .int .u64 N.d.s2, .int .u64 N.d.s3, .string ⟨N.d.text.toArray⟩, .int .i64 N.d.min, .int .i64 N.d.max, .slice Akv N.kids.length ckv] 34)).alloc (.cells #[.slice At t.nodes.length ct, .int .i64 t.root] 24)) := ((Below.refl _ _).alloc (Nat.le_refl _) _).alloc (by simp) _
  refine (works_g _ (HK.out _ hb02)).mono ?_
  rintro e w1 ⟨rfl, hb1⟩
  have hN1 : Blk w1 w.heap.size 34 (nodeC N.d (.slice Akv N.kids.length ckv)) := ((Blk.new w _ _).alloc _).below hb1 (by simp; omega)
  have hT1 : Blk w1 (w.heap.size + 1) 24 #[.slice At t.nodes.length ct, .int .i64 t.root] := (Blk.new1 w _ _ _).below hb1 (by simp)
  have HW1 := Lib.hid (hb02.trans (hb1.mono hb02.size))
  have HN1 := Lib.hid hN1
  have HT1 := Lib.hid hT1
  clear hb02 hb1 hN1 hT1
  go_wp2_with fail
  have hLl := long_g (HL.out _ HW1.out) (fun _ h => h)
  refine hLl.mono ?_
  rintro e w2 ⟨r, rfl, hsl, hb2⟩
  have HN2 := Lib.hid (HN1.out.below hb2 HN1.out.lt)
  have hT2 := HT1.out.below hb2 HT1.out.lt
  have HT2 := Lib.hid hT2
  have HW2 := Lib.hid (HW1.out.trans (hb2.mono HW1.out.size))
  have d0 : w2.cell? ⟨w.heap.size + 1, 0, none⟩ = some (.slice At t.nodes.length ct) := hT2.cell 0
  have d1 : w2.cell? ⟨w.heap.size + 1, 1, none⟩ = some (.int .i64 t.root) := hT2.cell 1
  clear hb2 hLl hT2
  cases r
  case true =>
    clear hsl
    go_wp2_with fail
    refine (works_g _ (HK.out _ HW2.out)).mono ?_
    rintro e w3 ⟨rfl, hb3⟩
    go_wp2_with fail
    go_ret
    exact ⟨rfl, HW2.out.trans (hb3.mono HW2.out.size)⟩
  case false =>
    have HSL := Lib.hid (hsl rfl)
    clear hsl
    go_wp2_with fail
    have hLt := long_g (ts := [t]) (w := w2.alloc (.cells #[.slice At t.nodes.length ct, .int .i64 t.root] 24)) (RTrees.one (S := fun b => b < w2.heap.size + 1) (Blk.new w2 24 _) (Nat.lt_succ_self _) (((HT.out.below HW2.out).below ((Below.refl _ _).alloc (Nat.le_refl _) _)).more fun b hb => by simpa using hb)) (fun b hb => by simpa using hb)
    refine hLt.mono ?_
    rintro e w3 ⟨r, rfl, hst, hb3⟩
    have hb23 : Below w2.heap.size w2 w3 := ((Below.refl _ _).alloc (Nat.le_refl _) _).trans (hb3.mono (by simp <;> omega))
    have hN3 := HN2.out.below hb23 HN2.out.lt
    have HN3 := Lib.hid hN3
    have HT3 := Lib.hid (HT2.out.below hb23 HT2.out.lt)
    have HW3 := Lib.hid (HW2.out.trans (hb23.mono HW2.out.size))
    obtain ⟨d0, d1, d2, d3, d4, d5, d6, d7, d8⟩ := hN3.nine
    clear hb3 hLt hb23 hN3
    cases r
    case true =>
      clear hst
      go_wp2_with fail
      refine (works_g _ (HK.out _ HW3.out)).mono ?_
      rintro e w4 ⟨rfl, hb4⟩
      go_wp2_with fail
      go_ret
      exact ⟨rfl, HW3.out.trans (hb4.mono HW3.out.size)⟩
    case false =>
      have hst' := (hst rfl).sum
      simp [nodesSum] at hst'
      clear hst
      go_wp2_with fail
      have hb35 : Below w3.heap.size w3 ((w3.alloc (.cells (nodeC N.d (.slice Akv N.kids.length ckv)) 34)).alloc (.cells #[.slice (some ⟨w3.heap.size, 0, none⟩) 1 1, .int .i64 0] 24)) := ((Below.refl _ _).alloc (Nat.le_refl _) _).alloc (by simp) _
      have hk3 : RInts ((w3.alloc (.cells (nodeC N.d (.slice Akv N.kids.length ckv)) 34)).alloc (.cells #[.slice (some ⟨w3.heap.size, 0, none⟩) 1 1, .int .i64 0] 24)) (fun b => b < w3.heap.size + 1 + 1) (.slice Akv N.kids.length ckv) N.kids :=
        (RInts.below (HKV.out.below HW3.out fun _ h => h) hb35 fun b h => Nat.lt_of_lt_of_le h HW3.out.size).more fun b h => by have := HW3.out.size; omega
      have hLn := long_g (ts := [⟨[N], 0⟩]) (RTrees.one (S := fun b => b < w3.heap.size + 1 + 1) (Blk.new1 w3 (.cells (nodeC N.d (.slice Akv N.kids.length ckv)) 34) 24 #[.slice (some ⟨w3.heap.size, 0, none⟩) 1 1, .int .i64 0]) (by omega) (node_tree ((Blk.new w3 _ _).alloc _) hk3 HDO.out (by omega))) (fun b hb => by simpa using hb)
      refine hLn.mono ?_
      rintro e w4 ⟨r, rfl, _, hb4⟩
      have hb34 : Below w3.heap.size w3 w4 := hb35.trans (hb4.mono (by simp; omega))
      have hN4 := HN3.out.below hb34 HN3.out.lt
      have HN4 := Lib.hid hN4
      have hT4 := HT3.out.below hb34 HT3.out.lt
      have HT4 := Lib.hid hT4
      have HW4 := Lib.hid (HW3.out.trans (hb34.mono HW3.out.size))
      obtain ⟨d0, d1, d2, d3, d4, d5, d6, d7, d8⟩ := hN4.nine
      have HM := Lib.hid hst'
      clear hb4 hLn hb34 hN4 hb35 hk3 hst' hT4 HN3 HT3 HN2 HT2 HN1 HT1
      cases r
      case true =>
        go_wp2_with fail
        refine (works_g _ (HK.out _ HW4.out)).mono ?_
        rintro e w5 ⟨rfl, hb5⟩
        go_wp2_with fail
        go_ret
        exact ⟨rfl, HW4.out.trans (hb5.mono HW4.out.size)⟩
      case false =>
        have hgl : ∀ wx, Below w.heap.size w wx → GivenL ts (.slice Al ts.length cl) (fun b => b < wx.heap.size) wx := fun wx hb => ⟨HL.out _ hb, fun _ h => h, HK.out _ hb, fun t ht => by
          have := nodesSum_mem ht; have := HSL.out.sum; omega, by have := HSL.out.few; omega⟩
        have HGL := Lib.hid hgl
        clear hgl
        go_wp2_with fail
        have hO := of_g (N := N) (kv0 := .slice Akv N.kids.length ckv) HDO.out (HGL.out _ HW4.out) (by have := HSL.out.sum; unfold nodesSum at this; omega)
        simp only [nodeCells] at hO
        refine hO.mono ?_
        rintro e w5 ⟨u, x, is, rfl, hox, hi, hb5⟩
        have hx5 : MidT w.heap.size w5 u x := hox.read (fun b h1 h2 => ⟨by have := HN4.out.lt; omega, h2⟩) (hi.root_ok (HGL.out _ HW4.out) (by have := HSL.out.sum; unfold nodesSum at this; omega)).1 (hi.root_ok (HGL.out _ HW4.out) (by have := HSL.out.sum; unfold nodesSum at this; omega)).2
        obtain ⟨nx, rfl, hnx, -⟩ := id hx5
        obtain ⟨Ax, cx, rfl, -⟩ := hnx.at_
        have hN5 := HN4.out.below hb5 HN4.out.lt
        obtain ⟨d0, d1, d2, d3, d4, d5, d6, d7, d8⟩ := hN5.nine
        have HN5 := Lib.hid hN5
        have HT5 := Lib.hid (HT4.out.below hb5 HT4.out.lt)
        have HW5 := Lib.hid (HW4.out.trans (hb5.mono HW4.out.size))
        have HX5 := Lib.hid hx5
        have HI := Lib.hid hi
        have hlt5 := HN5.out.lt
        clear hO hox hb5 hx5 hnx hN5 hi HN4 HT4
        go_wp2_with fail
        have hb56 : Below w5.heap.size w5 (w5.alloc (.cells #[.slice Ax x.nodes.length cx, .int .i64 x.root] 24)) := (Below.refl _ _).alloc (Nat.le_refl _) _
        have hF := fits_any N HDO.out (.slice Akv N.kids.length ckv) (ts.length : Int) _ (HK.out _ (HW5.out.trans (hb56.mono HW5.out.size)))
        simp only [nodeCells] at hF
        refine hF.mono ?_
        rintro e w6 ⟨rfl, hb6⟩
        have hb56' : Below w5.heap.size w5 w6 := hb56.trans (hb6.mono hb56.size)
        have HBX := Lib.hid ((Blk.new w5 24 #[.slice Ax x.nodes.length cx, .int .i64 x.root]).below hb6 (by simp))
        have HN6 := Lib.hid (HN5.out.below hb56' HN5.out.lt)
        have HT6 := Lib.hid (HT5.out.below hb56' HT5.out.lt)
        have HW6 := Lib.hid (HW5.out.trans (hb56'.mono HW5.out.size))
        have HX6 := Lib.hid (HX5.out.below hb56')
        clear hb56 hF hb6 hb56' d0 d1 d2 d3 d4 d5 d6 d7 d8 hlt5 HN5 HT5 HW5 HX5 HW4 HW3 HW2 HW1
        go_wp2_with fail
        obtain ⟨gx, hgx⟩ : ∃ gx, gx = w5.heap.size := ⟨_, rfl⟩
        rw [← hgx] at HBX ⊢
        clear hgx
        go_loopw [9, 10, 11, 12] (fun f s d i wr => ∃ j : Nat, j ≤ ts.length ∧ i = .int .i64 j ∧ f = .bool (fitsTo N.d ts j) ∧ s = .int .i64 (sizeTo ts j) ∧ d = .int .i64 (deepTo ts j) ∧ Hid (Below w6.heap.size w6 wr)) (fun _ _ _ i _ => ts.length - (intOf i).toNat)
        case atStart => exact ⟨0, Nat.zero_le _, rfl, by simp [fitsTo], by simp [sizeTo], by simp [deepTo], Lib.hid (Below.refl _ _)⟩
        case round =>
          obtain ⟨wo, rfl⟩ : ∃ wo, wo = wr := ⟨_, rfl⟩
          obtain ⟨j, hj, rfl, rfl, rfl, rfl, HL6⟩ := hrel
          by_cases hlt : j < ts.length
          · have hlt' : (j : Int) < (ts.length : Int) := by omega
            obtain ⟨tj, htj⟩ : ∃ tj, ts[j]? = some tj := ⟨_, List.getElem?_eq_getElem hlt⟩
            have h0 := HW6.out.trans (HL6.out.mono HW6.out.size)
            obtain ⟨b, off, Ak, ck, rfl, _, hg, c0, c1⟩ := (HGL.out _ h0).at_ j tj htj
            have hlb := cell_lt c0
            have HG := Lib.hid hg
            have HTJ := Lib.hid htj
            have hfn := fitsTo_next (d := N.d) htj
            have hsn := sizeTo_next htj
            have hdn := deepTo_next htj
            have hsl := sizeTo_le ts (j + 1)
            have hdl := deepTo_le ts (j + 1) 4000 (fun t ht => by have := nodesSum_mem ht; have := HSL.out.sum; omega)
            have hss := HSL.out.sum
            obtain ⟨F, hF⟩ : ∃ F, F = fitsTo N.d ts j := ⟨_, rfl⟩
            obtain ⟨s0, hs0⟩ : ∃ s0, s0 = sizeTo ts j := ⟨_, rfl⟩
            obtain ⟨m0, hm0⟩ : ∃ m0, m0 = deepTo ts j := ⟨_, rfl⟩
            obtain ⟨sj, hsj⟩ : ∃ sj, sj = sizeT tj := ⟨_, rfl⟩
            obtain ⟨dj, hdj⟩ : ∃ dj, dj = depthT tj := ⟨_, rfl⟩
            rw [← hF] at hfn ⊢
            rw [← hs0, ← hsj] at hsn
            rw [← hm0, ← hdj] at hdn
            rw [← hs0, ← hm0]
            have hb1 : s0 + sj ≤ 5000 := by omega
            have hb2 : m0 ≤ 4000 ∧ dj ≤ 4000 := by omega
            have HFN := Lib.hid hfn
            have HSN := Lib.hid hsn
            have HDN := Lib.hid hdn
            have HSJ := Lib.hid hsj
            have HDJ := Lib.hid hdj
            clear hfn hsn hdn hsl hdl hss hF hs0 hm0 hsj hdj htj hg
            cases F
            · go_wp2_with fail
              have hS := size_g HG.out
              rw [← HSJ.out] at hS
              refine hS.mono ?_
              rintro e w8 ⟨rfl, hb8⟩
              have c4 : w8.cell? ⟨b, off + j * 2, none⟩ = some (.slice Ak tj.nodes.length ck) := (hb8.cell (p := ⟨b, off + j * 2, none⟩) hlb).trans c0
              have c5 : w8.cell? ⟨b, off + j * 2 + 1, none⟩ = some (.int .i64 tj.root) := (hb8.cell (p := ⟨b, off + j * 2 + 1, none⟩) hlb).trans c1
              have HB8 := Lib.hid hb8
              have hD := Depth_g (Given.below HG.out hb8)
              rw [← HDJ.out] at hD
              have HD := Lib.hid hD
              clear hb8 hS hD c0 c1
              go_wp2_with fail
              refine HD.out.mono ?_
              rintro e w9 ⟨rfl, hb9⟩
              have HB9 := Lib.hid hb9
              clear hb9 c4 c5
              go_wp2_with fail
              go_roundw
              case measure => simp [intOf]; omega
              case rel => exact ⟨j + 1, by omega, by go_num, by rw [HFN.out]; rfl, by rw [HSN.out]; go_num, by rw [HDN.out]; go_num, Lib.hid ((HL6.out.trans (HB8.out.mono HL6.out.size)).trans (HB9.out.mono (Nat.le_trans HL6.out.size HB8.out.size)))⟩
            · go_wp2_with fail
              refine (right_g HG.out).mono ?_
              rintro e w7 ⟨rfl, hb7⟩
              have c2 : w7.cell? ⟨b, off + j * 2, none⟩ = some (.slice Ak tj.nodes.length ck) := (hb7.cell (p := ⟨b, off + j * 2, none⟩) hlb).trans c0
              have c3 : w7.cell? ⟨b, off + j * 2 + 1, none⟩ = some (.int .i64 tj.root) := (hb7.cell (p := ⟨b, off + j * 2 + 1, none⟩) hlb).trans c1
              have hlb7 : b < w7.heap.size := Nat.lt_of_lt_of_le hlb hb7.size
              have HB7 := Lib.hid hb7
              clear hb7 c0 c1 hlb
              go_wp2_with fail
              have hS := size_g (HG.out.below HB7.out)
              rw [← HSJ.out] at hS
              refine hS.mono ?_
              rintro e w8 ⟨rfl, hb8⟩
              have c4 : w8.cell? ⟨b, off + j * 2, none⟩ = some (.slice Ak tj.nodes.length ck) := (hb8.cell (p := ⟨b, off + j * 2, none⟩) hlb7).trans c2
              have c5 : w8.cell? ⟨b, off + j * 2 + 1, none⟩ = some (.int .i64 tj.root) := (hb8.cell (p := ⟨b, off + j * 2 + 1, none⟩) hlb7).trans c3
              have HB8 := Lib.hid hb8
              have hD := Depth_g (Given.below (HG.out.below HB7.out) hb8)
              rw [← HDJ.out] at hD
              have HD := Lib.hid hD
              clear hb8 hS hD c2 c3
              go_wp2_with fail
              refine HD.out.mono ?_
              rintro e w9 ⟨rfl, hb9⟩
              have HB9 := Lib.hid hb9
              clear hb9 c4 c5
              go_wp2_with fail
              go_roundw
              case measure => simp [intOf]; omega
              case rel => exact ⟨j + 1, by omega, by go_num, by rw [HFN.out]; rfl, by rw [HSN.out]; go_num, by rw [HDN.out]; go_num, Lib.hid (((HL6.out.trans (HB7.out.mono HL6.out.size)).trans (HB8.out.mono (Nat.le_trans HL6.out.size HB7.out.size))).trans (HB9.out.mono (Nat.le_trans (Nat.le_trans HL6.out.size HB7.out.size) HB8.out.size)))⟩
          · obtain rfl : j = ts.length := by omega
            have HW7 := Lib.hid (HW6.out.trans (HL6.out.mono HW6.out.size))
            have hBX7 := HBX.out.below HL6.out HBX.out.lt
            have hN7 := HN6.out.below HL6.out HN6.out.lt
            have hT7 := HT6.out.below HL6.out HT6.out.lt
            have hX7 := HX6.out.below HL6.out
            have hfa : fitsTo N.d ts ts.length = (fits N.d ts.length && ts.all fun t => decide (RightT t)) := by unfold fitsTo; rw [List.take_length]
            clear HBX HN6 HT6 HX6 HW6
            by_cases hall : fits N.d ts.length = true ∧ ∀ t ∈ ts, RightT t
            · obtain ⟨rfl, rfl⟩ := HI.out.yes hall.1 hall.2
              have hft : fitsTo N.d ts ts.length = true := by rw [hfa, hall.1]; simpa using hall.2
              rw [hft]
              obtain ⟨hXr, hXroot, hXkids, hXsize, hXdeep, hXclean⟩ := flat_facts hall.1 hall.2
              obtain ⟨X, hXdef⟩ : ∃ X, X = flatT (.node N.d (ts.map treeOf)) := ⟨_, rfl⟩
              rw [← hXdef] at hXr hXroot hXkids hXsize hXdeep hXclean hBX7 hX7 ⊢
              obtain ⟨SZ, hSZ⟩ : ∃ SZ, SZ = sizeTo ts ts.length := ⟨_, rfl⟩
              obtain ⟨DP, hDP⟩ : ∃ DP, DP = deepTo ts ts.length := ⟨_, rfl⟩
              have hDPl : DP ≤ 4000 := hDP ▸ deepTo_le ts ts.length 4000 (fun t ht => by have := nodesSum_mem ht; have := HSL.out.sum; omega)
              have hXl : X.nodes.length ≤ 4001 := by
                have h1 := sizeTo_le ts ts.length
                have h2 := HSL.out.sum
                rw [sizeT, if_pos hXr] at hXsize; omega
              rw [← hSZ] at hXsize
              rw [← hDP] at hXdeep
              rw [← hSZ, ← hDP]
              have HXR := Lib.hid hXr
              have HXROOT := Lib.hid hXroot
              have HXKIDS := Lib.hid hXkids
              have HXSIZE := Lib.hid hXsize
              have HXDEEP := Lib.hid hXdeep
              have HXCLEAN := Lib.hid hXclean
              have HALL := Lib.hid hall.2
              have HBX7 := Lib.hid hBX7
              have HN7 := Lib.hid hN7
              have HT7 := Lib.hid hT7
              have HX7 := Lib.hid hX7
              have hlB := hN7.lt
              have d8 : wo.cell? ⟨w.heap.size, 8, none⟩ = some (.slice Akv N.kids.length ckv) := hN7.cell 8
              have f8 := hN7.frozen 8
              clear HI hft hfa hall hXr hXroot hXkids hXsize hXdeep hXclean hXdef hSZ hDP hBX7 hN7 hT7 hX7
              have hgB : w.heap.size ≠ gx := Blk.ne_ HN7.out HBX7.out (by decide)
              have e0 : (wo.setCell ⟨w.heap.size, 8, none⟩ (.slice none 0 0)).cell? ⟨gx, 0, none⟩ = some (.slice Ax X.nodes.length cx) := (HBX7.out.far (p := ⟨w.heap.size, 8, none⟩) (Ne.symm hgB) _).cell 0
              have e1 : (wo.setCell ⟨w.heap.size, 8, none⟩ (.slice none 0 0)).cell? ⟨gx, 1, none⟩ = some (.int .i64 X.root) := (HBX7.out.far (p := ⟨w.heap.size, 8, none⟩) (Ne.symm hgB) _).cell 1
              go_wp2_with fail
              obtain ⟨ws, hws⟩ : ∃ ws, ws = wo.setCell ⟨w.heap.size, 8, none⟩ (.slice none 0 0) := ⟨_, rfl⟩
              have HBXs : Hid (Blk ws gx 24 #[.slice Ax X.nodes.length cx, .int .i64 X.root]) := Lib.hid (hws ▸ HBX7.out.far (p := ⟨w.heap.size, 8, none⟩) (Ne.symm hgB) _)
              have HNs : Hid (Blk ws w.heap.size 34 (nodeC N.d (.slice none 0 0))) := Lib.hid (hws ▸ by
                have := HN7.out.set_ 8 (.slice none 0 0)
                simpa only [nodeC, List.setIfInBounds_toArray, List.set_cons_zero, List.set_cons_succ] using this)
              have HTs : Hid (Blk ws (w.heap.size + 1) 24 #[.slice At t.nodes.length ct, .int .i64 t.root]) := Lib.hid (hws ▸ HT7.out.far (p := ⟨w.heap.size, 8, none⟩) (by simp) _)
              have HXs : Hid (MidT w.heap.size ws (.agg #[.slice Ax X.nodes.length cx, .int .i64 X.root]) X) := Lib.hid (hws ▸ HX7.out.set_ 8 _)
              have HWs : Hid (Below w.heap.size w ws) := Lib.hid (hws ▸ HW7.out.setCell (by simp) _)
              rw [← hws]
              clear hws hgB e0 e1 d8 f8 HBX7 HN7 HT7 HX7 HW7 hlB
              refine (Kids_g (HXs.out.has.given (HK.out _ HWs.out) (by omega))).mono ?_
              rintro e wk ⟨uk, rfl, hok, hbk⟩
              rw [HXKIDS.out] at hok
              obtain ⟨Akk, ckk, rfl, -⟩ := own_slice hok.choose_spec.2.1
              rw [List.length_map] at hok ⊢
              have HOK := Lib.hid hok.read
              have HBXk := Lib.hid (HBXs.out.below hbk HBXs.out.lt)
              have HNk := Lib.hid (HNs.out.below hbk HNs.out.lt)
              have HTk := Lib.hid (HTs.out.below hbk HTs.out.lt)
              have HXk := Lib.hid (HXs.out.below hbk)
              have HWk := Lib.hid (HWs.out.trans (hbk.mono HWs.out.size))
              clear hok hbk HBXs HNs HTs HXs HWs
              go_wp2_with fail
              have hcx : ∀ w' : World, Below wk.heap.size wk w' → (w'.cell? ⟨w.heap.size, 0, none⟩ = some (.int .u8 N.d.kind) ∧ w'.cell? ⟨w.heap.size, 1, none⟩ = some (.int .u64 N.d.s0) ∧ w'.cell? ⟨w.heap.size, 2, none⟩ = some (.int .u64 N.d.s1) ∧ w'.cell? ⟨w.heap.size, 3, none⟩ = some (.int .u64 N.d.s2) ∧ w'.cell? ⟨w.heap.size, 4, none⟩ = some (.int .u64 N.d.s3) ∧
                  w'.cell? ⟨w.heap.size, 5, none⟩ = some (.string ⟨N.d.text.toArray⟩) ∧ w'.cell? ⟨w.heap.size, 6, none⟩ = some (.int .i64 N.d.min) ∧ w'.cell? ⟨w.heap.size, 7, none⟩ = some (.int .i64 N.d.max) ∧ w'.cell? ⟨w.heap.size, 8, none⟩ = some (.slice none 0 0)) ∧
                  w'.cell? ⟨gx, 0, none⟩ = some (.slice Ax X.nodes.length cx) ∧ w'.cell? ⟨gx, 1, none⟩ = some (.int .i64 X.root) := fun w' hb =>
                ⟨(HNk.out.below hb HNk.out.lt).nine, (HBXk.out.below hb HBXk.out.lt).cell 0, (HBXk.out.below hb HBXk.out.lt).cell 1⟩
              have HCX := Lib.hid hcx
              have HGx := Lib.hid (fun (wx : World) (hb : Below wk.heap.size wk wx) => (HXk.out.has.below hb).given (HK.out _ (HWk.out.trans (hb.mono HWk.out.size))) (by omega : X.nodes.length ≤ 500000))
              have HRx : Hid (∀ wx, Below wk.heap.size wk wx → Calls Tryd.prog 26 #[.agg #[.slice Ax X.nodes.length cx, .int .i64 X.root]] wx fun e w' => e = .returned (.agg #[.int .u8 N.d.kind, .int .u64 N.d.s0, .int .u64 N.d.s1, .int .u64 N.d.s2, .int .u64 N.d.s3, .string ⟨N.d.text.toArray⟩, .int .i64 N.d.min, .int .i64 N.d.max, .slice none 0 0]) ∧ Below wx.heap.size wx w') := Lib.hid fun wx hb =>
                (Root_g (HGx.out wx hb)).mono fun e w' h => by
                  obtain ⟨⟨N0, he, hN0⟩, hbb⟩ := h
                  exact ⟨by rw [he, hN0, HXROOT.out]; rfl, hbb⟩
              have HEn : Hid (∀ wx : World, ∀ g1, Blk wx g1 34 #[.int .u8 N.d.kind, .int .u64 N.d.s0, .int .u64 N.d.s1, .int .u64 N.d.s2, .int .u64 N.d.s3, .string ⟨N.d.text.toArray⟩, .int .i64 N.d.min, .int .i64 N.d.max, .slice none 0 0] → ∀ g2, Blk wx g2 34 #[.int .u8 N.d.kind, .int .u64 N.d.s0, .int .u64 N.d.s1, .int .u64 N.d.s2, .int .u64 N.d.s3, .string ⟨N.d.text.toArray⟩, .int .i64 N.d.min, .int .i64 N.d.max, .slice none 0 0] → Calls Tryd.prog 13 #[.agg #[.slice (some ⟨g1, 0, none⟩) 1 1, .int .i64 0], .agg #[.slice (some ⟨g2, 0, none⟩) 1 1, .int .i64 0]] wx fun e w' => e = .returned (.bool true) ∧ Below wx.heap.size wx w') := Lib.hid fun wx g1 h1 g2 h2 => by
                have h := exact_g (node_tree (N := ⟨N.d, []⟩) (S := fun b => b < wx.heap.size) h1 (RInts.empty _ _ _ _) HDO.out h1.lt) (node_tree (N := ⟨N.d, []⟩) (S := fun b => b < wx.heap.size) h2 (RInts.empty _ _ _ _) HDO.out h2.lt) (fun _ h => h) (fun _ h => h) (by simp)
                simpa using h
              have HSx : Hid (∀ wx, Below wk.heap.size wk wx → Calls Tryd.prog 21 #[.agg #[.slice Ax X.nodes.length cx, .int .i64 X.root]] wx fun e w' => e = .returned (.int .i64 SZ) ∧ Below wx.heap.size wx w') := Lib.hid fun wx hb => by
                have h := size_g (HGx.out wx hb)
                rw [HXSIZE.out] at h; exact h
              have HDx : Hid (∀ wx, Below wk.heap.size wk wx → Calls Tryd.prog 17 #[.agg #[.slice Ax X.nodes.length cx, .int .i64 X.root]] wx fun e w' => e = .returned (.int .i64 ((DP : Int) + 1)) ∧ Below wx.heap.size wx w') := Lib.hid fun wx hb => by
                have h := Depth_g (HGx.out wx hb)
                rw [HXDEEP.out] at h; exact h
              have HRt : Hid (∀ wx, Below wk.heap.size wk wx → Calls Tryd.prog 11 #[.agg #[.slice Ax X.nodes.length cx, .int .i64 X.root]] wx fun e w' => e = .returned (.bool true) ∧ Below wx.heap.size wx w') := Lib.hid fun wx hb => by
                have h := right_g (HGx.out wx hb)
                rw [decide_eq_true HXR.out] at h; exact h
              have HCl : Hid (∀ wx, Below wk.heap.size wk wx → Calls Tryd.prog 12 #[.agg #[.slice Ax X.nodes.length cx, .int .i64 X.root]] wx fun e w' => ∃ u, e = .returned u ∧ HasT w' u X ∧ Below wx.heap.size wx w') := Lib.hid fun wx hb =>
                (Clean_g (HGx.out wx hb)).mono fun e w' h => by
                  obtain ⟨u, hu, ho, hbb⟩ := h
                  have hr := clean_root (t := X) (by omega)
                  rw [HXCLEAN.out] at ho hr
                  exact ⟨u, hu, ho.has hr.1 hr.2, hbb⟩
              have HEx : Hid (∀ wx, Below wk.heap.size wk wx → ∀ u, HasT wx u X → Calls Tryd.prog 13 #[u, .agg #[.slice Ax X.nodes.length cx, .int .i64 X.root]] wx fun e w' => e = .returned (.bool true) ∧ Below wx.heap.size wx w') := Lib.hid fun wx hb u hu => by
                have h := exact_g hu (HXk.out.has.below hb) (fun _ h => h) (fun _ h => h) (by omega)
                simpa using h
              clear hcx
/- R17< -/
              refine wp_region_inv (G := Unit) () UE UN
                [fun v _ => v = .agg #[.slice Ax X.nodes.length cx, .int .i64 X.root], fun v _ => v = .agg #[.int .u8 N.d.kind, .int .u64 N.d.s0, .int .u64 N.d.s1, .int .u64 N.d.s2, .int .u64 N.d.s3, .string ⟨N.d.text.toArray⟩, .int .i64 N.d.min, .int .i64 N.d.max, .slice none 0 0], fun v s => ∃ g, v = .slice (some ⟨g, 0, none⟩) 1 1 ∧ Blk s.2 g 34 #[.int .u8 N.d.kind, .int .u64 N.d.s0, .int .u64 N.d.s1, .int .u64 N.d.s2, .int .u64 N.d.s3, .string ⟨N.d.text.toArray⟩, .int .i64 N.d.min, .int .i64 N.d.max, .slice none 0 0], fun v s => ∃ g, v = .agg #[.slice (some ⟨g, 0, none⟩) 1 1, .int .i64 0] ∧ Blk s.2 g 34 #[.int .u8 N.d.kind, .int .u64 N.d.s0, .int .u64 N.d.s1, .int .u64 N.d.s2, .int .u64 N.d.s3, .string ⟨N.d.text.toArray⟩, .int .i64 N.d.min, .int .i64 N.d.max, .slice none 0 0], fun v _ => v = .agg #[.int .u8 N.d.kind, .int .u64 N.d.s0, .int .u64 N.d.s1, .int .u64 N.d.s2, .int .u64 N.d.s3, .string ⟨N.d.text.toArray⟩, .int .i64 N.d.min, .int .i64 N.d.max, .slice none 0 0], fun v s => ∃ g, v = .slice (some ⟨g, 0, none⟩) 1 1 ∧ Blk s.2 g 34 #[.int .u8 N.d.kind, .int .u64 N.d.s0, .int .u64 N.d.s1, .int .u64 N.d.s2, .int .u64 N.d.s3, .string ⟨N.d.text.toArray⟩, .int .i64 N.d.min, .int .i64 N.d.max, .slice none 0 0], fun v s => ∃ g, v = .agg #[.slice (some ⟨g, 0, none⟩) 1 1, .int .i64 0] ∧ Blk s.2 g 34 #[.int .u8 N.d.kind, .int .u64 N.d.s0, .int .u64 N.d.s1, .int .u64 N.d.s2, .int .u64 N.d.s3, .string ⟨N.d.text.toArray⟩, .int .i64 N.d.min, .int .i64 N.d.max, .slice none 0 0], fun v _ => v = .bool true, fun v _ => v = .bool false, fun v _ => v = .bool false, fun v _ => v = .slice Akk ts.length ckk, fun v _ => v = .int .i64 ts.length, fun v _ => v = .slice Al ts.length cl, fun v _ => v = .int .i64 ts.length, fun v _ => v = .bool false, fun v _ => v = .bool false, fun v _ => v = .bool false, fun v _ => v = .agg #[.slice Ax X.nodes.length cx, .int .i64 X.root], fun v _ => v = .int .i64 SZ, fun v _ => v = .int .i64 SZ, fun v _ => v = .bool false, fun v _ => v = .bool false, fun v _ => v = .bool false, fun v _ => v = .agg #[.slice Ax X.nodes.length cx, .int .i64 X.root], fun v _ => v = .int .i64 ((DP : Int) + 1), fun v _ => v = .int .i64 DP, fun v _ => v = .int .i64 ((DP : Int) + 1), fun v _ => v = .bool false, fun v _ => v = .bool false, fun v _ => v = .bool false, fun v _ => v = .agg #[.slice Ax X.nodes.length cx, .int .i64 X.root], fun v _ => v = .bool true, fun v _ => v = .bool false, fun v _ => v = .bool false, fun v _ => v = .bool false, fun v _ => v = .agg #[.slice Ax X.nodes.length cx, .int .i64 X.root], fun v s => HasT s.2 v X, fun v _ => v = .agg #[.slice Ax X.nodes.length cx, .int .i64 X.root], fun v _ => v = .bool true, fun v _ => v = .bool false, fun v _ => v = .bool false]
                (by kernel_rfl) UE.trans (UE.refl _) (by kernel_rfl) (by kernel_rfl) (fun _ => trivial) ?rstg3 ?rstepsg3 ?rfing3
              case rstg3 =>
                intro R hR v s s' _ h hr
                simp only [List.mem_cons, List.not_mem_nil, or_false] at hR
                rcases hR with rfl | rfl | rfl | rfl | rfl | rfl | rfl | rfl | rfl | rfl | rfl | rfl | rfl | rfl | rfl | rfl | rfl | rfl | rfl | rfl | rfl | rfl | rfl | rfl | rfl | rfl | rfl | rfl | rfl | rfl | rfl | rfl | rfl | rfl | rfl | rfl | rfl | rfl | rfl | rfl | rfl
                · exact hr
                · exact hr
                · exact hr.imp fun _ h' => ⟨h'.1, h'.2.below h h'.2.lt⟩
                · exact hr.imp fun _ h' => ⟨h'.1, h'.2.below h h'.2.lt⟩
                · exact hr
                · exact hr.imp fun _ h' => ⟨h'.1, h'.2.below h h'.2.lt⟩
                · exact hr.imp fun _ h' => ⟨h'.1, h'.2.below h h'.2.lt⟩
                · exact hr
                · exact hr
                · exact hr
                · exact hr
                · exact hr
                · exact hr
                · exact hr
                · exact hr
                · exact hr
                · exact hr
                · exact hr
                · exact hr
                · exact hr
                · exact hr
                · exact hr
                · exact hr
                · exact hr
                · exact hr
                · exact hr
                · exact hr
                · exact hr
                · exact hr
                · exact hr
                · exact hr
                · exact hr
                · exact hr
                · exact hr
                · exact hr
                · exact hr
                · exact HasT.below hr h
                · exact hr
                · exact hr
                · exact hr
                · exact hr
              case rstepsg3 =>
                refine ⟨?_, ?_, ?_, ?_, ?_, ?_, ?_, ?_, ?_, ?_, ?_, ?_, ?_, ?_, ?_, ?_, ?_, ?_, ?_, ?_, ?_, ?_, ?_, ?_, ?_, ?_, ?_, ?_, ?_, ?_, ?_, ?_, ?_, ?_, ?_, ?_, ?_, ?_, ?_, ?_, ?_, trivial⟩
                · intro o a γ wx ho hB hE hN hW K hK
                  simp only [List.getElem?_toArray, List.getElem?_cons_zero, List.getElem?_cons_succ, Option.some.injEq] at ho
                  subst ho
                  have hw := UE.start hE
                  have h7 : a.tmps[7]? = some (.pointer (some ⟨gx, 0, none⟩)) := (hB.at_ 7 (of_decide_eq_true (by kernel_rfl))).trans rfl
                  have hc := HCX.out _ hw
                  clear hB hN hE
                  go_simp
                  exact hK (.agg #[.slice Ax X.nodes.length cx, .int .i64 X.root]) () _ (UE.refl _) (fun _ _ h => h) rfl
                · intro o a γ wx ho hB hE hN hW K hK
                  simp only [List.getElem?_toArray, List.getElem?_cons_zero, List.getElem?_cons_succ, Option.some.injEq] at ho
                  subst ho
                  have hw := UE.start hE
                  obtain ⟨⟨_, h81, rfl⟩, -⟩ := hW
                  clear hB hN hE
                  go_simp
                  refine (HRx.out _ hw).mono ?_
                  rintro e w' ⟨rfl, hbb⟩
                  exact hK _ () _ hbb (fun _ _ h => h) rfl
                · intro o a γ wx ho hB hE hN hW K hK
                  simp only [List.getElem?_toArray, List.getElem?_cons_zero, List.getElem?_cons_succ, Option.some.injEq] at ho
                  subst ho
                  have hw := UE.start hE
                  obtain ⟨⟨_, h82, rfl⟩, -⟩ := hW
                  clear hB hE
                  go_simp
                  exact hK _ () _ UE.alloc (fun _ _ h => h) ⟨wx.heap.size, rfl, Blk.new _ _ _⟩
                · intro o a γ wx ho hB hE hN hW K hK
                  simp only [List.getElem?_toArray, List.getElem?_cons_zero, List.getElem?_cons_succ, Option.some.injEq] at ho
                  subst ho
                  have hw := UE.start hE
                  obtain ⟨⟨v83, h83, ⟨g83, rfl, r83⟩⟩, -⟩ := hW
                  clear hB hN hE
                  go_simp
                  exact hK (_) () _ (UE.refl _) (fun _ _ h => h) ⟨g83, rfl, r83⟩
                · intro o a γ wx ho hB hE hN hW K hK
                  simp only [List.getElem?_toArray, List.getElem?_cons_zero, List.getElem?_cons_succ, Option.some.injEq] at ho
                  subst ho
                  have hw := UE.start hE
                  have h3 : a.tmps[3]? = some (.pointer (some ⟨w.heap.size, 0, none⟩)) := (hB.at_ 3 (of_decide_eq_true (by kernel_rfl))).trans rfl
                  have hc := HCX.out _ hw
                  clear hB hN hE
                  go_simp
                  exact hK (.agg #[.int .u8 N.d.kind, .int .u64 N.d.s0, .int .u64 N.d.s1, .int .u64 N.d.s2, .int .u64 N.d.s3, .string ⟨N.d.text.toArray⟩, .int .i64 N.d.min, .int .i64 N.d.max, .slice none 0 0]) () _ (UE.refl _) (fun _ _ h => h) rfl
                · intro o a γ wx ho hB hE hN hW K hK
                  simp only [List.getElem?_toArray, List.getElem?_cons_zero, List.getElem?_cons_succ, Option.some.injEq] at ho
                  subst ho
                  have hw := UE.start hE
                  obtain ⟨⟨_, h85, rfl⟩, -⟩ := hW
                  clear hB hE
                  go_simp
                  exact hK _ () _ UE.alloc (fun _ _ h => h) ⟨wx.heap.size, rfl, Blk.new _ _ _⟩
                · intro o a γ wx ho hB hE hN hW K hK
                  simp only [List.getElem?_toArray, List.getElem?_cons_zero, List.getElem?_cons_succ, Option.some.injEq] at ho
                  subst ho
                  have hw := UE.start hE
                  obtain ⟨⟨v86, h86, ⟨g86, rfl, r86⟩⟩, -⟩ := hW
                  clear hB hN hE
                  go_simp
                  exact hK (_) () _ (UE.refl _) (fun _ _ h => h) ⟨g86, rfl, r86⟩
                · intro o a γ wx ho hB hE hN hW K hK
                  simp only [List.getElem?_toArray, List.getElem?_cons_zero, List.getElem?_cons_succ, Option.some.injEq] at ho
                  subst ho
                  have hw := UE.start hE
                  obtain ⟨⟨v84, h84, ⟨g84, rfl, r84⟩⟩, ⟨v87, h87, ⟨g87, rfl, r87⟩⟩, ⟨_, h82, rfl⟩, -⟩ := hW
                  clear hB hN hE
                  go_simp
                  refine (HEn.out _ _ r84 _ r87).mono ?_
                  rintro e w' ⟨rfl, hbb⟩
                  exact hK _ () _ hbb (fun _ _ h => h) rfl
                · intro o a γ wx ho hB hE hN hW K hK
                  simp only [List.getElem?_toArray, List.getElem?_cons_zero, List.getElem?_cons_succ, Option.some.injEq] at ho
                  subst ho
                  have hw := UE.start hE
                  obtain ⟨⟨_, h88, rfl⟩, -⟩ := hW
                  clear hB hN hE
                  go_simp
                  exact hK (.bool false) () _ (UE.refl _) (fun _ _ h => h) rfl
                · intro o a γ wx ho hB hE hN hW K hK
                  simp only [List.getElem?_toArray, List.getElem?_cons_zero, List.getElem?_cons_succ, Option.some.injEq] at ho
                  subst ho
                  have hw := UE.start hE
                  obtain ⟨⟨_, h89, rfl⟩, ⟨_, h88, rfl⟩, -⟩ := hW
                  clear hB hN hE
                  go_simp
                  exact hK (.bool false) () _ (UE.refl _) (fun _ _ h => h) rfl
                · intro o a γ wx ho hB hE hN hW K hK
                  simp only [List.getElem?_toArray, List.getElem?_cons_zero, List.getElem?_cons_succ, Option.some.injEq] at ho
                  subst ho
                  have hw := UE.start hE
                  obtain ⟨⟨_, h90, rfl⟩, -⟩ := hW
                  have h13 : a.tmps[13]? = some (.slice Akk ts.length ckk) := (hB.at_ 13 (of_decide_eq_true (by kernel_rfl))).trans rfl
                  clear hB hN hE
                  go_simp
                  exact hK (.slice Akk ts.length ckk) () _ (UE.refl _) (fun _ _ h => h) rfl
                · intro o a γ wx ho hB hE hN hW K hK
                  simp only [List.getElem?_toArray, List.getElem?_cons_zero, List.getElem?_cons_succ, Option.some.injEq] at ho
                  subst ho
                  have hw := UE.start hE
                  obtain ⟨⟨_, h91, rfl⟩, ⟨_, h90, rfl⟩, -⟩ := hW
                  clear hB hN hE
                  go_simp
                  exact hK (.int .i64 ts.length) () _ (UE.refl _) (fun _ _ h => h) rfl
                · intro o a γ wx ho hB hE hN hW K hK
                  simp only [List.getElem?_toArray, List.getElem?_cons_zero, List.getElem?_cons_succ, Option.some.injEq] at ho
                  subst ho
                  have hw := UE.start hE
                  obtain ⟨⟨_, h90, rfl⟩, -⟩ := hW
                  have h1 : a.tmps[1]? = some (.slice Al ts.length cl) := (hB.at_ 1 (of_decide_eq_true (by kernel_rfl))).trans rfl
                  clear hB hN hE
                  go_simp
                  exact hK (.slice Al ts.length cl) () _ (UE.refl _) (fun _ _ h => h) rfl
                · intro o a γ wx ho hB hE hN hW K hK
                  simp only [List.getElem?_toArray, List.getElem?_cons_zero, List.getElem?_cons_succ, Option.some.injEq] at ho
                  subst ho
                  have hw := UE.start hE
                  obtain ⟨⟨_, h93, rfl⟩, ⟨_, h90, rfl⟩, -⟩ := hW
                  clear hB hN hE
                  go_simp
                  exact hK (.int .i64 ts.length) () _ (UE.refl _) (fun _ _ h => h) rfl
                · intro o a γ wx ho hB hE hN hW K hK
                  simp only [List.getElem?_toArray, List.getElem?_cons_zero, List.getElem?_cons_succ, Option.some.injEq] at ho
                  subst ho
                  have hw := UE.start hE
                  obtain ⟨⟨_, h92, rfl⟩, ⟨_, h94, rfl⟩, ⟨_, h90, rfl⟩, -⟩ := hW
                  clear hB hN hE
                  go_simp
                  exact hK (.bool false) () _ (UE.refl _) (fun _ _ h => h) rfl
                · intro o a γ wx ho hB hE hN hW K hK
                  simp only [List.getElem?_toArray, List.getElem?_cons_zero, List.getElem?_cons_succ, Option.some.injEq] at ho
                  subst ho
                  have hw := UE.start hE
                  obtain ⟨⟨_, h90, rfl⟩, ⟨_, h95, rfl⟩, -⟩ := hW
                  clear hB hN hE
                  go_simp
                  exact hK (.bool false) () _ (UE.refl _) (fun _ _ h => h) rfl
                · intro o a γ wx ho hB hE hN hW K hK
                  simp only [List.getElem?_toArray, List.getElem?_cons_zero, List.getElem?_cons_succ, Option.some.injEq] at ho
                  subst ho
                  have hw := UE.start hE
                  obtain ⟨⟨_, h96, rfl⟩, ⟨_, h90, rfl⟩, -⟩ := hW
                  clear hB hN hE
                  go_simp
                  exact hK (.bool false) () _ (UE.refl _) (fun _ _ h => h) rfl
                · intro o a γ wx ho hB hE hN hW K hK
                  simp only [List.getElem?_toArray, List.getElem?_cons_zero, List.getElem?_cons_succ, Option.some.injEq] at ho
                  subst ho
                  have hw := UE.start hE
                  obtain ⟨⟨_, h97, rfl⟩, -⟩ := hW
                  have h7 : a.tmps[7]? = some (.pointer (some ⟨gx, 0, none⟩)) := (hB.at_ 7 (of_decide_eq_true (by kernel_rfl))).trans rfl
                  have hc := HCX.out _ hw
                  clear hB hN hE
                  go_simp
                  exact hK (.agg #[.slice Ax X.nodes.length cx, .int .i64 X.root]) () _ (UE.refl _) (fun _ _ h => h) rfl
                · intro o a γ wx ho hB hE hN hW K hK
                  simp only [List.getElem?_toArray, List.getElem?_cons_zero, List.getElem?_cons_succ, Option.some.injEq] at ho
                  subst ho
                  have hw := UE.start hE
                  obtain ⟨⟨_, h98, rfl⟩, ⟨_, h97, rfl⟩, -, -⟩ := hW
                  clear hB hN hE
                  go_simp
                  refine (HSx.out _ hw).mono ?_
                  rintro e w' ⟨rfl, hbb⟩
                  exact hK _ () _ hbb (fun _ _ h => h) rfl
                · intro o a γ wx ho hB hE hN hW K hK
                  simp only [List.getElem?_toArray, List.getElem?_cons_zero, List.getElem?_cons_succ, Option.some.injEq] at ho
                  subst ho
                  have hw := UE.start hE
                  obtain ⟨⟨_, h97, rfl⟩, -⟩ := hW
                  have h10 : a.tmps[10]? = some (.int .i64 SZ) := (hB.at_ 10 (of_decide_eq_true (by kernel_rfl))).trans rfl
                  clear hB hN hE
                  go_simp
                  exact hK (.int .i64 SZ) () _ (UE.refl _) (fun _ _ h => h) rfl
                · intro o a γ wx ho hB hE hN hW K hK
                  simp only [List.getElem?_toArray, List.getElem?_cons_zero, List.getElem?_cons_succ, Option.some.injEq] at ho
                  subst ho
                  have hw := UE.start hE
                  obtain ⟨⟨_, h99, rfl⟩, ⟨_, h100, rfl⟩, ⟨_, h97, rfl⟩, -⟩ := hW
                  clear hB hN hE
                  go_simp
                  exact hK (.bool false) () _ (UE.refl _) (fun _ _ h => h) rfl
                · intro o a γ wx ho hB hE hN hW K hK
                  simp only [List.getElem?_toArray, List.getElem?_cons_zero, List.getElem?_cons_succ, Option.some.injEq] at ho
                  subst ho
                  have hw := UE.start hE
                  obtain ⟨⟨_, h97, rfl⟩, ⟨_, h101, rfl⟩, -⟩ := hW
                  clear hB hN hE
                  go_simp
                  exact hK (.bool false) () _ (UE.refl _) (fun _ _ h => h) rfl
                · intro o a γ wx ho hB hE hN hW K hK
                  simp only [List.getElem?_toArray, List.getElem?_cons_zero, List.getElem?_cons_succ, Option.some.injEq] at ho
                  subst ho
                  have hw := UE.start hE
                  obtain ⟨⟨_, h102, rfl⟩, ⟨_, h99, rfl⟩, -⟩ := hW
                  clear hB hN hE
                  go_simp
                  exact hK (.bool false) () _ (UE.refl _) (fun _ _ h => h) rfl
                · intro o a γ wx ho hB hE hN hW K hK
                  simp only [List.getElem?_toArray, List.getElem?_cons_zero, List.getElem?_cons_succ, Option.some.injEq] at ho
                  subst ho
                  have hw := UE.start hE
                  obtain ⟨⟨_, h103, rfl⟩, -⟩ := hW
                  have h7 : a.tmps[7]? = some (.pointer (some ⟨gx, 0, none⟩)) := (hB.at_ 7 (of_decide_eq_true (by kernel_rfl))).trans rfl
                  have hc := HCX.out _ hw
                  clear hB hN hE
                  go_simp
                  exact hK (.agg #[.slice Ax X.nodes.length cx, .int .i64 X.root]) () _ (UE.refl _) (fun _ _ h => h) rfl
                · intro o a γ wx ho hB hE hN hW K hK
                  simp only [List.getElem?_toArray, List.getElem?_cons_zero, List.getElem?_cons_succ, Option.some.injEq] at ho
                  subst ho
                  have hw := UE.start hE
                  obtain ⟨⟨_, h104, rfl⟩, ⟨_, h103, rfl⟩, -, -⟩ := hW
                  clear hB hN hE
                  go_simp
                  refine (HDx.out _ hw).mono ?_
                  rintro e w' ⟨rfl, hbb⟩
                  exact hK _ () _ hbb (fun _ _ h => h) rfl
                · intro o a γ wx ho hB hE hN hW K hK
                  simp only [List.getElem?_toArray, List.getElem?_cons_zero, List.getElem?_cons_succ, Option.some.injEq] at ho
                  subst ho
                  have hw := UE.start hE
                  obtain ⟨⟨_, h103, rfl⟩, -⟩ := hW
                  have h11 : a.tmps[11]? = some (.int .i64 DP) := (hB.at_ 11 (of_decide_eq_true (by kernel_rfl))).trans rfl
                  clear hB hN hE
                  go_simp
                  exact hK (.int .i64 DP) () _ (UE.refl _) (fun _ _ h => h) rfl
                · intro o a γ wx ho hB hE hN hW K hK
                  simp only [List.getElem?_toArray, List.getElem?_cons_zero, List.getElem?_cons_succ, Option.some.injEq] at ho
                  subst ho
                  have hw := UE.start hE
                  obtain ⟨⟨_, h106, rfl⟩, ⟨_, h103, rfl⟩, -⟩ := hW
                  clear hB hN hE
                  have hwr : IntKind.i64.wrap ((DP : Int) + 1) = (DP : Int) + 1 := IntWalk.i64_in _ (by omega)
                  go_simp
                  exact hK (.int .i64 ((DP : Int) + 1)) () _ (UE.refl _) (fun _ _ h => h) rfl
                · intro o a γ wx ho hB hE hN hW K hK
                  simp only [List.getElem?_toArray, List.getElem?_cons_zero, List.getElem?_cons_succ, Option.some.injEq] at ho
                  subst ho
                  have hw := UE.start hE
                  obtain ⟨⟨_, h105, rfl⟩, ⟨_, h107, rfl⟩, ⟨_, h103, rfl⟩, -⟩ := hW
                  clear hB hN hE
                  go_simp
                  exact hK (.bool false) () _ (UE.refl _) (fun _ _ h => h) rfl
                · intro o a γ wx ho hB hE hN hW K hK
                  simp only [List.getElem?_toArray, List.getElem?_cons_zero, List.getElem?_cons_succ, Option.some.injEq] at ho
                  subst ho
                  have hw := UE.start hE
                  obtain ⟨⟨_, h103, rfl⟩, ⟨_, h108, rfl⟩, -⟩ := hW
                  clear hB hN hE
                  go_simp
                  exact hK (.bool false) () _ (UE.refl _) (fun _ _ h => h) rfl
                · intro o a γ wx ho hB hE hN hW K hK
                  simp only [List.getElem?_toArray, List.getElem?_cons_zero, List.getElem?_cons_succ, Option.some.injEq] at ho
                  subst ho
                  have hw := UE.start hE
                  obtain ⟨⟨_, h109, rfl⟩, ⟨_, h105, rfl⟩, -⟩ := hW
                  clear hB hN hE
                  go_simp
                  exact hK (.bool false) () _ (UE.refl _) (fun _ _ h => h) rfl
                · intro o a γ wx ho hB hE hN hW K hK
                  simp only [List.getElem?_toArray, List.getElem?_cons_zero, List.getElem?_cons_succ, Option.some.injEq] at ho
                  subst ho
                  have hw := UE.start hE
                  obtain ⟨⟨_, h110, rfl⟩, -⟩ := hW
                  have h7 : a.tmps[7]? = some (.pointer (some ⟨gx, 0, none⟩)) := (hB.at_ 7 (of_decide_eq_true (by kernel_rfl))).trans rfl
                  have hc := HCX.out _ hw
                  clear hB hN hE
                  go_simp
                  exact hK (.agg #[.slice Ax X.nodes.length cx, .int .i64 X.root]) () _ (UE.refl _) (fun _ _ h => h) rfl
                · intro o a γ wx ho hB hE hN hW K hK
                  simp only [List.getElem?_toArray, List.getElem?_cons_zero, List.getElem?_cons_succ, Option.some.injEq] at ho
                  subst ho
                  have hw := UE.start hE
                  obtain ⟨⟨_, h111, rfl⟩, ⟨_, h110, rfl⟩, -, -⟩ := hW
                  clear hB hN hE
                  go_simp
                  refine (HRt.out _ hw).mono ?_
                  rintro e w' ⟨rfl, hbb⟩
                  exact hK _ () _ hbb (fun _ _ h => h) rfl
                · intro o a γ wx ho hB hE hN hW K hK
                  simp only [List.getElem?_toArray, List.getElem?_cons_zero, List.getElem?_cons_succ, Option.some.injEq] at ho
                  subst ho
                  have hw := UE.start hE
                  obtain ⟨⟨_, h112, rfl⟩, ⟨_, h110, rfl⟩, -⟩ := hW
                  clear hB hN hE
                  go_simp
                  exact hK (.bool false) () _ (UE.refl _) (fun _ _ h => h) rfl
                · intro o a γ wx ho hB hE hN hW K hK
                  simp only [List.getElem?_toArray, List.getElem?_cons_zero, List.getElem?_cons_succ, Option.some.injEq] at ho
                  subst ho
                  have hw := UE.start hE
                  obtain ⟨⟨_, h110, rfl⟩, ⟨_, h113, rfl⟩, -⟩ := hW
                  clear hB hN hE
                  go_simp
                  exact hK (.bool false) () _ (UE.refl _) (fun _ _ h => h) rfl
                · intro o a γ wx ho hB hE hN hW K hK
                  simp only [List.getElem?_toArray, List.getElem?_cons_zero, List.getElem?_cons_succ, Option.some.injEq] at ho
                  subst ho
                  have hw := UE.start hE
                  obtain ⟨⟨_, h114, rfl⟩, ⟨_, h112, rfl⟩, -⟩ := hW
                  clear hB hN hE
                  go_simp
                  exact hK (.bool false) () _ (UE.refl _) (fun _ _ h => h) rfl
                · intro o a γ wx ho hB hE hN hW K hK
                  simp only [List.getElem?_toArray, List.getElem?_cons_zero, List.getElem?_cons_succ, Option.some.injEq] at ho
                  subst ho
                  have hw := UE.start hE
                  obtain ⟨⟨_, h115, rfl⟩, -⟩ := hW
                  have h7 : a.tmps[7]? = some (.pointer (some ⟨gx, 0, none⟩)) := (hB.at_ 7 (of_decide_eq_true (by kernel_rfl))).trans rfl
                  have hc := HCX.out _ hw
                  clear hB hN hE
                  go_simp
                  exact hK (.agg #[.slice Ax X.nodes.length cx, .int .i64 X.root]) () _ (UE.refl _) (fun _ _ h => h) rfl
                · intro o a γ wx ho hB hE hN hW K hK
                  simp only [List.getElem?_toArray, List.getElem?_cons_zero, List.getElem?_cons_succ, Option.some.injEq] at ho
                  subst ho
                  have hw := UE.start hE
                  obtain ⟨⟨_, h116, rfl⟩, ⟨_, h115, rfl⟩, -, -⟩ := hW
                  clear hB hN hE
                  go_simp
                  refine (HCl.out _ hw).mono ?_
                  rintro e w' ⟨u, rfl, hu, hbb⟩
                  exact hK _ () _ hbb (fun _ _ h => h) hu
                · intro o a γ wx ho hB hE hN hW K hK
                  simp only [List.getElem?_toArray, List.getElem?_cons_zero, List.getElem?_cons_succ, Option.some.injEq] at ho
                  subst ho
                  have hw := UE.start hE
                  obtain ⟨⟨_, h115, rfl⟩, -⟩ := hW
                  have h7 : a.tmps[7]? = some (.pointer (some ⟨gx, 0, none⟩)) := (hB.at_ 7 (of_decide_eq_true (by kernel_rfl))).trans rfl
                  have hc := HCX.out _ hw
                  clear hB hN hE
                  go_simp
                  exact hK (.agg #[.slice Ax X.nodes.length cx, .int .i64 X.root]) () _ (UE.refl _) (fun _ _ h => h) rfl
                · intro o a γ wx ho hB hE hN hW K hK
                  simp only [List.getElem?_toArray, List.getElem?_cons_zero, List.getElem?_cons_succ, Option.some.injEq] at ho
                  subst ho
                  have hw := UE.start hE
                  obtain ⟨⟨v117, h117, r117⟩, ⟨_, h118, rfl⟩, -, ⟨_, h115, rfl⟩, -⟩ := hW
                  clear hB hN hE
                  go_simp
                  refine (HEx.out _ hw _ r117).mono ?_
                  rintro e w' ⟨rfl, hbb⟩
                  exact hK _ () _ hbb (fun _ _ h => h) rfl
                · intro o a γ wx ho hB hE hN hW K hK
                  simp only [List.getElem?_toArray, List.getElem?_cons_zero, List.getElem?_cons_succ, Option.some.injEq] at ho
                  subst ho
                  have hw := UE.start hE
                  obtain ⟨⟨_, h119, rfl⟩, ⟨_, h115, rfl⟩, -⟩ := hW
                  clear hB hN hE
                  go_simp
                  exact hK (.bool false) () _ (UE.refl _) (fun _ _ h => h) rfl
                · intro o a γ wx ho hB hE hN hW K hK
                  simp only [List.getElem?_toArray, List.getElem?_cons_zero, List.getElem?_cons_succ, Option.some.injEq] at ho
                  subst ho
                  have hw := UE.start hE
                  obtain ⟨⟨_, h115, rfl⟩, ⟨_, h120, rfl⟩, -⟩ := hW
                  clear hB hN hE
                  go_simp
                  exact hK (.bool false) () _ (UE.refl _) (fun _ _ h => h) rfl
              intro a' γ wx hB hE hK
              obtain ⟨⟨_, h81, rfl⟩, ⟨_, h82, rfl⟩, ⟨v83, h83, ⟨g83, rfl, r83⟩⟩, ⟨v84, h84, ⟨g84, rfl, r84⟩⟩, ⟨_, h85, rfl⟩, ⟨v86, h86, ⟨g86, rfl, r86⟩⟩, ⟨v87, h87, ⟨g87, rfl, r87⟩⟩, ⟨_, h88, rfl⟩, ⟨_, h89, rfl⟩, ⟨_, h90, rfl⟩, ⟨_, h91, rfl⟩, ⟨_, h92, rfl⟩, ⟨_, h93, rfl⟩, ⟨_, h94, rfl⟩, ⟨_, h95, rfl⟩, ⟨_, h96, rfl⟩, ⟨_, h97, rfl⟩, ⟨_, h98, rfl⟩, ⟨_, h99, rfl⟩, ⟨_, h100, rfl⟩, ⟨_, h101, rfl⟩, ⟨_, h102, rfl⟩, ⟨_, h103, rfl⟩, ⟨_, h104, rfl⟩, ⟨_, h105, rfl⟩, ⟨_, h106, rfl⟩, ⟨_, h107, rfl⟩, ⟨_, h108, rfl⟩, ⟨_, h109, rfl⟩, ⟨_, h110, rfl⟩, ⟨_, h111, rfl⟩, ⟨_, h112, rfl⟩, ⟨_, h113, rfl⟩, ⟨_, h114, rfl⟩, ⟨_, h115, rfl⟩, ⟨_, h116, rfl⟩, ⟨v117, h117, r117⟩, ⟨_, h118, rfl⟩, ⟨_, h119, rfl⟩, ⟨_, h120, rfl⟩, ⟨_, h121, rfl⟩, -⟩ := hK
              have ha := hB.eq [(81, .agg #[.slice Ax X.nodes.length cx, .int .i64 X.root]), (82, .agg #[.int .u8 N.d.kind, .int .u64 N.d.s0, .int .u64 N.d.s1, .int .u64 N.d.s2, .int .u64 N.d.s3, .string ⟨N.d.text.toArray⟩, .int .i64 N.d.min, .int .i64 N.d.max, .slice none 0 0]), (83, .slice (some ⟨g83, 0, none⟩) 1 1), (84, .agg #[.slice (some ⟨g84, 0, none⟩) 1 1, .int .i64 0]), (85, .agg #[.int .u8 N.d.kind, .int .u64 N.d.s0, .int .u64 N.d.s1, .int .u64 N.d.s2, .int .u64 N.d.s3, .string ⟨N.d.text.toArray⟩, .int .i64 N.d.min, .int .i64 N.d.max, .slice none 0 0]), (86, .slice (some ⟨g86, 0, none⟩) 1 1), (87, .agg #[.slice (some ⟨g87, 0, none⟩) 1 1, .int .i64 0]), (88, .bool true), (89, .bool false), (90, .bool false), (91, .slice Akk ts.length ckk), (92, .int .i64 ts.length), (93, .slice Al ts.length cl), (94, .int .i64 ts.length), (95, .bool false), (96, .bool false), (97, .bool false), (98, .agg #[.slice Ax X.nodes.length cx, .int .i64 X.root]), (99, .int .i64 SZ), (100, .int .i64 SZ), (101, .bool false), (102, .bool false), (103, .bool false), (104, .agg #[.slice Ax X.nodes.length cx, .int .i64 X.root]), (105, .int .i64 ((DP : Int) + 1)), (106, .int .i64 DP), (107, .int .i64 ((DP : Int) + 1)), (108, .bool false), (109, .bool false), (110, .bool false), (111, .agg #[.slice Ax X.nodes.length cx, .int .i64 X.root]), (112, .bool true), (113, .bool false), (114, .bool false), (115, .bool false), (116, .agg #[.slice Ax X.nodes.length cx, .int .i64 X.root]), (117, v117), (118, .agg #[.slice Ax X.nodes.length cx, .int .i64 X.root]), (119, .bool true), (120, .bool false), (121, .bool false)] rfl (by kernel_rfl) ⟨h81, h82, h83, h84, h85, h86, h87, h88, h89, h90, h91, h92, h93, h94, h95, h96, h97, h98, h99, h100, h101, h102, h103, h104, h105, h106, h107, h108, h109, h110, h111, h112, h113, h114, h115, h116, h117, h118, h119, h120, h121, trivial⟩
              subst ha
              have hw := UE.start hE
              clear hB hE h81 h82 h83 h84 h85 h86 h87 h88 h89 h90 h91 h92 h93 h94 h95 h96 h97 h98 h99 h100 h101 h102 h103 h104 h105 h106 h107 h108 h109 h110 h111 h112 h113 h114 h115 h116 h117 h118 h119 h120 h121
              simp only [putAll, List.foldl_cons, List.foldl_nil, List.setIfInBounds_toArray, List.set_cons_succ, List.set_cons_zero]
              /- >R17 -/
              obtain ⟨w17, hw17⟩ : ∃ w17, w17 = wx := ⟨_, rfl⟩
              have HW17 := Lib.hid hw
              rw [← hw17] at HW17 ⊢
              clear hw17 hw r83 r84 r86 r87 r117 HRx HEn HSx HDx HRt HCl HEx HCX HGx
              go_wp2_with fail
              go_loopw [14] (fun i wr => ∃ j : Nat, j ≤ ts.length ∧ i = .int .i64 j ∧ Hid (Below wk.heap.size wk wr)) (fun i _ => ts.length - (intOf i).toNat)
              case atStart => exact ⟨0, Nat.zero_le _, rfl, HW17⟩
              case round =>
                clear HW17
                obtain ⟨wo, rfl⟩ : ∃ wo, wo = wr := ⟨_, rfl⟩
                obtain ⟨j, hj, rfl, HLo⟩ := hrel
                by_cases hlt : j < ts.length
                · have hlt' : (j : Int) < (ts.length : Int) := by omega
                  obtain ⟨tj, htj⟩ : ∃ tj, ts[j]? = some tj := ⟨_, List.getElem?_eq_getElem hlt⟩
                  have hmj : (ts.map fun t => flatT (treeOf t))[j]? = some (flatT (treeOf tj)) := by rw [List.getElem?_map, htj]; rfl
                  have hw0 := HWk.out.trans (HLo.out.mono HWk.out.size)
                  have hrj := HALL.out tj (List.mem_of_getElem? htj)
                  have hsj : tj.nodes.length ≤ 4000 := by have := nodesSum_mem (List.mem_of_getElem? htj); have := HSL.out.sum; omega
                  have hgk : GivenL (ts.map fun t => flatT (treeOf t)) (.slice Akk ts.length ckk) (fun b => b < wo.heap.size) wo := ⟨(HOK.out.below HLo.out fun _ h => h).more fun b h => Nat.lt_of_lt_of_le h HLo.out.size, fun _ h => h, HK.out _ hw0, fun x hx => by
                    obtain ⟨y, hy, rfl⟩ := List.mem_map.1 hx
                    rw [flatT_len, (HALL.out y hy).size]
                    have := nodesSum_mem hy; have := HSL.out.sum; omega, by rw [List.length_map]; have := HSL.out.few; omega⟩
                  obtain ⟨bk, ok, A1, c1, rfl, -, hg1, k0, k1⟩ := hgk.at_ j _ hmj
                  obtain ⟨bl, ol, A2, c2, rfl, -, hg2, l0, l1⟩ := (HGL.out _ hw0).at_ j tj htj
                  obtain ⟨n1, hn1⟩ : ∃ n1, n1 = (flatT (treeOf tj)).nodes.length := ⟨_, rfl⟩
                  obtain ⟨r1, hr1⟩ : ∃ r1, r1 = (flatT (treeOf tj)).root := ⟨_, rfl⟩
                  obtain ⟨n2, hn2⟩ : ∃ n2, n2 = tj.nodes.length := ⟨_, rfl⟩
                  obtain ⟨r2, hr2⟩ : ∃ r2, r2 = tj.root := ⟨_, rfl⟩
                  rw [← hn1] at k0 hg1
                  rw [← hr1] at k1 hg1
                  rw [← hn2] at l0 hg2
                  rw [← hr2] at l1 hg2
                  have hcr : ∀ w' : World, Below wo.heap.size wo w' → w'.cell? ⟨bk, ok + j * 2, none⟩ = some (.slice A1 n1 c1) ∧ w'.cell? ⟨bk, ok + j * 2 + 1, none⟩ = some (.int .i64 r1) ∧ w'.cell? ⟨bl, ol + j * 2, none⟩ = some (.slice A2 n2 c2) ∧ w'.cell? ⟨bl, ol + j * 2 + 1, none⟩ = some (.int .i64 r2) := fun w' hb =>
                    ⟨(hb.cell (p := ⟨bk, ok + j * 2, none⟩) (cell_lt k0)).trans k0, (hb.cell (p := ⟨bk, ok + j * 2 + 1, none⟩) (cell_lt k1)).trans k1, (hb.cell (p := ⟨bl, ol + j * 2, none⟩) (cell_lt l0)).trans l0, (hb.cell (p := ⟨bl, ol + j * 2 + 1, none⟩) (cell_lt l1)).trans l1⟩
                  have HCR := Lib.hid hcr
                  have HSm : Hid (∀ wx, Below wo.heap.size wo wx → Calls Tryd.prog 14 #[.agg #[.slice A1 n1 c1, .int .i64 r1], .agg #[.slice A2 n2 c2, .int .i64 r2]] wx fun e w' => e = .returned (.bool true) ∧ Below wx.heap.size wx w') := Lib.hid fun wx hb => by
                    have h := Same_g (hg1.below hb) (hg2.below hb)
                    rw [decide_eq_true (show SameT (flatT (treeOf tj)) tj from ⟨right_flat hrj.fitT, hrj, treeOf_flat _⟩)] at h
                    exact h
                  have hb0 : 0 < ts.length := by omega
                  clear hcr k0 k1 l0 l1 hg1 hg2 hgk hmj htj hn1 hr1 hn2 hr2 hrj hw0
                  go_wp2_with fail
/- R22< -/
                  refine wp_region_inv (G := Unit) () UE UN
                    [fun v _ => v = .slice (some ⟨bk, ok, none⟩) ts.length ckk, fun v _ => v = .int .i64 j, fun v _ => v = .pointer (some ⟨bk, ok + j * 2, none⟩), fun v _ => v = .agg #[.slice A1 n1 c1, .int .i64 r1], fun v _ => v = .slice (some ⟨bl, ol, none⟩) ts.length cl, fun v _ => v = .int .i64 j, fun v _ => v = .pointer (some ⟨bl, ol + j * 2, none⟩), fun v _ => v = .agg #[.slice A2 n2 c2, .int .i64 r2], fun v _ => v = .bool true, fun v _ => v = .bool false]
                    (by kernel_rfl) UE.trans (UE.refl _) (by kernel_rfl) (by kernel_rfl) (fun _ => trivial) ?rstg4 ?rstepsg4 ?rfing4
                  case rstg4 =>
                    intro R hR v s s' _ h hr
                    simp only [List.mem_cons, List.not_mem_nil, or_false] at hR
                    rcases hR with rfl | rfl | rfl | rfl | rfl | rfl | rfl | rfl | rfl | rfl
                    · exact hr
                    · exact hr
                    · exact hr
                    · exact hr
                    · exact hr
                    · exact hr
                    · exact hr
                    · exact hr
                    · exact hr
                    · exact hr
                  case rstepsg4 =>
                    refine ⟨?_, ?_, ?_, ?_, ?_, ?_, ?_, ?_, ?_, ?_, trivial⟩
                    · intro o a γ wx ho hB hE hN hW K hK
                      simp only [List.getElem?_toArray, List.getElem?_cons_zero, List.getElem?_cons_succ, Option.some.injEq] at ho
                      subst ho
                      have hw := UE.start hE
                      have h13 : a.tmps[13]? = some (.slice (some ⟨bk, ok, none⟩) ts.length ckk) := (hB.at_ 13 (of_decide_eq_true (by kernel_rfl))).trans rfl
                      clear hB hN hE
                      go_simp
                      exact hK (.slice (some ⟨bk, ok, none⟩) ts.length ckk) () _ (UE.refl _) (fun _ _ h => h) rfl
                    · intro o a γ wx ho hB hE hN hW K hK
                      simp only [List.getElem?_toArray, List.getElem?_cons_zero, List.getElem?_cons_succ, Option.some.injEq] at ho
                      subst ho
                      have hw := UE.start hE
                      have h14 : a.tmps[14]? = some (.int .i64 j) := (hB.at_ 14 (of_decide_eq_true (by kernel_rfl))).trans rfl
                      clear hB hN hE
                      go_simp
                      exact hK (.int .i64 j) () _ (UE.refl _) (fun _ _ h => h) rfl
                    · intro o a γ wx ho hB hE hN hW K hK
                      simp only [List.getElem?_toArray, List.getElem?_cons_zero, List.getElem?_cons_succ, Option.some.injEq] at ho
                      subst ho
                      have hw := UE.start hE
                      obtain ⟨⟨_, h128, rfl⟩, ⟨_, h129, rfl⟩, -⟩ := hW
                      clear hB hN hE
                      go_simp
                      exact hK (.pointer (some ⟨bk, ok + j * 2, none⟩)) () _ (UE.refl _) (fun _ _ h => h) rfl
                    · intro o a γ wx ho hB hE hN hW K hK
                      simp only [List.getElem?_toArray, List.getElem?_cons_zero, List.getElem?_cons_succ, Option.some.injEq] at ho
                      subst ho
                      have hw := UE.start hE
                      obtain ⟨⟨_, h130, rfl⟩, -⟩ := hW
                      have hc := HCR.out _ hw
                      clear hB hN hE
                      go_simp
                      exact hK (.agg #[.slice A1 n1 c1, .int .i64 r1]) () _ (UE.refl _) (fun _ _ h => h) rfl
                    · intro o a γ wx ho hB hE hN hW K hK
                      simp only [List.getElem?_toArray, List.getElem?_cons_zero, List.getElem?_cons_succ, Option.some.injEq] at ho
                      subst ho
                      have hw := UE.start hE
                      have h1 : a.tmps[1]? = some (.slice (some ⟨bl, ol, none⟩) ts.length cl) := (hB.at_ 1 (of_decide_eq_true (by kernel_rfl))).trans rfl
                      clear hB hN hE
                      go_simp
                      exact hK (.slice (some ⟨bl, ol, none⟩) ts.length cl) () _ (UE.refl _) (fun _ _ h => h) rfl
                    · intro o a γ wx ho hB hE hN hW K hK
                      simp only [List.getElem?_toArray, List.getElem?_cons_zero, List.getElem?_cons_succ, Option.some.injEq] at ho
                      subst ho
                      have hw := UE.start hE
                      have h14 : a.tmps[14]? = some (.int .i64 j) := (hB.at_ 14 (of_decide_eq_true (by kernel_rfl))).trans rfl
                      clear hB hN hE
                      go_simp
                      exact hK (.int .i64 j) () _ (UE.refl _) (fun _ _ h => h) rfl
                    · intro o a γ wx ho hB hE hN hW K hK
                      simp only [List.getElem?_toArray, List.getElem?_cons_zero, List.getElem?_cons_succ, Option.some.injEq] at ho
                      subst ho
                      have hw := UE.start hE
                      obtain ⟨⟨_, h132, rfl⟩, ⟨_, h133, rfl⟩, -⟩ := hW
                      clear hB hN hE
                      go_simp
                      exact hK (.pointer (some ⟨bl, ol + j * 2, none⟩)) () _ (UE.refl _) (fun _ _ h => h) rfl
                    · intro o a γ wx ho hB hE hN hW K hK
                      simp only [List.getElem?_toArray, List.getElem?_cons_zero, List.getElem?_cons_succ, Option.some.injEq] at ho
                      subst ho
                      have hw := UE.start hE
                      obtain ⟨⟨_, h134, rfl⟩, -⟩ := hW
                      have hc := HCR.out _ hw
                      clear hB hN hE
                      go_simp
                      exact hK (.agg #[.slice A2 n2 c2, .int .i64 r2]) () _ (UE.refl _) (fun _ _ h => h) rfl
                    · intro o a γ wx ho hB hE hN hW K hK
                      simp only [List.getElem?_toArray, List.getElem?_cons_zero, List.getElem?_cons_succ, Option.some.injEq] at ho
                      subst ho
                      have hw := UE.start hE
                      obtain ⟨⟨_, h131, rfl⟩, ⟨_, h135, rfl⟩, -⟩ := hW
                      clear hB hN hE
                      go_simp
                      refine (HSm.out _ hw).mono ?_
                      rintro e w' ⟨rfl, hbb⟩
                      exact hK _ () _ hbb (fun _ _ h => h) rfl
                    · intro o a γ wx ho hB hE hN hW K hK
                      simp only [List.getElem?_toArray, List.getElem?_cons_zero, List.getElem?_cons_succ, Option.some.injEq] at ho
                      subst ho
                      have hw := UE.start hE
                      obtain ⟨⟨_, h136, rfl⟩, -⟩ := hW
                      clear hB hN hE
                      go_simp
                      exact hK (.bool false) () _ (UE.refl _) (fun _ _ h => h) rfl
                  intro a' γ wx hB hE hK
                  obtain ⟨⟨_, h128, rfl⟩, ⟨_, h129, rfl⟩, ⟨_, h130, rfl⟩, ⟨_, h131, rfl⟩, ⟨_, h132, rfl⟩, ⟨_, h133, rfl⟩, ⟨_, h134, rfl⟩, ⟨_, h135, rfl⟩, ⟨_, h136, rfl⟩, ⟨_, h137, rfl⟩, -⟩ := hK
                  have ha := hB.eq [(128, .slice (some ⟨bk, ok, none⟩) ts.length ckk), (129, .int .i64 j), (130, .pointer (some ⟨bk, ok + j * 2, none⟩)), (131, .agg #[.slice A1 n1 c1, .int .i64 r1]), (132, .slice (some ⟨bl, ol, none⟩) ts.length cl), (133, .int .i64 j), (134, .pointer (some ⟨bl, ol + j * 2, none⟩)), (135, .agg #[.slice A2 n2 c2, .int .i64 r2]), (136, .bool true), (137, .bool false)] rfl (by kernel_rfl) ⟨h128, h129, h130, h131, h132, h133, h134, h135, h136, h137, trivial⟩
                  subst ha
                  have hw := UE.start hE
                  clear hB hE h128 h129 h130 h131 h132 h133 h134 h135 h136 h137
                  simp only [putAll, List.foldl_cons, List.foldl_nil, List.setIfInBounds_toArray, List.set_cons_succ, List.set_cons_zero]
                  /- >R22 -/
                  go_wp2_with fail
                  go_roundw
                  case measure => simp [intOf]; omega
                  case rel => exact ⟨j + 1, by omega, by go_num, Lib.hid (HLo.out.trans (hw.mono HLo.out.size))⟩
                · obtain rfl : j = ts.length := by omega
                  have HWt := Lib.hid (HWk.out.trans (HLo.out.mono HWk.out.size))
                  have HTt := Lib.hid (HTk.out.below HLo.out HTk.out.lt)
                  clear HLo hlt hj
                  go_wp2_with fail
                  obtain ⟨wt, hwt⟩ : ∃ wt, wt = wo := ⟨_, rfl⟩
                  rw [← hwt] at HWt HTt ⊢
                  clear hwt
                  have hct : ∀ w' : World, Below wt.heap.size wt w' → w'.cell? ⟨w.heap.size + 1, 0, none⟩ = some (.slice At t.nodes.length ct) ∧ w'.cell? ⟨w.heap.size + 1, 1, none⟩ = some (.int .i64 t.root) := fun w' hb =>
                    ⟨(HTt.out.below hb HTt.out.lt).cell 0, (HTt.out.below hb HTt.out.lt).cell 1⟩
                  have HCT := Lib.hid hct
                  have HG := Lib.hid (fun (wx : World) (hb : Below wt.heap.size wt wx) => (HT.out.below (HWt.out.trans (hb.mono HWt.out.size))).given (HK.out _ (HWt.out.trans (hb.mono HWt.out.size))) (by have := HM.out; omega))
                  have HRo : Hid (∀ wx, Below wt.heap.size wt wx → Calls Tryd.prog 26 #[.agg #[.slice At t.nodes.length ct, .int .i64 t.root]] wx fun e w' => e = .returned (.agg (nodeC (rootOf t).d (.slice none 0 0))) ∧ Below wx.heap.size wx w') := Lib.hid fun wx hb =>
                    (Root_g (HG.out wx hb)).mono fun e w' h => by
                      obtain ⟨⟨N0, he, hN0⟩, hbb⟩ := h
                      exact ⟨by rw [he, hN0]; rfl, hbb⟩
                  have HKi := Lib.hid (fun (wx : World) (hb : Below wt.heap.size wt wx) => Kids_g (HG.out wx hb))
                  have HKS := Lib.hid (kids_small HM.out)
                  have HOR := Lib.hid (of_root (d := (rootOf t).d) (ts := kidsOfT t) HKS.out)
                  have HOf : Hid (∀ wx, Below wt.heap.size wt wx → ∀ v, RTrees wx (fun b => b < wx.heap.size) v (kidsOfT t) → Calls Tryd.prog 19 #[.agg (nodeC (rootOf t).d (.slice none 0 0)), v] wx fun e w' => ∃ u, e = .returned (.tuple #[u, .bool (ofB (rootOf t).d (kidsOfT t))]) ∧ OwnTree w' wx.heap.size u (ofT (rootOf t).d (kidsOfT t)) ∧ Below wx.heap.size wx w') := Lib.hid fun wx hb v hv => by
                    have h := of_g (N := rootOf t) (kv0 := .slice none 0 0) (root_ok (HG.out wt (Below.refl _ _)).read) (ts := kidsOfT t) (v := v) (S := fun b => b < wx.heap.size) (w := wx) ⟨hv, fun _ h => h, (HG.out wx hb).tab, fun x hx => by have := nodesSum_mem hx; have := HKS.out; omega, by have := kids_few HM.out; omega⟩ (by have := HKS.out; unfold nodesSum at this; omega)
                    refine h.mono fun e w' h => ?_
                    obtain ⟨u, x, is, he, ho, hi, hbb⟩ := h
                    obtain ⟨rfl, rfl⟩ := hi.eq
                    exact ⟨u, he, ho, hbb⟩
                  clear hct
/- R24A< -/
                  refine wp_region_inv (G := BG) BG.none_ (BE TT ZT) (BN [.other, .other, .other, .other, .other, .other, .other, .other, .box, .store 8, .other])
                    [fun v _ => v = .agg #[.slice At t.nodes.length ct, .int .i64 t.root], fun v _ => v = .agg (nodeC (rootOf t).d (.slice none 0 0)), fun v _ => v = .agg #[.slice At t.nodes.length ct, .int .i64 t.root], RFreeL (kidsOfT t), fun v s => ∃ u, v = .tuple #[u, .bool (ofB (rootOf t).d (kidsOfT t))] ∧ RFreeT (ofT (rootOf t).d (kidsOfT t)) u s, fun v s => ∃ u, v = .tuple #[u, .bool (ofB (rootOf t).d (kidsOfT t))] ∧ RFreeT (ofT (rootOf t).d (kidsOfT t)) u s, RFreeT (ofT (rootOf t).d (kidsOfT t)), fun v _ => v = .bool (ofB (rootOf t).d (kidsOfT t)), RBox 8, RFillT 8 (ofT (rootOf t).d (kidsOfT t)), fun v _ => v = .bool (ofB (rootOf t).d (kidsOfT t))]
                    (by kernel_rfl) (fun _ _ _ => BE.trans) (BE.refl _) (by kernel_rfl) (by kernel_rfl) (BN.none_ _) ?rstg1 ?rstepsg1 ?rfing1
                  case rstg1 =>
                    intro R hR v s s' _ h hr
                    simp only [List.mem_cons, List.not_mem_nil, or_false] at hR
                    rcases hR with rfl | rfl | rfl | rfl | rfl | rfl | rfl | rfl | rfl | rfl | rfl
                    · exact hr
                    · exact hr
                    · exact hr
                    · exact hr.keep h
                    · exact hr.imp fun _ h' => ⟨h'.1, h'.2.keep h⟩
                    · exact hr.imp fun _ h' => ⟨h'.1, h'.2.keep h⟩
                    · exact hr.keep h
                    · exact hr
                    · exact hr.keep h
                    · exact hr.keep h
                    · exact hr
                  case rstepsg1 =>
                    refine ⟨?_, ?_, ?_, ?_, ?_, ?_, ?_, ?_, ?_, ?_, ?_, trivial⟩
                    · intro o a γ wx ho hB hE hN hW K hK
                      simp only [List.getElem?_toArray, List.getElem?_cons_zero, List.getElem?_cons_succ, Option.some.injEq] at ho
                      subst ho
                      have hw := hE.below_drew
                      have h5 : a.tmps[5]? = some (.pointer (some ⟨w.heap.size + 1, 0, none⟩)) := (hB.at_ 5 (of_decide_eq_true (by kernel_rfl))).trans rfl
                      have hc := HCT.out _ hw
                      clear hB hN hE
                      go_simp
                      exact hK (.agg #[.slice At t.nodes.length ct, .int .i64 t.root]) γ _ (BE.refl _) (fun _ _ h => h) rfl
                    · intro o a γ wx ho hB hE hN hW K hK
                      simp only [List.getElem?_toArray, List.getElem?_cons_zero, List.getElem?_cons_succ, Option.some.injEq] at ho
                      subst ho
                      have hw := hE.below_drew
                      obtain ⟨⟨_, h139, rfl⟩, -⟩ := hW
                      have hok := hE.boxes
                      clear hB hN hE
                      go_simp
                      refine (HRo.out _ hw).mono ?_
                      rintro e w' ⟨rfl, hbb⟩
                      exact hK _ γ _ (BE.call hbb) (fun _ _ h => h) rfl
                    · intro o a γ wx ho hB hE hN hW K hK
                      simp only [List.getElem?_toArray, List.getElem?_cons_zero, List.getElem?_cons_succ, Option.some.injEq] at ho
                      subst ho
                      have hw := hE.below_drew
                      have h5 : a.tmps[5]? = some (.pointer (some ⟨w.heap.size + 1, 0, none⟩)) := (hB.at_ 5 (of_decide_eq_true (by kernel_rfl))).trans rfl
                      have hc := HCT.out _ hw
                      clear hB hN hE
                      go_simp
                      exact hK (.agg #[.slice At t.nodes.length ct, .int .i64 t.root]) γ _ (BE.refl _) (fun _ _ h => h) rfl
                    · intro o a γ wx ho hB hE hN hW K hK
                      simp only [List.getElem?_toArray, List.getElem?_cons_zero, List.getElem?_cons_succ, Option.some.injEq] at ho
                      subst ho
                      have hw := hE.below_drew
                      obtain ⟨⟨_, h141, rfl⟩, ⟨_, h140, rfl⟩, -⟩ := hW
                      have hok := hE.boxes
                      clear hB hN hE
                      go_simp
                      refine (HKi.out _ hw).mono ?_
                      rintro e w' ⟨u, rfl, hu, hbb⟩
                      exact hK _ γ _ (BE.call hbb) (fun _ _ h => h) (RFreeL.own hu hok)
                    · intro o a γ wx ho hB hE hN hW K hK
                      simp only [List.getElem?_toArray, List.getElem?_cons_zero, List.getElem?_cons_succ, Option.some.injEq] at ho
                      subst ho
                      have hw := hE.below_drew
                      obtain ⟨⟨_, h140, rfl⟩, ⟨v142, h142, r142⟩, -, -⟩ := hW
                      have hok := hE.boxes
                      clear hB hN hE
                      go_simp
                      refine (HOf.out _ hw v142 r142.read).mono ?_
                      rintro e w' ⟨u, rfl, hu, hbb⟩
                      exact hK _ γ _ (BE.call hbb) (fun _ _ h => h) ⟨u, rfl, RFreeT.own hu HOR.out.1 HOR.out.2 hok⟩
                    · intro o a γ wx ho hB hE hN hW K hK
                      simp only [List.getElem?_toArray, List.getElem?_cons_zero, List.getElem?_cons_succ, Option.some.injEq] at ho
                      subst ho
                      have hw := hE.below_drew
                      obtain ⟨⟨v143, h143, ⟨u143, rfl, r143⟩⟩, -⟩ := hW
                      clear hB hN hE
                      go_simp
                      exact hK (_) γ _ (BE.refl _) (fun _ _ h => h) ⟨u143, rfl, r143⟩
                    · intro o a γ wx ho hB hE hN hW K hK
                      simp only [List.getElem?_toArray, List.getElem?_cons_zero, List.getElem?_cons_succ, Option.some.injEq] at ho
                      subst ho
                      have hw := hE.below_drew
                      obtain ⟨⟨v138, h138, ⟨u138, rfl, r138⟩⟩, -⟩ := hW
                      clear hB hN hE
                      go_simp
                      exact hK (_) γ _ (BE.refl _) (fun _ _ h => h) r138
                    · intro o a γ wx ho hB hE hN hW K hK
                      simp only [List.getElem?_toArray, List.getElem?_cons_zero, List.getElem?_cons_succ, Option.some.injEq] at ho
                      subst ho
                      have hw := hE.below_drew
                      obtain ⟨⟨v138, h138, ⟨u138, rfl, r138⟩⟩, -⟩ := hW
                      clear hB hN hE
                      go_simp
                      exact hK (.bool (ofB (rootOf t).d (kidsOfT t))) γ _ (BE.refl _) (fun _ _ h => h) rfl
                    · intro o a γ wx ho hB hE hN hW K hK
                      simp only [List.getElem?_toArray, List.getElem?_cons_zero, List.getElem?_cons_succ, Option.some.injEq] at ho
                      subst ho
                      have hw := hE.below_drew
                      clear hB hE
                      go_simp
                      exact hK _ _ _ (BE.alloc (i := 8) hN) BN.alloc RBox.made
                    · intro o a γ wx ho hB hE hN hW K hK
                      simp only [List.getElem?_toArray, List.getElem?_cons_zero, List.getElem?_cons_succ, Option.some.injEq] at ho
                      subst ho
                      have hw := hE.below_drew
                      obtain ⟨⟨v15, h15, r15⟩, ⟨v144, h144, r144⟩, ⟨v143, h143, ⟨u143, rfl, r143⟩⟩, ⟨_, h139, rfl⟩, ⟨_, h140, rfl⟩, ⟨_, h141, rfl⟩, ⟨v142, h142, r142⟩, -, ⟨v138, h138, ⟨u138, rfl, r138⟩⟩, -, -, -⟩ := hW
                      obtain ⟨gb, A, n, c, γ', rfl, rfl, c0, c1, f0, f1, hS, hN', hF⟩ := fill_box hE hN r15 r144
                      clear hB hE
                      go_simp
                      exact hK undef γ' _ hS (hN' _ _ (by kernel_rfl)) hF
                    · intro o a γ wx ho hB hE hN hW K hK
                      simp only [List.getElem?_toArray, List.getElem?_cons_zero, List.getElem?_cons_succ, Option.some.injEq] at ho
                      subst ho
                      have hw := hE.below_drew
                      obtain ⟨⟨_, h145, rfl⟩, ⟨_, r_9⟩, ⟨_, h139, rfl⟩, ⟨_, h140, rfl⟩, ⟨_, h141, rfl⟩, ⟨v142, h142, r142⟩, ⟨v143, h143, ⟨u143, rfl, r143⟩⟩, ⟨v138, h138, ⟨u138, rfl, r138⟩⟩, ⟨v144, h144, r144⟩, -, ⟨v15, h15, r15⟩, -, -⟩ := hW
                      clear hB hN hE
                      go_simp
                      exact hK (.bool (ofB (rootOf t).d (kidsOfT t))) γ _ (BE.refl _) (fun _ _ h => h) rfl
                  intro a' γ wx hB hE hK
                  obtain ⟨⟨_, h139, rfl⟩, ⟨_, h140, rfl⟩, ⟨_, h141, rfl⟩, ⟨v142, h142, r142⟩, ⟨v143, h143, ⟨u143, rfl, r143⟩⟩, ⟨v138, h138, ⟨u138, rfl, r138⟩⟩, ⟨v144, h144, r144⟩, ⟨_, h145, rfl⟩, ⟨v15, h15, r15⟩, ⟨_, r_9⟩, ⟨_, h16, rfl⟩, -⟩ := hK
                  have ha := hB.eq [(139, .agg #[.slice At t.nodes.length ct, .int .i64 t.root]), (140, .agg (nodeC (rootOf t).d (.slice none 0 0))), (141, .agg #[.slice At t.nodes.length ct, .int .i64 t.root]), (142, v142), (143, .tuple #[u143, .bool (ofB (rootOf t).d (kidsOfT t))]), (138, .tuple #[u138, .bool (ofB (rootOf t).d (kidsOfT t))]), (144, v144), (145, .bool (ofB (rootOf t).d (kidsOfT t))), (15, v15), (16, .bool (ofB (rootOf t).d (kidsOfT t)))] rfl (by kernel_rfl) ⟨h139, h140, h141, h142, h143, h138, h144, h145, h15, h16, trivial⟩
                  subst ha
                  have hw := hE.below_drew
                  clear hB h139 h140 h141 h142 h143 h138 h144 h145 h15 h16
                  simp only [putAll, List.foldl_cons, List.foldl_nil, List.setIfInBounds_toArray, List.set_cons_succ, List.set_cons_zero]
                  /- >R24A -/
                  obtain ⟨gy, Ay, ny, cy, rfl, hby, hhy⟩ := box_tree (u := undef) hE r15 r_9
                  have e0 := (HCT.out wx hw).1
                  have e1 := (HCT.out wx hw).2
                  have y0 : wx.cell? ⟨gy, 0, none⟩ = some (.slice Ay ny cy) := hby.cell 0
                  have y1 : wx.cell? ⟨gy, 1, none⟩ = some (.int .i64 (ofT (rootOf t).d (kidsOfT t)).root) := hby.cell 1
                  have HBY := Lib.hid hby
                  have HHY := Lib.hid hhy
                  have HWy := Lib.hid hw
                  have hRt := right_g (HG.out wx hw)
                  clear hE r142 r143 r138 r144 r15 r_9 hby hhy hw
                  go_wp2_with fail
                  by_cases hrt : RightT t
                  · rw [decide_eq_true hrt] at hRt
                    refine hRt.mono ?_
                    rintro e wz ⟨rfl, hbz⟩
                    have ez := HCT.out wz (HWy.out.trans (hbz.mono HWy.out.size))
                    have e2 := ez.1
                    have e3 := ez.2
                    have hbz2 := HBY.out.below hbz HBY.out.lt
                    have y2 : wz.cell? ⟨gy, 0, none⟩ = some (.slice Ay ny cy) := hbz2.cell 0
                    have y3 : wz.cell? ⟨gy, 1, none⟩ = some (.int .i64 (ofT (rootOf t).d (kidsOfT t)).root) := hbz2.cell 1
                    have hofb := of_back hrt
                    have HSm := Same_g ((HHY.out.below hbz).given (HK.out _ (HWt.out.trans ((HWy.out.trans (hbz.mono HWy.out.size)).mono HWt.out.size))) (by rw [hofb.2, flatT_len, hrt.size]; have := HM.out; omega)) (HG.out wz (HWy.out.trans (hbz.mono HWy.out.size)))
                    rw [decide_eq_true (show SameT (ofT (rootOf t).d (kidsOfT t)) t from hofb.2 ▸ ⟨right_flat hrt.fitT, hrt, treeOf_flat _⟩)] at HSm
                    have HSM := Lib.hid HSm
                    have HWz := Lib.hid (HWt.out.trans ((HWy.out.trans (hbz.mono HWy.out.size)).mono HWt.out.size))
                    have HOFB := Lib.hid hofb.1
                    rw [HOFB.out]
                    clear hRt hbz ez hbz2 hofb HSm e0 e1 y0 y1 hrt
                    go_wp2_with fail
                    refine HSM.out.mono ?_
                    rintro e wq ⟨rfl, hbq⟩
                    have HWq := Lib.hid (HWz.out.trans (hbq.mono HWz.out.size))
                    clear hbq e2 e3 y2 y3
                    go_wp2_with fail
                    go_ret
                    exact ⟨rfl, HWq.out⟩
                  · rw [decide_eq_false hrt] at hRt
                    refine hRt.mono ?_
                    rintro e wz ⟨rfl, hbz⟩
                    have HWz := Lib.hid (HWt.out.trans ((HWy.out.trans (hbz.mono HWy.out.size)).mono HWt.out.size))
                    clear hRt hbz hrt e0 e1 y0 y1
                    go_wp2_with fail
                    go_ret
                    exact ⟨rfl, HWz.out⟩
            · obtain ⟨rfl, rfl⟩ := HI.out.no hall
              have hft : fitsTo N.d ts ts.length = false := by
                rw [hfa, Bool.eq_false_iff]
                intro h
                simp only [Bool.and_eq_true, List.all_eq_true, decide_eq_true_eq] at h
                exact hall h
              rw [hft]
              clear hft hfa hall
              have HWt := HW7
              have HTt := Lib.hid hT7
              go_wp2_with fail
              obtain ⟨wt, hwt⟩ : ∃ wt, wt = wo := ⟨_, rfl⟩
              rw [← hwt] at HWt HTt ⊢
              clear hwt
              have hct : ∀ w' : World, Below wt.heap.size wt w' → w'.cell? ⟨w.heap.size + 1, 0, none⟩ = some (.slice At t.nodes.length ct) ∧ w'.cell? ⟨w.heap.size + 1, 1, none⟩ = some (.int .i64 t.root) := fun w' hb =>
                ⟨(HTt.out.below hb HTt.out.lt).cell 0, (HTt.out.below hb HTt.out.lt).cell 1⟩
              have HCT := Lib.hid hct
              have HG := Lib.hid (fun (wx : World) (hb : Below wt.heap.size wt wx) => (HT.out.below (HWt.out.trans (hb.mono HWt.out.size))).given (HK.out _ (HWt.out.trans (hb.mono HWt.out.size))) (by have := HM.out; omega))
              have HRo : Hid (∀ wx, Below wt.heap.size wt wx → Calls Tryd.prog 26 #[.agg #[.slice At t.nodes.length ct, .int .i64 t.root]] wx fun e w' => e = .returned (.agg (nodeC (rootOf t).d (.slice none 0 0))) ∧ Below wx.heap.size wx w') := Lib.hid fun wx hb =>
                (Root_g (HG.out wx hb)).mono fun e w' h => by
                  obtain ⟨⟨N0, he, hN0⟩, hbb⟩ := h
                  exact ⟨by rw [he, hN0]; rfl, hbb⟩
              have HKi := Lib.hid (fun (wx : World) (hb : Below wt.heap.size wt wx) => Kids_g (HG.out wx hb))
              have HKS := Lib.hid (kids_small HM.out)
              have HOR := Lib.hid (of_root (d := (rootOf t).d) (ts := kidsOfT t) HKS.out)
              have HOf : Hid (∀ wx, Below wt.heap.size wt wx → ∀ v, RTrees wx (fun b => b < wx.heap.size) v (kidsOfT t) → Calls Tryd.prog 19 #[.agg (nodeC (rootOf t).d (.slice none 0 0)), v] wx fun e w' => ∃ u, e = .returned (.tuple #[u, .bool (ofB (rootOf t).d (kidsOfT t))]) ∧ OwnTree w' wx.heap.size u (ofT (rootOf t).d (kidsOfT t)) ∧ Below wx.heap.size wx w') := Lib.hid fun wx hb v hv => by
                have h := of_g (N := rootOf t) (kv0 := .slice none 0 0) (root_ok (HG.out wt (Below.refl _ _)).read) (ts := kidsOfT t) (v := v) (S := fun b => b < wx.heap.size) (w := wx) ⟨hv, fun _ h => h, (HG.out wx hb).tab, fun x hx => by have := nodesSum_mem hx; have := HKS.out; omega, by have := kids_few HM.out; omega⟩ (by have := HKS.out; unfold nodesSum at this; omega)
                refine h.mono fun e w' h => ?_
                obtain ⟨u, x, is, he, ho, hi, hbb⟩ := h
                obtain ⟨rfl, rfl⟩ := hi.eq
                exact ⟨u, he, ho, hbb⟩
              clear hct
/- R24B< -/
              refine wp_region_inv (G := BG) BG.none_ (BE TT ZT) (BN [.other, .other, .other, .other, .other, .other, .other, .other, .box, .store 8, .other])
                [fun v _ => v = .agg #[.slice At t.nodes.length ct, .int .i64 t.root], fun v _ => v = .agg (nodeC (rootOf t).d (.slice none 0 0)), fun v _ => v = .agg #[.slice At t.nodes.length ct, .int .i64 t.root], RFreeL (kidsOfT t), fun v s => ∃ u, v = .tuple #[u, .bool (ofB (rootOf t).d (kidsOfT t))] ∧ RFreeT (ofT (rootOf t).d (kidsOfT t)) u s, fun v s => ∃ u, v = .tuple #[u, .bool (ofB (rootOf t).d (kidsOfT t))] ∧ RFreeT (ofT (rootOf t).d (kidsOfT t)) u s, RFreeT (ofT (rootOf t).d (kidsOfT t)), fun v _ => v = .bool (ofB (rootOf t).d (kidsOfT t)), RBox 8, RFillT 8 (ofT (rootOf t).d (kidsOfT t)), fun v _ => v = .bool (ofB (rootOf t).d (kidsOfT t))]
                (by kernel_rfl) (fun _ _ _ => BE.trans) (BE.refl _) (by kernel_rfl) (by kernel_rfl) (BN.none_ _) ?rstg2 ?rstepsg2 ?rfing2
              case rstg2 =>
                intro R hR v s s' _ h hr
                simp only [List.mem_cons, List.not_mem_nil, or_false] at hR
                rcases hR with rfl | rfl | rfl | rfl | rfl | rfl | rfl | rfl | rfl | rfl | rfl
                · exact hr
                · exact hr
                · exact hr
                · exact hr.keep h
                · exact hr.imp fun _ h' => ⟨h'.1, h'.2.keep h⟩
                · exact hr.imp fun _ h' => ⟨h'.1, h'.2.keep h⟩
                · exact hr.keep h
                · exact hr
                · exact hr.keep h
                · exact hr.keep h
                · exact hr
              case rstepsg2 =>
                refine ⟨?_, ?_, ?_, ?_, ?_, ?_, ?_, ?_, ?_, ?_, ?_, trivial⟩
                · intro o a γ wx ho hB hE hN hW K hK
                  simp only [List.getElem?_toArray, List.getElem?_cons_zero, List.getElem?_cons_succ, Option.some.injEq] at ho
                  subst ho
                  have hw := hE.below_drew
                  have h5 : a.tmps[5]? = some (.pointer (some ⟨w.heap.size + 1, 0, none⟩)) := (hB.at_ 5 (of_decide_eq_true (by kernel_rfl))).trans rfl
                  have hc := HCT.out _ hw
                  clear hB hN hE
                  go_simp
                  exact hK (.agg #[.slice At t.nodes.length ct, .int .i64 t.root]) γ _ (BE.refl _) (fun _ _ h => h) rfl
                · intro o a γ wx ho hB hE hN hW K hK
                  simp only [List.getElem?_toArray, List.getElem?_cons_zero, List.getElem?_cons_succ, Option.some.injEq] at ho
                  subst ho
                  have hw := hE.below_drew
                  obtain ⟨⟨_, h139, rfl⟩, -⟩ := hW
                  have hok := hE.boxes
                  clear hB hN hE
                  go_simp
                  refine (HRo.out _ hw).mono ?_
                  rintro e w' ⟨rfl, hbb⟩
                  exact hK _ γ _ (BE.call hbb) (fun _ _ h => h) rfl
                · intro o a γ wx ho hB hE hN hW K hK
                  simp only [List.getElem?_toArray, List.getElem?_cons_zero, List.getElem?_cons_succ, Option.some.injEq] at ho
                  subst ho
                  have hw := hE.below_drew
                  have h5 : a.tmps[5]? = some (.pointer (some ⟨w.heap.size + 1, 0, none⟩)) := (hB.at_ 5 (of_decide_eq_true (by kernel_rfl))).trans rfl
                  have hc := HCT.out _ hw
                  clear hB hN hE
                  go_simp
                  exact hK (.agg #[.slice At t.nodes.length ct, .int .i64 t.root]) γ _ (BE.refl _) (fun _ _ h => h) rfl
                · intro o a γ wx ho hB hE hN hW K hK
                  simp only [List.getElem?_toArray, List.getElem?_cons_zero, List.getElem?_cons_succ, Option.some.injEq] at ho
                  subst ho
                  have hw := hE.below_drew
                  obtain ⟨⟨_, h141, rfl⟩, ⟨_, h140, rfl⟩, -⟩ := hW
                  have hok := hE.boxes
                  clear hB hN hE
                  go_simp
                  refine (HKi.out _ hw).mono ?_
                  rintro e w' ⟨u, rfl, hu, hbb⟩
                  exact hK _ γ _ (BE.call hbb) (fun _ _ h => h) (RFreeL.own hu hok)
                · intro o a γ wx ho hB hE hN hW K hK
                  simp only [List.getElem?_toArray, List.getElem?_cons_zero, List.getElem?_cons_succ, Option.some.injEq] at ho
                  subst ho
                  have hw := hE.below_drew
                  obtain ⟨⟨_, h140, rfl⟩, ⟨v142, h142, r142⟩, -, -⟩ := hW
                  have hok := hE.boxes
                  clear hB hN hE
                  go_simp
                  refine (HOf.out _ hw v142 r142.read).mono ?_
                  rintro e w' ⟨u, rfl, hu, hbb⟩
                  exact hK _ γ _ (BE.call hbb) (fun _ _ h => h) ⟨u, rfl, RFreeT.own hu HOR.out.1 HOR.out.2 hok⟩
                · intro o a γ wx ho hB hE hN hW K hK
                  simp only [List.getElem?_toArray, List.getElem?_cons_zero, List.getElem?_cons_succ, Option.some.injEq] at ho
                  subst ho
                  have hw := hE.below_drew
                  obtain ⟨⟨v143, h143, ⟨u143, rfl, r143⟩⟩, -⟩ := hW
                  clear hB hN hE
                  go_simp
                  exact hK (_) γ _ (BE.refl _) (fun _ _ h => h) ⟨u143, rfl, r143⟩
                · intro o a γ wx ho hB hE hN hW K hK
                  simp only [List.getElem?_toArray, List.getElem?_cons_zero, List.getElem?_cons_succ, Option.some.injEq] at ho
                  subst ho
                  have hw := hE.below_drew
                  obtain ⟨⟨v138, h138, ⟨u138, rfl, r138⟩⟩, -⟩ := hW
                  clear hB hN hE
                  go_simp
                  exact hK (_) γ _ (BE.refl _) (fun _ _ h => h) r138
                · intro o a γ wx ho hB hE hN hW K hK
                  simp only [List.getElem?_toArray, List.getElem?_cons_zero, List.getElem?_cons_succ, Option.some.injEq] at ho
                  subst ho
                  have hw := hE.below_drew
                  obtain ⟨⟨v138, h138, ⟨u138, rfl, r138⟩⟩, -⟩ := hW
                  clear hB hN hE
                  go_simp
                  exact hK (.bool (ofB (rootOf t).d (kidsOfT t))) γ _ (BE.refl _) (fun _ _ h => h) rfl
                · intro o a γ wx ho hB hE hN hW K hK
                  simp only [List.getElem?_toArray, List.getElem?_cons_zero, List.getElem?_cons_succ, Option.some.injEq] at ho
                  subst ho
                  have hw := hE.below_drew
                  clear hB hE
                  go_simp
                  exact hK _ _ _ (BE.alloc (i := 8) hN) BN.alloc RBox.made
                · intro o a γ wx ho hB hE hN hW K hK
                  simp only [List.getElem?_toArray, List.getElem?_cons_zero, List.getElem?_cons_succ, Option.some.injEq] at ho
                  subst ho
                  have hw := hE.below_drew
                  obtain ⟨⟨v15, h15, r15⟩, ⟨v144, h144, r144⟩, ⟨v143, h143, ⟨u143, rfl, r143⟩⟩, ⟨_, h139, rfl⟩, ⟨_, h140, rfl⟩, ⟨_, h141, rfl⟩, ⟨v142, h142, r142⟩, -, ⟨v138, h138, ⟨u138, rfl, r138⟩⟩, -, -, -⟩ := hW
                  obtain ⟨gb, A, n, c, γ', rfl, rfl, c0, c1, f0, f1, hS, hN', hF⟩ := fill_box hE hN r15 r144
                  clear hB hE
                  go_simp
                  exact hK undef γ' _ hS (hN' _ _ (by kernel_rfl)) hF
                · intro o a γ wx ho hB hE hN hW K hK
                  simp only [List.getElem?_toArray, List.getElem?_cons_zero, List.getElem?_cons_succ, Option.some.injEq] at ho
                  subst ho
                  have hw := hE.below_drew
                  obtain ⟨⟨_, h145, rfl⟩, ⟨_, r_9⟩, ⟨_, h139, rfl⟩, ⟨_, h140, rfl⟩, ⟨_, h141, rfl⟩, ⟨v142, h142, r142⟩, ⟨v143, h143, ⟨u143, rfl, r143⟩⟩, ⟨v138, h138, ⟨u138, rfl, r138⟩⟩, ⟨v144, h144, r144⟩, -, ⟨v15, h15, r15⟩, -, -⟩ := hW
                  clear hB hN hE
                  go_simp
                  exact hK (.bool (ofB (rootOf t).d (kidsOfT t))) γ _ (BE.refl _) (fun _ _ h => h) rfl
              intro a' γ wx hB hE hK
              obtain ⟨⟨_, h139, rfl⟩, ⟨_, h140, rfl⟩, ⟨_, h141, rfl⟩, ⟨v142, h142, r142⟩, ⟨v143, h143, ⟨u143, rfl, r143⟩⟩, ⟨v138, h138, ⟨u138, rfl, r138⟩⟩, ⟨v144, h144, r144⟩, ⟨_, h145, rfl⟩, ⟨v15, h15, r15⟩, ⟨_, r_9⟩, ⟨_, h16, rfl⟩, -⟩ := hK
              have ha := hB.eq [(139, .agg #[.slice At t.nodes.length ct, .int .i64 t.root]), (140, .agg (nodeC (rootOf t).d (.slice none 0 0))), (141, .agg #[.slice At t.nodes.length ct, .int .i64 t.root]), (142, v142), (143, .tuple #[u143, .bool (ofB (rootOf t).d (kidsOfT t))]), (138, .tuple #[u138, .bool (ofB (rootOf t).d (kidsOfT t))]), (144, v144), (145, .bool (ofB (rootOf t).d (kidsOfT t))), (15, v15), (16, .bool (ofB (rootOf t).d (kidsOfT t)))] rfl (by kernel_rfl) ⟨h139, h140, h141, h142, h143, h138, h144, h145, h15, h16, trivial⟩
              subst ha
              have hw := hE.below_drew
              clear hB h139 h140 h141 h142 h143 h138 h144 h145 h15 h16
              simp only [putAll, List.foldl_cons, List.foldl_nil, List.setIfInBounds_toArray, List.set_cons_succ, List.set_cons_zero]
              /- >R24B -/
              obtain ⟨gy, Ay, ny, cy, rfl, hby, hhy⟩ := box_tree (u := undef) hE r15 r_9
              have e0 := (HCT.out wx hw).1
              have e1 := (HCT.out wx hw).2
              have y0 : wx.cell? ⟨gy, 0, none⟩ = some (.slice Ay ny cy) := hby.cell 0
              have y1 : wx.cell? ⟨gy, 1, none⟩ = some (.int .i64 (ofT (rootOf t).d (kidsOfT t)).root) := hby.cell 1
              have HBY := Lib.hid hby
              have HHY := Lib.hid hhy
              have HWy := Lib.hid hw
              have hRt := right_g (HG.out wx hw)
              clear hE r142 r143 r138 r144 r15 r_9 hby hhy hw
              go_wp2_with fail
              by_cases hrt : RightT t
              · rw [decide_eq_true hrt] at hRt
                refine hRt.mono ?_
                rintro e wz ⟨rfl, hbz⟩
                have ez := HCT.out wz (HWy.out.trans (hbz.mono HWy.out.size))
                have e2 := ez.1
                have e3 := ez.2
                have hbz2 := HBY.out.below hbz HBY.out.lt
                have y2 : wz.cell? ⟨gy, 0, none⟩ = some (.slice Ay ny cy) := hbz2.cell 0
                have y3 : wz.cell? ⟨gy, 1, none⟩ = some (.int .i64 (ofT (rootOf t).d (kidsOfT t)).root) := hbz2.cell 1
                have hofb := of_back hrt
                have HSm := Same_g ((HHY.out.below hbz).given (HK.out _ (HWt.out.trans ((HWy.out.trans (hbz.mono HWy.out.size)).mono HWt.out.size))) (by rw [hofb.2, flatT_len, hrt.size]; have := HM.out; omega)) (HG.out wz (HWy.out.trans (hbz.mono HWy.out.size)))
                rw [decide_eq_true (show SameT (ofT (rootOf t).d (kidsOfT t)) t from hofb.2 ▸ ⟨right_flat hrt.fitT, hrt, treeOf_flat _⟩)] at HSm
                have HSM := Lib.hid HSm
                have HWz := Lib.hid (HWt.out.trans ((HWy.out.trans (hbz.mono HWy.out.size)).mono HWt.out.size))
                have HOFB := Lib.hid hofb.1
                rw [HOFB.out]
                clear hRt hbz ez hbz2 hofb HSm e0 e1 y0 y1 hrt
                go_wp2_with fail
                refine HSM.out.mono ?_
                rintro e wq ⟨rfl, hbq⟩
                have HWq := Lib.hid (HWz.out.trans (hbq.mono HWz.out.size))
                clear hbq e2 e3 y2 y3
                go_wp2_with fail
                go_ret
                exact ⟨rfl, HWq.out⟩
              · rw [decide_eq_false hrt] at hRt
                refine hRt.mono ?_
                rintro e wz ⟨rfl, hbz⟩
                have HWz := Lib.hid (HWt.out.trans ((HWy.out.trans (hbz.mono HWy.out.size)).mono HWt.out.size))
                clear hRt hbz hrt e0 e1 y0 y1
                go_wp2_with fail
                go_ret
                exact ⟨rfl, HWz.out⟩
end Go.Proofs.YtlmlbdmbgfclkaaDoor

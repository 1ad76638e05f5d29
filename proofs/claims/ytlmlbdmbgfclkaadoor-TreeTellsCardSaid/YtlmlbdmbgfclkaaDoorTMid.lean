/- Plain words beside a tree's root and its kids; a tree of one node in a block. -/
import Derived.Test.YtlmlbdmbgfclkaaDoorTMore
import Derived.Test.YtlmlbdmbgfclkaaDoorBoxT
import Derived.Deep.CutBlock
import Derived.Deep.Cut
import Derived.IntWalk
import Derived.Test.YtlmlbdmbgfclkaaDoorTrees
namespace Go.Proofs.YtlmlbdmbgfclkaaDoor
set_option linter.unusedSimpArgs false
open Go.RowKit
open Classical

def nodeC (d : Dt) (kv : Value) : Array Value := #[.int .u8 d.kind, .int .u64 d.s0, .int .u64 d.s1, .int .u64 d.s2, .int .u64 d.s3, .string ⟨d.text.toArray⟩, .int .i64 d.min, .int .i64 d.max, kv]
noncomputable def fitsTo (d : Dt) (ts : List Tr) (j : Nat) : Bool := fits d ts.length && (ts.take j).all fun t => decide (RightT t)
noncomputable def sizeTo (ts : List Tr) (j : Nat) : Nat := 1 + ((ts.take j).map sizeT).sum
noncomputable def deepTo (ts : List Tr) (j : Nat) : Nat := (ts.take j).foldl (fun m t => max m (depthT t)) 0
theorem fitsTo_next {d : Dt} {ts : List Tr} {j : Nat} {t : Tr} (h : ts[j]? = some t) : fitsTo d ts (j + 1) = (fitsTo d ts j && decide (RightT t)) := by
  unfold fitsTo
  rw [List.take_add_one, h]
  simp [Bool.and_assoc]
theorem sizeTo_next {ts : List Tr} {j : Nat} {t : Tr} (h : ts[j]? = some t) : sizeTo ts (j + 1) = sizeTo ts j + sizeT t := by
  unfold sizeTo
  rw [List.take_add_one, h]
  simp; omega
theorem deepTo_next {ts : List Tr} {j : Nat} {t : Tr} (h : ts[j]? = some t) : deepTo ts (j + 1) = max (deepTo ts j) (depthT t) := by
  unfold deepTo
  rw [List.take_add_one, h]
  simp
theorem sizeT_le (t : Tr) : sizeT t ≤ t.nodes.length := by unfold sizeT; split <;> omega
theorem depthT_le (t : Tr) : depthT t ≤ t.nodes.length := by
  unfold depthT
  split
  · rename_i h
    have := depth_le h.shape.low t.root.toNat h.shape.root_lt
    have := h.shape.root_lt
    unfold treeOf; omega
  · omega
theorem sizeTo_le (ts : List Tr) (j : Nat) : sizeTo ts j ≤ 1 + nodesSum ts := by
  have h : ∀ (l : List Tr), (l.map sizeT).sum ≤ nodesSum l := by
    intro l
    induction l with
    | nil => simp [nodesSum]
    | cons t l ih => have := sizeT_le t; unfold nodesSum at ih ⊢; simp; omega
  have h2 : nodesSum (ts.take j) ≤ nodesSum ts := by
    have : nodesSum ts = nodesSum (ts.take j) + nodesSum (ts.drop j) := by unfold nodesSum; rw [← List.sum_append, ← List.map_append, List.take_append_drop]
    omega
  have := h (ts.take j)
  unfold sizeTo; omega
theorem deepTo_le (ts : List Tr) (j b : Nat) (h : ∀ t ∈ ts, t.nodes.length ≤ b) : deepTo ts j ≤ b := by
  unfold deepTo
  have key : ∀ (l : List Tr) (m : Nat), m ≤ b → (∀ t ∈ l, t.nodes.length ≤ b) → l.foldl (fun m t => max m (depthT t)) m ≤ b := by
    intro l
    induction l with
    | nil => intro m hm _; exact hm
    | cons t l ih =>
      intro m hm hl
      simp only [List.foldl_cons]
      refine ih _ ?_ fun t ht => hl t (by simp [ht])
      have := depthT_le t
      have := hl t (by simp)
      omega
  exact key _ _ (Nat.zero_le _) fun t ht => h t (List.mem_of_mem_take ht)

theorem nodesSum_mem {ts : List Tr} {t : Tr} (h : t ∈ ts) : t.nodes.length ≤ nodesSum ts := by
  obtain ⟨a, b, rfl⟩ := List.append_of_mem h
  unfold nodesSum
  simp; omega
theorem IsOf.root_ok {d : Dt} {ts : List Tr} {x : Tr} {is : Bool} {v : Value} {S : Nat → Prop} {w : World} (h : IsOf d ts x is) (_hg : GivenL ts v S w) (hs : (ts.map (·.nodes.length)).sum ≤ 500000) : -9223372036854775808 ≤ x.root ∧ x.root ≤ 9223372036854775807 := by
  by_cases hh : fits d ts.length = true ∧ ∀ t ∈ ts, RightT t
  · obtain ⟨_, rfl⟩ := h.yes hh.1 hh.2
    simp only [flatT, T.size]
    have := sizes_take_le ts hh.2 ts.length
    rw [List.take_length] at this
    omega
  · obtain ⟨_, rfl⟩ := h.no hh
    simp [zeroT]
theorem kids_sizes : ∀ (l : List T), nodesSum (l.map flatT) = sizes l
  | [] => rfl
  | t :: l => by
    have := kids_sizes l
    unfold nodesSum at this ⊢
    simp only [List.map_cons, List.sum_cons, sizes, this, flatT_len]
theorem kids_small {t : Tr} (h : t.nodes.length ≤ 4000) : nodesSum (kidsOfT t) ≤ 4000 := by
  unfold kidsOfT
  split
  · rename_i hr
    rw [kids_sizes]
    have := hr.size
    rw [(treeOf t).eta] at this
    simp only [T.size, T.kids] at this ⊢
    omega
  · simp [nodesSum]
theorem sizes_len (l : List T) : l.length ≤ sizes l := by
  induction l with
  | nil => simp [sizes]
  | cons t l ih => have := t.size_pos; simp [sizes]; omega
theorem kids_few {t : Tr} (h : t.nodes.length ≤ 4000) : (kidsOfT t).length ≤ 4000 := by
  have h1 := kids_small h
  unfold kidsOfT at h1 ⊢
  split
  · rename_i hr
    rw [if_pos hr, kids_sizes] at h1
    have := sizes_len (treeOf t).kids
    rw [List.length_map]; omega
  · simp
theorem of_root {d : Dt} {ts : List Tr} (h : nodesSum ts ≤ 4000) : -9223372036854775808 ≤ (ofT d ts).root ∧ (ofT d ts).root ≤ 9223372036854775807 := by
  unfold ofT
  split
  · rename_i hh
    simp only [flatT, T.size]
    have := sizes_take_le ts hh.2 ts.length
    rw [List.take_length] at this
    unfold nodesSum at h
    omega
  · simp [zeroT]
theorem RTree.ok {w : World} {S : Nat → Prop} {v : Value} {t : Tr} (h : RTree w S v t) : ∀ n ∈ t.nodes, n.d.Ok := by
  obtain ⟨nv, _, ⟨kvs, hl, _, he⟩, _⟩ := h
  intro n hn
  obtain ⟨j, hj⟩ := List.getElem?_of_mem hn
  have hjl : j < t.nodes.length := (List.getElem?_eq_some_iff.1 hj).1
  exact (he j n _ hj (List.getElem?_eq_getElem (by omega : j < kvs.length))).2
theorem root_ok {w : World} {S : Nat → Prop} {v : Value} {t : Tr} (h : RTree w S v t) : (rootOf t).d.Ok := by
  unfold rootOf
  split
  · rename_i hr
    have hN := List.getElem?_eq_getElem hr.shape.root_lt
    have : (treeOf t).d = (t.nodes[t.root.toNat]'hr.shape.root_lt).d := by unfold treeOf; rw [D_eq hr.shape.low hN]; rfl
    show (treeOf t).d.Ok
    rw [this]
    exact h.ok _ (List.getElem_mem _)
  · exact ⟨by decide, by decide, by decide, by decide, by decide⟩
theorem of_back {t : Tr} (hr : RightT t) : ofB (rootOf t).d (kidsOfT t) = true ∧ ofT (rootOf t).d (kidsOfT t) = flatT (treeOf t) := by
  have hf := hr.fitT
  have hk : kidsOfT t = (treeOf t).kids.map flatT := if_pos hr
  have hd : (rootOf t).d = (treeOf t).d := by rw [rootOf, if_pos hr]
  rw [hk, hd]
  generalize treeOf t = u at hf
  obtain ⟨d, ks, h1, h2⟩ := hf
  have hc : fits (T.node d ks).d (((T.node d ks).kids.map flatT).length : Int) = true ∧ ∀ x ∈ (T.node d ks).kids.map flatT, RightT x := by
    refine ⟨by simpa [T.d, T.kids] using h1, fun x hx => ?_⟩
    obtain ⟨k, hk, rfl⟩ := List.mem_map.1 hx
    exact right_flat (h2 k hk)
  unfold ofB ofT
  rw [if_pos hc, decide_eq_true hc]
  refine ⟨rfl, ?_⟩
  simp only [T.d, T.kids, List.map_map]
  have : ks.map (treeOf ∘ flatT) = ks := by
    conv => rhs; rw [← List.map_id ks]
    exact List.map_congr_left fun k _ => treeOf_flat k
  rw [this]
/-- A tree that reads above a block. -/
def MidT (lo : Nat) (w : World) (v : Value) (t : Tr) : Prop := RTree w (fun b => lo < b ∧ b < w.heap.size) v t
theorem MidT.below {lo : Nat} {w w' : World} {v : Value} {t : Tr} (h : MidT lo w v t) (hb : Below w.heap.size w w') : MidT lo w' v t := (RTree.below h hb fun _ h => h.2).more fun _ h => ⟨h.1, Nat.lt_of_lt_of_le h.2 hb.size⟩
theorem MidT.has {lo : Nat} {w : World} {v : Value} {t : Tr} (h : MidT lo w v t) : HasT w v t := h.more fun _ h => h.2
theorem MidT.set_ {lo : Nat} {w : World} {v : Value} {t : Tr} (h : MidT lo w v t) (i : Nat) (u : Value) : MidT lo (w.setCell ⟨lo, i, none⟩ u) v t :=
  (RTree.keep h fun p hp => World.cell?_of_block ((grown_set1 w lo i u).block p.block hp.2 fun e => by injection e with e; have := hp.1; omega)).more fun b h => ⟨h.1, by have := (grown_set1 w lo i u).size; omega⟩
theorem flat_facts {d : Dt} {ts : List Tr} (hf : fits d ts.length = true) (hr : ∀ t ∈ ts, RightT t) : RightT (flatT (.node d (ts.map treeOf))) ∧ rootOf (flatT (.node d (ts.map treeOf))) = ⟨d, []⟩ ∧ kidsOfT (flatT (.node d (ts.map treeOf))) = ts.map (fun t => flatT (treeOf t)) ∧
    sizeT (flatT (.node d (ts.map treeOf))) = sizeTo ts ts.length ∧ depthT (flatT (.node d (ts.map treeOf))) = deepTo ts ts.length + 1 ∧ cleanOf (flatT (.node d (ts.map treeOf))) = flatT (.node d (ts.map treeOf)) := by
  have hR : RightT (flatT (.node d (ts.map treeOf))) := right_flat ⟨d, _, by simpa using hf, fun k hk => by
    obtain ⟨t, ht, rfl⟩ := List.mem_map.1 hk
    exact (hr t ht).fitT⟩
  refine ⟨hR, ?_, ?_, ?_, ?_, ?_⟩
  · rw [rootOf, if_pos hR, treeOf_flat]; rfl
  · rw [kidsOfT, if_pos hR, treeOf_flat]; simp [T.kids, List.map_map, Function.comp_def]
  · rw [sizeT, if_pos hR, flatT_len]
    simp only [T.size, sizeTo, List.take_length]
    congr 1
    clear hf hR
    induction ts with
    | nil => simp [sizes]
    | cons t ts ih =>
      have h1 := hr t (by simp)
      simp only [List.map_cons, sizes, List.sum_cons, ih fun t ht => hr t (by simp [ht])]
      rw [sizeT, if_pos h1, h1.size]
  · rw [depthT, if_pos hR, treeOf_flat]
    simp only [T.depth, deepTo, List.take_length]
    rw [Nat.add_comm]
    congr 1
    clear hf hR
    have key : ∀ (l : List Tr) (m : Nat), (∀ t ∈ l, RightT t) → l.foldl (fun m t => max m (depthT t)) m = max m (depths (l.map treeOf)) := by
      intro l
      induction l with
      | nil => intro m _; simp [depths]
      | cons t l ih =>
        intro m h
        have h1 := h t (by simp)
        simp only [List.foldl_cons, List.map_cons, depths]
        rw [ih _ fun t ht => h t (by simp [ht]), depthT, if_pos h1]
        simp only [Nat.max_def]
        split <;> split <;> (try split) <;> omega
    rw [key ts 0 hr]; simp
  · rw [cleanOf, if_pos hR, treeOf_flat]
/-- A tree of one node, just as it is. -/
theorem node_tree {wx : World} {S : Nat → Prop} {g : Nat} {N : Nd} {kv : Value} (hb : Blk wx g 34 (nodeC N.d kv)) (hk : RInts wx S kv N.kids) (hd : N.d.Ok) (hS : S g) : RTree wx S (.agg #[.slice (some ⟨g, 0, none⟩) 1 1, .int .i64 0]) ⟨[N], 0⟩ :=
  ⟨_, rfl, RNodes.of_blk (ns := [N]) (kvs := [kv]) rfl hb hS (by simp [maxLen]) fun j n k h1 h2 => by
    rcases j with _ | j
    · simp at h1 h2; subst h1; subst h2; exact ⟨hk, hd⟩
    · simp at h2, by simp, by simp⟩

end Go.Proofs.YtlmlbdmbgfclkaaDoor

/- The closed law TreeNames, walked: it answers true. -/
import Derived.Test.YtlmlbdmbgfclkaaDoorTrees
import Derived.Test.YtlmlbdmbgfclkaaDoorTMore
import Derived.Test.YtlmlbdmbgfclkaaDoorTBad
import Derived.Test.YtlmlbdmbgfclkaaDoorRegInv
import Derived.IntWalk
namespace Go.Proofs.YtlmlbdmbgfclkaaDoor
set_option linter.unusedSimpArgs false
open Go.RowKit
open Classical

def aT : Tr := ⟨[⟨textD [97], []⟩], 0⟩
def eT : Tr := ⟨[⟨default, []⟩], 0⟩
theorem aT_flat : aT = flatT (.node (textD [97]) []) := rfl
theorem eT_flat : eT = flatT (.node default []) := rfl
theorem fit_a : FitT (.node (textD [97]) []) := ⟨_, _, (by decide : fits (textD [97]) ((0 : Nat) : Int) = true), fun k hk => by simp at hk⟩
theorem fit_e : FitT (.node default []) := ⟨_, _, (by decide : fits default ((0 : Nat) : Int) = true), fun k hk => by simp at hk⟩
theorem right_a : RightT aT := aT_flat ▸ right_flat fit_a
theorem right_e : RightT eT := eT_flat ▸ right_flat fit_e
theorem tree_a : treeOf aT = .node (textD [97]) [] := by rw [aT_flat, treeOf_flat]
theorem tree_e : treeOf eT = .node default [] := by rw [eT_flat, treeOf_flat]
def fullL : List Tr := List.replicate 1023 aT
def moreL : List Tr := List.replicate 1023 aT ++ [eT]
noncomputable def fullX : Tr := flatT (.node choiceD (fullL.map treeOf))
noncomputable def moreX : Tr := flatT (.node choiceD (moreL.map treeOf))
theorem sizes_rep (n : Nat) (t : T) : sizes (List.replicate n t) = n * t.size := by
  induction n with
  | zero => simp [sizes]
  | succ n ih => simp [List.replicate_succ, sizes, ih, Nat.succ_mul]; omega
theorem depths_rep (n : Nat) (t : T) : depths (List.replicate n t) ≤ t.depth := by
  induction n with
  | zero => simp [depths]
  | succ n ih => simp only [List.replicate_succ, depths, Nat.max_def]; split <;> omega
theorem full_map : fullL.map treeOf = List.replicate 1023 (.node (textD [97]) []) := by unfold fullL; rw [List.map_replicate, tree_a]
theorem more_map : moreL.map treeOf = List.replicate 1023 (.node (textD [97]) []) ++ [.node default []] := by unfold moreL; rw [List.map_append, List.map_replicate, tree_a, List.map_cons, List.map_nil, tree_e]
theorem full_right : ∀ t ∈ fullL, RightT t := fun t ht => by rw [(List.mem_replicate.1 ht).2]; exact right_a
theorem more_right : ∀ t ∈ moreL, RightT t := fun t ht => by
  rcases List.mem_append.1 ht with h | h
  · rw [(List.mem_replicate.1 h).2]; exact right_a
  · simp at h; subst h; exact right_e
theorem full_fits : fits choiceD (fullL.length : Int) = true := by
  have : fullL.length = 1023 := List.length_replicate
  rw [this]; decide
theorem more_fits : fits choiceD (moreL.length : Int) = true := by
  have : moreL.length = 1024 := by unfold moreL; rw [List.length_append, List.length_replicate]; rfl
  rw [this]; decide
theorem fit_list {d : Dt} {ts : List Tr} (hf : fits d ts.length = true) (hr : ∀ t ∈ ts, RightT t) : FitT (.node d (ts.map treeOf)) := ⟨_, _, by simpa using hf, fun k hk => by
  obtain ⟨t, ht, rfl⟩ := List.mem_map.1 hk
  exact (hr t ht).fitT⟩
theorem size_node (d : Dt) (ks : List T) : (T.node d ks).size = 1 + sizes ks := by simp only [T.size]
theorem depth_node (d : Dt) (ks : List T) : (T.node d ks).depth = 1 + depths ks := by simp only [T.depth]
theorem size_leaf (d : Dt) : (T.node d []).size = 1 := rfl
theorem sum_rep (n : Nat) (f : Tr → Nat) (t : Tr) : ((List.replicate n t).map f).sum = n * f t := by
  induction n with
  | zero => simp
  | succ n ih => rw [List.replicate_succ, List.map_cons, List.sum_cons, ih, Nat.succ_mul]; omega
theorem full_size : fullX.nodes.length = 1024 := by
  unfold fullX
  rw [flatT_len, full_map, size_node, sizes_rep, size_leaf]
theorem more_size : moreX.nodes.length = 1025 := by
  unfold moreX
  rw [flatT_len, more_map, size_node, sizes_append, sizes_rep, size_leaf]; rfl
theorem full_rt : RightT fullX := right_flat (fit_list full_fits full_right)
theorem more_rt : RightT moreX := right_flat (fit_list more_fits more_right)
theorem full_may : MayT fullX := by
  refine ⟨by rw [full_size]; omega, full_rt, ?_⟩
  unfold fullX
  rw [treeOf_flat, full_map]
  have := depths_rep 1023 (.node (textD [97]) [])
  have h1 : (T.node (textD [97]) []).depth = 1 := rfl
  rw [depth_node]
  omega
theorem more_may : ¬ MayT moreX := fun h => by have := h.1; rw [more_size] at this; omega
theorem more_sizeT : sizeT moreX = 1025 := by rw [sizeT, if_pos more_rt, more_size]
theorem may_nots31 : MayT (flatT (notsT 31)) := ⟨by rw [flatT_len, notsT_size]; omega, right_nots 31, by rw [treeOf_flat, notsT_depth]; omega⟩
theorem may_nots32 : ¬ MayT (flatT (notsT 32)) := fun h => by have := h.2.2; rw [treeOf_flat, notsT_depth] at this; omega
theorem depth_nots31 : depthT (flatT (notsT 31)) = 32 := by rw [depthT, if_pos (right_nots 31), treeOf_flat, notsT_depth]

theorem cat_l (a b : List UInt8) : (⟨a.toArray⟩ : ByteArray) ++ ⟨b.toArray⟩ = ⟨(a ++ b).toArray⟩ := by
  apply str_eq
  simp
def rep (l : List UInt8) (n : Nat) : List UInt8 := (List.replicate n l).flatten
theorem rep_succ (l : List UInt8) (n : Nat) : rep l (n + 1) = rep l n ++ l := by
  unfold rep
  rw [List.replicate_succ', List.flatten_append]; simp
theorem rep_len (l : List UInt8) (n : Nat) : (rep l n).length = n * l.length := by
  induction n with
  | zero => simp [rep]
  | succ n ih => rw [rep_succ, List.length_append, ih, Nat.succ_mul]
set_option maxHeartbeats 400000 in
theorem copies_any (l : List UInt8) (n : Nat) (hl : l.length ≤ 1000) (hn : n ≤ 1000) (w : World) :
    Calls Tryd.prog 22 #[.string ⟨l.toArray⟩, .int .i64 n] w fun e w' => e = .returned (.string ⟨(rep l n).toArray⟩) ∧ w = w' := by
  go_enter Tryd.func22, Tryd.ntmps22
  go_wp2
  go_loop [5, 6] (fun s i => ∃ k : Nat, k ≤ n ∧ i = .int .i64 k ∧ s = .string ⟨(rep l k).toArray⟩) (fun _ i => n - (intOf i).toNat)
  case atStart => exact ⟨0, Nat.zero_le _, rfl, rfl⟩
  case round =>
    obtain ⟨k, hk, rfl, rfl⟩ := hrel
    have hrl := rep_len l k
    have hm : k * l.length ≤ 1000 * 1000 := Nat.mul_le_mul (by omega) hl
    have hb : (rep l k).length ≤ 1000000 := by omega
    have HS := Lib.hid (rep_succ l k)
    clear hrl hm
    obtain ⟨r, hr⟩ : ∃ r, Hid (r = rep l k) := ⟨_, rfl⟩
    rw [← hr.out] at hb HS ⊢
    by_cases hlt : k < n
    · go_wp2
      go_round
      case rel => exact ⟨k + 1, by omega, by go_num, by rw [cat_l, HS.out]⟩
      case measure => simp [intOf]; omega
    · obtain rfl : k = n := by omega
      go_wp2
      go_ret
      exact ⟨ret_string (by rw [hr.out]), rfl⟩
/- TAB< -/
def tab (p q : List UInt8) : List (Dt × Int × Bool) := [
  (⟨0, 0, 0, 0, 0, [], 0, 0⟩, 0, true),
  (⟨0, 0, 0, 0, 0, [], 0, 0⟩, 1, false),
  (⟨0, 0, 0, 0, 0, [97], 0, 0⟩, 0, false),
  (⟨0, 1, 0, 0, 0, [], 0, 0⟩, 0, false),
  (⟨0, 0, 0, 0, 0, [], 1, 0⟩, 0, false),
  (⟨1, 0, 0, 0, 0, [], 0, 0⟩, 0, true),
  (⟨1, 1, 0, 0, 0, [], 0, 0⟩, 0, true),
  (⟨1, 0, 0, 0, 0, [], 0, -1⟩, 0, false),
  (⟨1, 0, 0, 0, 0, [], 0, 0⟩, 1, false),
  (⟨2, 0, 0, 0, 0, [], 0, 0⟩, 0, false),
  (⟨2, 0, 0, 0, 0, p, 0, 0⟩, 0, true),
  (⟨2, 0, 0, 0, 0, q, 0, 0⟩, 0, false),
  (⟨2, 1, 0, 0, 0, [97], 0, 0⟩, 0, false),
  (⟨3, 0, 0, 0, 0, [97], 0, 0⟩, 0, true),
  (⟨3, 0, 0, 0, 0, [49], 0, 0⟩, 0, false),
  (⟨3, 0, 0, 0, 0, [], 0, 0⟩, 0, false),
  (⟨4, 0, 0, 0, 0, [], 0, 0⟩, 1, false),
  (⟨4, 0, 0, 0, 0, [], 0, 0⟩, 2, true),
  (⟨5, 0, 0, 0, 0, [], 0, 0⟩, 9000, true),
  (⟨5, 0, 0, 0, 0, [97], 0, 0⟩, 2, false),
  (⟨4, 0, 0, 0, 0, [], 0, 0⟩, -1, false),
  (⟨6, 0, 0, 0, 0, [], 0, 0⟩, 1, true),
  (⟨6, 0, 0, 0, 0, [], 0, -1⟩, 1, true),
  (⟨6, 0, 0, 0, 0, [], 99, 99⟩, 1, true),
  (⟨6, 0, 0, 0, 0, [], 100, -1⟩, 1, false),
  (⟨6, 0, 0, 0, 0, [], 0, 100⟩, 1, false),
  (⟨6, 0, 0, 0, 0, [], 2, 1⟩, 1, false),
  (⟨6, 0, 0, 0, 0, [], -1, 1⟩, 1, false),
  (⟨6, 0, 0, 0, 0, [], 0, -2⟩, 1, false),
  (⟨6, 0, 0, 0, 0, [], 0, 1⟩, 2, false),
  (⟨6, 0, 0, 0, 0, [], 0, 1⟩, 0, false),
  (⟨7, 0, 0, 0, 0, [], 0, 0⟩, 1, true),
  (⟨8, 0, 0, 0, 0, [], 0, 0⟩, 0, false),
  (⟨7, 0, 0, 0, 0, [], 1, 0⟩, 1, false),
  (⟨9, 0, 0, 0, 0, [110], 0, 0⟩, 1, true),
  (⟨9, 0, 0, 0, 0, [], 0, 0⟩, 1, false),
  (⟨9, 0, 0, 0, 0, [110], 0, 1⟩, 1, false),
  (⟨10, 0, 0, 0, 0, [], 0, 0⟩, 0, false),
  (⟨255, 0, 0, 0, 0, [], 0, 0⟩, 1, false)]
/- >TAB -/
def rowCells (r : Dt × Int × Bool) : List Value := [.int .u8 r.1.kind, .int .u64 r.1.s0, .int .u64 r.1.s1, .int .u64 r.1.s2, .int .u64 r.1.s3, .string ⟨r.1.text.toArray⟩, .int .i64 r.1.min, .int .i64 r.1.max, .slice none 0 0, .int .i64 r.2.1, .bool r.2.2]
def tabCells (p q : List UInt8) : Array Value := ((tab p q).flatMap rowCells).toArray
theorem flat_at {α : Type} (f : α → List Value) (m : Nat) (hf : ∀ a, (f a).length = m) : ∀ (l : List α) (j : Nat) (a : α), l[j]? = some a → ∀ i, i < m → (l.flatMap f)[j * m + i]? = (f a)[i]?
  | [], j, a, h, _, _ => by simp at h
  | x :: l, j, a, h, i, hi => by
    simp only [List.flatMap_cons]
    cases j with
    | zero =>
      simp at h; subst h
      rw [Nat.zero_mul, Nat.zero_add, List.getElem?_append_left (by rw [hf]; exact hi)]
    | succ j =>
      simp only [List.getElem?_cons_succ] at h
      rw [List.getElem?_append_right (by rw [hf, Nat.succ_mul]; omega), hf, ← flat_at f m hf l j a h i hi]
      congr 1
      rw [Nat.succ_mul]; omega
theorem tab_fits (p q : List UInt8) (hp : p.length = 255) (hq : q.length = 256) : ∀ r ∈ tab p q, fits r.1 r.2.1 = r.2.2 ∧ r.1.Ok ∧ -9223372036854775808 ≤ r.2.1 ∧ r.2.1 ≤ 9223372036854775807 := by
  have ok : ∀ d : Dt, (0 ≤ d.kind ∧ d.kind ≤ 255) → ((0 ≤ d.s0 ∧ d.s0 < 18446744073709551616) ∧ (0 ≤ d.s1 ∧ d.s1 < 18446744073709551616) ∧ (0 ≤ d.s2 ∧ d.s2 < 18446744073709551616) ∧ (0 ≤ d.s3 ∧ d.s3 < 18446744073709551616)) → d.text.length ≤ 1000 → (-9223372036854775808 ≤ d.min ∧ d.min ≤ 9223372036854775807) → (-9223372036854775808 ≤ d.max ∧ d.max ≤ 9223372036854775807) → d.Ok :=
    fun d a b c e f => ⟨a, b, by unfold maxLen; omega, e, f⟩
  have hp1 : p ≠ [] := fun e => by rw [e] at hp; simp at hp
  have f1 : fits ⟨2, 0, 0, 0, 0, p, 0, 0⟩ 0 = true := by simp [fits, fitsD, fitsK, noSet, noNum, hp, hp1]
  have f2 : fits ⟨2, 0, 0, 0, 0, q, 0, 0⟩ 0 = false := by simp [fits, fitsD, fitsK, noSet, noNum, hq]
  have key : ∀ r : Dt × Int × Bool, (fits r.1 r.2.1 = r.2.2) → ((0 ≤ r.1.kind ∧ r.1.kind ≤ 255) ∧ ((0 ≤ r.1.s0 ∧ r.1.s0 < 18446744073709551616) ∧ (0 ≤ r.1.s1 ∧ r.1.s1 < 18446744073709551616) ∧ (0 ≤ r.1.s2 ∧ r.1.s2 < 18446744073709551616) ∧ (0 ≤ r.1.s3 ∧ r.1.s3 < 18446744073709551616)) ∧ r.1.text.length ≤ 1000 ∧ (-9223372036854775808 ≤ r.1.min ∧ r.1.min ≤ 9223372036854775807) ∧ (-9223372036854775808 ≤ r.1.max ∧ r.1.max ≤ 9223372036854775807) ∧ -9223372036854775808 ≤ r.2.1 ∧ r.2.1 ≤ 9223372036854775807) →
      fits r.1 r.2.1 = r.2.2 ∧ r.1.Ok ∧ -9223372036854775808 ≤ r.2.1 ∧ r.2.1 ≤ 9223372036854775807 := fun r h1 h2 => ⟨h1, ok _ h2.1 h2.2.1 h2.2.2.1 h2.2.2.2.1 h2.2.2.2.2.1, h2.2.2.2.2.2⟩
  intro r hr
  simp only [tab, List.mem_cons, List.not_mem_nil, or_false] at hr
  rcases hr with rfl | rfl | rfl | rfl | rfl | rfl | rfl | rfl | rfl | rfl | rfl | rfl | rfl | rfl | rfl | rfl | rfl | rfl | rfl | rfl | rfl | rfl | rfl | rfl | rfl | rfl | rfl | rfl | rfl | rfl | rfl | rfl | rfl | rfl | rfl | rfl | rfl | rfl | rfl
  · exact key _ (by decide) (by decide)
  · exact key _ (by decide) (by decide)
  · exact key _ (by decide) (by decide)
  · exact key _ (by decide) (by decide)
  · exact key _ (by decide) (by decide)
  · exact key _ (by decide) (by decide)
  · exact key _ (by decide) (by decide)
  · exact key _ (by decide) (by decide)
  · exact key _ (by decide) (by decide)
  · exact key _ (by decide) (by decide)
  · exact key _ f1 ⟨by simp, by simp, by simp [hp], by simp, by simp, by simp⟩
  · exact key _ f2 ⟨by simp, by simp, by simp [hq], by simp, by simp, by simp⟩
  · exact key _ (by decide) (by decide)
  · exact key _ (by decide) (by decide)
  · exact key _ (by decide) (by decide)
  · exact key _ (by decide) (by decide)
  · exact key _ (by decide) (by decide)
  · exact key _ (by decide) (by decide)
  · exact key _ (by decide) (by decide)
  · exact key _ (by decide) (by decide)
  · exact key _ (by decide) (by decide)
  · exact key _ (by decide) (by decide)
  · exact key _ (by decide) (by decide)
  · exact key _ (by decide) (by decide)
  · exact key _ (by decide) (by decide)
  · exact key _ (by decide) (by decide)
  · exact key _ (by decide) (by decide)
  · exact key _ (by decide) (by decide)
  · exact key _ (by decide) (by decide)
  · exact key _ (by decide) (by decide)
  · exact key _ (by decide) (by decide)
  · exact key _ (by decide) (by decide)
  · exact key _ (by decide) (by decide)
  · exact key _ (by decide) (by decide)
  · exact key _ (by decide) (by decide)
  · exact key _ (by decide) (by decide)
  · exact key _ (by decide) (by decide)
  · exact key _ (by decide) (by decide)
  · exact key _ (by decide) (by decide)
/-- A tree that reads from a block on. -/
def SpanT (lo : Nat) (w : World) (v : Value) (t : Tr) : Prop := RTree w (fun b => lo ≤ b ∧ b < w.heap.size) v t
theorem SpanT.below {lo : Nat} {w w' : World} {v : Value} {t : Tr} (h : SpanT lo w v t) (hb : Below w.heap.size w w') : SpanT lo w' v t := (RTree.below h hb fun _ h => h.2).more fun _ h => ⟨h.1, Nat.lt_of_lt_of_le h.2 hb.size⟩
theorem SpanT.has {lo : Nat} {w : World} {v : Value} {t : Tr} (h : SpanT lo w v t) : HasT w v t := h.more fun _ h => h.2
theorem SpanT.grown {lo : Nat} {w w' : World} {r : Option Nat} {v : Value} {t : Tr} (h : SpanT lo w v t) (hg : w.grownBy w' r) (hr : ∀ g, r = some g → g < lo) : SpanT lo w' v t :=
  (RTree.keep h fun p hp => World.cell?_of_block (hg.block p.block hp.2 fun e => by have := hr _ e.symm; have := hp.1; omega)).more fun b h => ⟨h.1, Nat.lt_of_lt_of_le h.2 hg.size⟩

theorem wp_world {P : Program} {c : Code} {Q : Exit → Act → World → Prop} {a : Act} {w : World} (w' : World) (h : w = w') (k : Code.wp P c Q a w') : Code.wp P c Q a w := h ▸ k
theorem field_tree (A : Option Addr) (n e : Nat) (r : Int) (W : World) : (Instr.field 24 (.agg #[.slice A n e, .int .i64 r]) 0).run Tryd.prog W = .ok (.slice A n e) W := by kernel_rfl
theorem field_node (W : World) : (Instr.field 34 (.agg #[.int .u8 0, .int .u64 0, .int .u64 0, .int .u64 0, .int .u64 0, .string ⟨#[]⟩, .int .i64 0, .int .i64 0, .slice none 0 0]) 0).run Tryd.prog W = .ok (.int .u8 0) W := by kernel_rfl
def andD : Dt := ⟨7, 0, 0, 0, 0, [], 0, 0⟩
theorem ok_and : andD.Ok := ⟨by decide, by decide, by decide, by decide, by decide⟩

set_option maxRecDepth 20000 in
set_option maxHeartbeats 16000000 in
theorem ltreenames_any (w : World) (hk : KTab w) : Calls Tryd.prog 5 #[] w (TruePost w) := by
  have HK := Lib.hid (fun wx (hb : Below w.heap.size w wx) => hk.below hb)
  clear hk
  go_enter Tryd.func5, Tryd.ntmps5
  go_wp2_with fail
  refine (works_g _ (HK.out _ (Below.refl _ _))).mono ?_
  rintro e w1 ⟨rfl, hb1⟩
  go_wp2_with fail
  refine (nots_g 31 (by omega) _ (HK.out _ hb1)).mono ?_
  rintro e w2 ⟨u, rfl, ho, hb2⟩
  have HT2 := Lib.hid (ho.has (by rw [nots_root]; omega) (by rw [nots_root]; omega))
  have hw2 := hb1.trans (hb2.mono hb1.size)
  obtain ⟨n2, rfl, -⟩ := ho
  clear hb1 hb2
  go_wp2_with fail
  have hM := May_g (HT2.out.given (HK.out _ hw2) (by rw [flatT_len, notsT_size]; omega))
  rw [decide_eq_true may_nots31] at hM
  refine hM.mono ?_
  rintro e w3 ⟨rfl, hb3⟩
  have hw3 := hw2.trans (hb3.mono hw2.size)
  clear hw2 hb3 hM
  go_wp2_with fail
  refine (nots_g 32 (by omega) _ (HK.out _ hw3)).mono ?_
  rintro e w4 ⟨u, rfl, ho, hb4⟩
  have HT4 := Lib.hid (ho.has (by rw [nots_root]; omega) (by rw [nots_root]; omega))
  have hw4 := hw3.trans (hb4.mono hw3.size)
  obtain ⟨n4, rfl, -⟩ := ho
  clear hw3 hb4
  go_wp2_with fail
  have hM := May_g (HT4.out.given (HK.out _ hw4) (by rw [flatT_len, notsT_size]; omega))
  rw [decide_eq_false may_nots32] at hM
  refine hM.mono ?_
  rintro e w5 ⟨rfl, hb5⟩
  have hw5 := hw4.trans (hb5.mono hw4.size)
  clear hw4 hb5 hM
  go_wp2_with fail
  refine (nots_g 31 (by omega) _ (HK.out _ hw5)).mono ?_
  rintro e w6 ⟨u, rfl, ho, hb6⟩
  have HT6 := Lib.hid (ho.has (by rw [nots_root]; omega) (by rw [nots_root]; omega))
  have hw6 := hw5.trans (hb6.mono hw5.size)
  obtain ⟨n6, rfl, -⟩ := ho
  clear hw5 hb6
  go_wp2_with fail
  have hD := Depth_g (HT6.out.given (HK.out _ hw6) (by rw [flatT_len, notsT_size]; omega))
  rw [depth_nots31] at hD
  refine hD.mono ?_
  rintro e w7 ⟨rfl, hb7⟩
  have HW7 := Lib.hid (hw6.trans (hb7.mono hw6.size))
  clear hw6 hb7 hD HT2 HT4 HT6
  go_wp2_with fail
  go_loopw [1, 2] (fun vo i wr => ∃ (j : Nat) (Ao : Option Addr) (co : Nat), j ≤ 1023 ∧ i = .int .i64 j ∧ vo = .slice Ao j co ∧ Hid (OwnList wr w7.heap.size w7.heap.size (.slice Ao j co) (List.replicate j aT)) ∧ Hid (Below w7.heap.size w7 wr)) (fun _ i _ => 1023 - (intOf i).toNat)
  case atStart => exact ⟨0, none, 0, by omega, rfl, rfl, Lib.hid (OwnList.nil_ _ _ _), Lib.hid (Below.refl _ _)⟩
  case round =>
    obtain ⟨wo, rfl⟩ : ∃ wo, wo = wr := ⟨_, rfl⟩
    obtain ⟨j, Ao, co, hj, rfl, rfl, HO, HW⟩ := hrel
    by_cases hlt : j < 1023
    · have hlt' : (j : Int) < 1023 := by omega
      obtain ⟨i0, hi0, hz0, hz1, hz2⟩ := info_parts tree_info
      go_wp2_with fail
      refine (Text_g [97] (by decide) _).mono ?_
      rintro e w3 ⟨u, rfl, ⟨nv, rfl, kvs, hnk⟩, hb3⟩
      obtain ⟨A3, c3, rfl, -⟩ := own_slice hnk.row
      have hn3 := hnk.nodes (S := fun b => wo.heap.size ≤ b ∧ b < w3.heap.size) (fun b h1 h2 _ => ⟨h1, h2⟩)
      obtain ⟨nvs, hnl, hrow, hns⟩ := HO.out.below hb3
      have htl : (List.replicate j aT).length = j := List.length_replicate
      have hvl : ∀ g, (Value.slice Ao j co).ownBlock = some g → w7.heap.size ≤ g ∧ g < wo.heap.size := fun g e => by
        obtain ⟨_, _, hr0, _⟩ := HO.out
        exact own_blk_lt hr0 e
      have hrow2 := hrow
      rw [htl] at hrow2
      have hs3 := hb3.size
      have hs0 := HW.out.size
      have HVL := Lib.hid hvl
      have HROW := Lib.hid hrow2
      have HNS := Lib.hid hns
      have HNL := Lib.hid hnl
      have HTL := Lib.hid htl
      have HN3 := Lib.hid hn3
      have HB3 := Lib.hid hb3
      clear hrow hrow2 hns hnl htl hn3 hb3 hnk hvl
      go_wp2_with (at_builtin
                   go_loud (refine wpList_append1 w3 rfl (.tmp 45) (.tmp 47) _ rfl w7.heap.size 24 i0 _ 2 32 Tryd.underlying40 hi0 hz0 hz1 hz2 rfl (by omega) (.slice Ao j co) j (treesCells (List.replicate j aT) nvs) rfl HROW.out [_, _] rfl rfl (by simp [Value.oneCell']) (by unfold maxLen; omega) (by omega) (by omega) ?_)
                   intro v4 w4 hown4 hg4 hat4
                   obtain ⟨A4, c4, rfl, -⟩ := own_slice hown4
                   have HOW4 := Lib.hid hown4
                   have HG4 := Lib.hid hg4
                   have HAT4 := Lib.hid hat4
                   clear hown4 hg4 hat4)
      go_roundw
      case measure => simp [intOf]; omega
      case rel =>
        refine ⟨j + 1, A4, c4, by omega, by go_num, rfl, Lib.hid ?_, Lib.hid ((HW.out.trans (HB3.out.mono HW.out.size)).trans (below_of_grown HG4.out (Nat.le_trans HW.out.size HB3.out.size) fun g e => (HVL.out g e).1))⟩
        rw [List.replicate_succ']
        refine OwnList.push HNL.out HNS.out HN3.out (fun b hb => ⟨by have := hb.1; omega, hb.2, fun e => by have := (HVL.out b e).2; have := hb.1; omega⟩) (by simp [aT]) (by simp [aT]) (by rw [HTL.out]; exact HOW4.out) HG4.out ?_
        rcases HAT4.out with h | h
        · exact .inl h
        · exact .inr fun g hg => by rw [h] at hg; injection hg; omega
    · obtain rfl : j = 1023 := by omega
      have HW0 := Lib.hid (HW7.out.trans (HW.out.mono HW7.out.size))
      have hfl : fullL.length = 1023 := List.length_replicate
      have hrd : RTrees wo (fun b => b < wo.heap.size) (.slice Ao 1023 co) fullL := HO.out.read
      have hvl : ∀ g, (Value.slice Ao 1023 co).ownBlock = some g → w7.heap.size ≤ g ∧ g < wo.heap.size := fun g e => by
        obtain ⟨_, _, hr0, _⟩ := HO.out
        exact own_blk_lt hr0 e
      have HVL := Lib.hid hvl
      have hO := of_g (N := ⟨choiceD, []⟩) (kv0 := .slice none 0 0) (ts := fullL) (v := .slice Ao 1023 co) (S := fun b => b < wo.heap.size) (w := wo) ⟨by decide, by decide, by decide, by decide, by decide⟩
        ⟨hrd, fun _ h => h, HK.out _ HW0.out, fun t ht => by rw [(List.mem_replicate.1 ht).2]; simp [aT], by omega⟩ (by unfold fullL; rw [sum_rep]; simp [aT])
      simp only [nodeCells] at hO
      have HOO := Lib.hid hO
      clear hO hrd hfl hvl
      go_wp2_with fail
      refine HOO.out.mono ?_
      rintro e w8 ⟨u, x, is, rfl, ho, hi, hb8⟩
      obtain ⟨rfl, rfl⟩ := hi.yes full_fits full_right
      change OwnTree w8 wo.heap.size u fullX at ho
      have hroot : fullX.root = 1023 := by have h1 := full_rt.shape.top; rw [full_size] at h1; omega
      have hs8 : SpanT wo.heap.size w8 u fullX := ho.read (fun b h1 h2 => ⟨h1, h2⟩) (by rw [hroot]; omega) (by rw [hroot]; omega)
      obtain ⟨nv, rfl, kvs, hnk⟩ := ho
      obtain ⟨A8, c8, rfl, -⟩ := own_slice hnk.row
      rw [hroot] at hs8 ⊢
      have HS8 := Lib.hid hs8
      have HB8 := Lib.hid hb8
      clear hs8 hb8 hnk hi HOO
      have hw08 := HW0.out.trans (HB8.out.mono HW0.out.size)
      obtain ⟨n8, hn8⟩ : ∃ n8, n8 = fullX.nodes.length := ⟨_, rfl⟩
      rw [← hn8] at HS8 ⊢
      clear hn8 hroot
      have HW08 := Lib.hid hw08
      clear hw08
      go_wp2_with fail
      refine (Empty_g _).mono ?_
      rintro e w9 ⟨u, rfl, ⟨nv, rfl, kvs', hnk⟩, hb9⟩
      obtain ⟨A9, c9, rfl, -⟩ := own_slice hnk.row
      have hb89 : Below w8.heap.size w8 w9 := ((Below.refl _ _).alloc (Nat.le_refl _) _).trans (hb9.mono (by simp <;> omega))
      have hn9 : RNodes w9 (fun b => w8.heap.size ≤ b ∧ b < w9.heap.size) (.slice A9 1 c9) [⟨default, []⟩] := hnk.nodes (S := fun b => w8.heap.size ≤ b ∧ b < w9.heap.size) (fun b h1 h2 _ => ⟨by simp at h1; omega, h2⟩)
      have HBX9 := Lib.hid ((Blk.new w8 24 #[.slice A8 n8 c8, .int .i64 1023]).below hb9 (by simp))
      have HS9 := Lib.hid (HS8.out.below hb89)
      obtain ⟨nvs, hnl, hrow, hns⟩ := (HO.out.below HB8.out).below hb89
      have htl : (List.replicate 1023 aT).length = 1023 := List.length_replicate
      have hrow2 := hrow
      rw [htl] at hrow2
      have hs9 := hb89.size
      have hs8 := HB8.out.size
      have hs7 := HW.out.size
      have HROW := Lib.hid hrow2
      have HNS := Lib.hid hns
      have HNL := Lib.hid hnl
      have HTL := Lib.hid htl
      have HN9 := Lib.hid hn9
      have HB9 := Lib.hid hb89
      obtain ⟨i0, hi0, hz0, hz1, hz2⟩ := info_parts tree_info
      obtain ⟨g3, hg3⟩ : ∃ g3, g3 = w8.heap.size := ⟨_, rfl⟩
      have HG3 := Lib.hid hg3
      rw [← hg3]
      clear hrow hrow2 hns hnl htl hn9 hb9 hb89 hnk hg3
      go_wp2_with (at_builtin
                   go_loud (refine wpList_append1 w9 rfl (.tmp 57) (.tmp 59) _ rfl w7.heap.size 24 i0 _ 2 32 Tryd.underlying40 hi0 hz0 hz1 hz2 rfl (by omega) (.slice Ao 1023 co) 1023 (treesCells (List.replicate 1023 aT) nvs) rfl HROW.out [_, _] rfl rfl (by simp [Value.oneCell']) (by unfold maxLen; omega) (by omega) (by omega) ?_)
                   intro v10 w10 hown10 hg10 hat10
                   obtain ⟨A10, c10, rfl, -⟩ := own_slice hown10
                   have HOW10 := Lib.hid hown10
                   have HG10 := Lib.hid hg10
                   have HAT10 := Lib.hid hat10
                   clear hown10 hg10 hat10)
      have hmore : OwnList w10 w7.heap.size w7.heap.size (.slice A10 1024 c10) moreL := by
        refine OwnList.push HNL.out HNS.out HN9.out (t := eT) (fun b hb => ⟨by have := hb.1; omega, hb.2, fun e => by have := (HVL.out b e).2; have := hb.1; omega⟩) (by simp [eT]) (by simp [eT]) (by rw [HTL.out]; exact HOW10.out) HG10.out ?_
        rcases HAT10.out with h | h
        · exact .inl h
        · exact .inr fun g hg => by rw [h] at hg; injection hg; omega
      have hS10 : SpanT wo.heap.size w10 (.agg #[.slice A8 n8 c8, .int .i64 1023]) fullX := HS9.out.grown HG10.out fun g e => (HVL.out g e).2
      have hB10 : Blk w10 g3 24 #[.slice A8 n8 c8, .int .i64 1023] := by
        rw [HG3.out]; exact HBX9.out.grown HG10.out fun e => by have := (HVL.out _ e.symm).2; omega
      have hb10 : Below w7.heap.size w7 w10 := ((HW.out.trans (HB8.out.mono hs7)).trans (HB9.out.mono (by omega))).trans (below_of_grown HG10.out (by omega) fun g e => (HVL.out g e).1)
      have HW10 := Lib.hid (HW7.out.trans (hb10.mono HW7.out.size))
      have hml : moreL.length = 1024 := by unfold moreL; rw [List.length_append, List.length_replicate]; rfl
      have hO := of_g (N := ⟨choiceD, []⟩) (kv0 := .slice none 0 0) (ts := moreL) (v := .slice A10 1024 c10) (S := fun b => b < w10.heap.size) (w := w10) ⟨by decide, by decide, by decide, by decide, by decide⟩
        ⟨hmore.read, fun _ h => h, HK.out _ HW10.out, fun t ht => by
          rcases List.mem_append.1 ht with h | h
          · rw [(List.mem_replicate.1 h).2]; simp [aT]
          · simp at h; subst h; simp [eT], by omega⟩ (by unfold moreL; rw [List.map_append, List.sum_append, sum_rep]; simp [aT, eT])
      simp only [nodeCells] at hO
      have HOO := Lib.hid hO
      have HS10 := Lib.hid hS10
      have HB10 := Lib.hid hB10
      clear hO hmore hS10 hB10 hb10 hml
      go_wp2_with fail
      refine HOO.out.mono ?_
      rintro e w11 ⟨u, x, is, rfl, ho, hi, hb11⟩
      obtain ⟨rfl, rfl⟩ := hi.yes more_fits more_right
      change OwnTree w11 w10.heap.size u moreX at ho
      have hroot : moreX.root = 1024 := by have h1 := more_rt.shape.top; rw [more_size] at h1; omega
      have hs11 : HasT w11 u moreX := ho.has (by rw [hroot]; omega) (by rw [hroot]; omega)
      obtain ⟨nv, rfl, kvs'', hnk⟩ := ho
      obtain ⟨A11, c11, rfl, -⟩ := own_slice hnk.row
      rw [hroot] at hs11 ⊢
      obtain ⟨n11, hn11⟩ : ∃ n11, n11 = moreX.nodes.length := ⟨_, rfl⟩
      rw [← hn11] at hs11 ⊢
      have HM11 := Lib.hid hs11
      have HF11 := Lib.hid (HS10.out.has.below hb11)
      have hB11 := HB10.out.below hb11 HB10.out.lt
      have HB11 := Lib.hid hB11
      have HW11 := Lib.hid (HW10.out.trans (hb11.mono HW10.out.size))
      have d0 : w11.cell? ⟨g3, 0, none⟩ = some (.slice A8 n8 c8) := hB11.cell 0
      have d1 : w11.cell? ⟨g3, 1, none⟩ = some (.int .i64 1023) := hB11.cell 1
      have hlt3 := hB11.lt
      clear hs11 hb11 hnk hi HOO hn11 hB11 hroot HN9 HNS HNL HROW HOW10 HG10 HAT10 HS10 HB10 HS9 HBX9 HS8 HB8 HB9 HO HW0 HVL HW08 HTL
      have hb5 : Below w11.heap.size w11 (w11.alloc (.cells #[.slice A11 n11 c11, .int .i64 1024] 24)) := (Below.refl _ _).alloc (Nat.le_refl _) _
      have hMf := May_g ((HF11.out.below hb5).given (HK.out _ (HW11.out.trans (hb5.mono HW11.out.size))) (by rw [full_size]; omega))
      rw [decide_eq_true full_may] at hMf
      have HMf := Lib.hid hMf
      clear hMf hb5
      go_wp2_with fail
      refine HMf.out.mono ?_
      rintro e w12 ⟨rfl, hb12⟩
      have hb1112 : Below w11.heap.size w11 w12 := ((Below.refl _ _).alloc (Nat.le_refl _) _).trans (hb12.mono (by simp <;> omega))
      have HBX12 := Lib.hid ((Blk.new w11 24 #[.slice A11 n11 c11, .int .i64 1024]).below hb12 (by simp))
      have HM12 := Lib.hid (HM11.out.below hb1112)
      have HW12 := Lib.hid (HW11.out.trans (hb1112.mono HW11.out.size))
      obtain ⟨g5, hg5⟩ : ∃ g5, g5 = w11.heap.size := ⟨_, rfl⟩
      rw [← hg5] at HBX12 ⊢
      have d2 : w12.cell? ⟨g5, 0, none⟩ = some (.slice A11 n11 c11) := HBX12.out.cell 0
      have d3 : w12.cell? ⟨g5, 1, none⟩ = some (.int .i64 1024) := HBX12.out.cell 1
      have hGm := Lib.hid (fun (wx : World) (hb : Below w12.heap.size w12 wx) => (HM12.out.below hb).given (HK.out _ (HW12.out.trans (hb.mono HW12.out.size))) (by rw [more_size]; omega))
      clear hb12 hb1112 hg5 HMf d0 d1 hlt3 HF11 HM11 HB11
      go_wp2_with fail
      have hM := May_g (hGm.out _ (Below.refl _ _))
      rw [decide_eq_false more_may] at hM
      refine hM.mono ?_
      rintro e w13 ⟨rfl, hb13⟩
      have hB13 := HBX12.out.below hb13 HBX12.out.lt
      have d4 : w13.cell? ⟨g5, 0, none⟩ = some (.slice A11 n11 c11) := hB13.cell 0
      have d5 : w13.cell? ⟨g5, 1, none⟩ = some (.int .i64 1024) := hB13.cell 1
      have HB13 := Lib.hid hb13
      clear hM hB13 hb13 d2 d3
      go_wp2_with fail
      have hR := right_g (hGm.out _ HB13.out)
      rw [decide_eq_true more_rt] at hR
      refine hR.mono ?_
      rintro e w14 ⟨rfl, hb14⟩
      have hb1214 := HB13.out.trans (hb14.mono HB13.out.size)
      have hB14 := HBX12.out.below hb1214 HBX12.out.lt
      have d6 : w14.cell? ⟨g5, 0, none⟩ = some (.slice A11 n11 c11) := hB14.cell 0
      have d7 : w14.cell? ⟨g5, 1, none⟩ = some (.int .i64 1024) := hB14.cell 1
      have HB14 := Lib.hid hb1214
      clear hR hB14 hb14 hb1214 d4 d5
      go_wp2_with fail
      have hS := size_g (hGm.out _ HB14.out)
      rw [more_sizeT] at hS
      refine hS.mono ?_
      rintro e w15 ⟨rfl, hb15⟩
      have HW15 := Lib.hid (HW12.out.trans ((HB14.out.trans (hb15.mono HB14.out.size)).mono HW12.out.size))
      clear hS hb15 d6 d7 HB14 HB13 hGm HM12 HBX12
      go_wp2_with fail
      obtain ⟨ws, hws⟩ : ∃ ws, ws = w15.alloc (.cells #[.int .u64 1, .int .u64 0, .int .u64 0, .int .u64 0] 32) := ⟨_, rfl⟩
      obtain ⟨g7, hg7⟩ : ∃ g7, g7 = w15.heap.size := ⟨_, rfl⟩
      have h7 : Blk ws g7 32 #[.int .u64 1, .int .u64 0, .int .u64 0, .int .u64 0] := by rw [hws, hg7]; exact Blk.new _ _ _
      have HWs : Hid (Below w.heap.size w ws) := Lib.hid (by rw [hws]; exact HW15.out.alloc HW15.out.size _)
      rw [← hws, ← hg7]
      have HC7 := Lib.hid (fun (wx : World) (hb : Below ws.heap.size ws wx) => (⟨(h7.below hb h7.lt).cell 0, (h7.below hb h7.lt).cell 1, (h7.below hb h7.lt).cell 2, (h7.below hb h7.lt).cell 3⟩ : wx.cell? ⟨g7, 0, none⟩ = some (.int .u64 1) ∧ wx.cell? ⟨g7, 1, none⟩ = some (.int .u64 0) ∧ wx.cell? ⟨g7, 2, none⟩ = some (.int .u64 0) ∧ wx.cell? ⟨g7, 3, none⟩ = some (.int .u64 0)))
      obtain ⟨p, hp⟩ : ∃ p, p = rep [120] 255 := ⟨_, rfl⟩
      obtain ⟨q, hq⟩ : ∃ q, q = rep [120] 256 := ⟨_, rfl⟩
      have HPL : Hid (p.length = 255) := Lib.hid (by rw [hp, rep_len]; rfl)
      have HQL : Hid (q.length = 256) := Lib.hid (by rw [hq, rep_len]; rfl)
      have HCp : Hid (∀ wx : World, Calls Tryd.prog 22 #[.string ⟨#[120]⟩, .int .i64 255] wx fun e w' => e = .returned (.string ⟨p.toArray⟩) ∧ Below wx.heap.size wx w') := Lib.hid fun wx => (copies_any [120] 255 (by decide) (by omega) wx).mono fun e w' h => ⟨by rw [hp]; exact h.1, h.2 ▸ Below.refl _ _⟩
      have HCq : Hid (∀ wx : World, Calls Tryd.prog 22 #[.string ⟨#[120]⟩, .int .i64 256] wx fun e w' => e = .returned (.string ⟨q.toArray⟩) ∧ Below wx.heap.size wx w') := Lib.hid fun wx => (copies_any [120] 256 (by decide) (by omega) wx).mono fun e w' h => ⟨by rw [hq]; exact h.1, h.2 ▸ Below.refl _ _⟩
      clear hws hg7 h7 hp hq HW15 HW12 HW11 HW10 HW HW7 HG3
/- R13< -/
      refine wp_region_inv (G := Unit) () UE UN
        [fun v _ => v = .agg #[.int .u8 0, .int .u64 0, .int .u64 0, .int .u64 0, .int .u64 0, .string ⟨#[]⟩, .int .i64 0, .int .i64 0, .slice none 0 0], fun v _ => v = .agg #[.int .u8 0, .int .u64 0, .int .u64 0, .int .u64 0, .int .u64 0, .string ⟨#[]⟩, .int .i64 0, .int .i64 0, .slice none 0 0, .int .i64 0, .bool true], fun v _ => v = .agg #[.int .u8 0, .int .u64 0, .int .u64 0, .int .u64 0, .int .u64 0, .string ⟨#[]⟩, .int .i64 0, .int .i64 0, .slice none 0 0], fun v _ => v = .agg #[.int .u8 0, .int .u64 0, .int .u64 0, .int .u64 0, .int .u64 0, .string ⟨#[]⟩, .int .i64 0, .int .i64 0, .slice none 0 0, .int .i64 1, .bool false], fun v _ => v = .agg #[.int .u8 0, .int .u64 0, .int .u64 0, .int .u64 0, .int .u64 0, .string ⟨#[97]⟩, .int .i64 0, .int .i64 0, .slice none 0 0], fun v _ => v = .agg #[.int .u8 0, .int .u64 0, .int .u64 0, .int .u64 0, .int .u64 0, .string ⟨#[97]⟩, .int .i64 0, .int .i64 0, .slice none 0 0, .int .i64 0, .bool false], fun v _ => v = .agg #[.int .u64 1, .int .u64 0, .int .u64 0, .int .u64 0], fun v _ => v = .agg #[.int .u8 0, .int .u64 1, .int .u64 0, .int .u64 0, .int .u64 0, .string ⟨#[]⟩, .int .i64 0, .int .i64 0, .slice none 0 0], fun v _ => v = .agg #[.int .u8 0, .int .u64 1, .int .u64 0, .int .u64 0, .int .u64 0, .string ⟨#[]⟩, .int .i64 0, .int .i64 0, .slice none 0 0, .int .i64 0, .bool false], fun v _ => v = .agg #[.int .u8 0, .int .u64 0, .int .u64 0, .int .u64 0, .int .u64 0, .string ⟨#[]⟩, .int .i64 1, .int .i64 0, .slice none 0 0], fun v _ => v = .agg #[.int .u8 0, .int .u64 0, .int .u64 0, .int .u64 0, .int .u64 0, .string ⟨#[]⟩, .int .i64 1, .int .i64 0, .slice none 0 0, .int .i64 0, .bool false], fun v _ => v = .agg #[.int .u8 1, .int .u64 0, .int .u64 0, .int .u64 0, .int .u64 0, .string ⟨#[]⟩, .int .i64 0, .int .i64 0, .slice none 0 0], fun v _ => v = .agg #[.int .u8 1, .int .u64 0, .int .u64 0, .int .u64 0, .int .u64 0, .string ⟨#[]⟩, .int .i64 0, .int .i64 0, .slice none 0 0, .int .i64 0, .bool true], fun v _ => v = .agg #[.int .u64 1, .int .u64 0, .int .u64 0, .int .u64 0], fun v _ => v = .agg #[.int .u8 1, .int .u64 1, .int .u64 0, .int .u64 0, .int .u64 0, .string ⟨#[]⟩, .int .i64 0, .int .i64 0, .slice none 0 0], fun v _ => v = .agg #[.int .u8 1, .int .u64 1, .int .u64 0, .int .u64 0, .int .u64 0, .string ⟨#[]⟩, .int .i64 0, .int .i64 0, .slice none 0 0, .int .i64 0, .bool true], fun v _ => v = .agg #[.int .u8 1, .int .u64 0, .int .u64 0, .int .u64 0, .int .u64 0, .string ⟨#[]⟩, .int .i64 0, .int .i64 (-1), .slice none 0 0], fun v _ => v = .agg #[.int .u8 1, .int .u64 0, .int .u64 0, .int .u64 0, .int .u64 0, .string ⟨#[]⟩, .int .i64 0, .int .i64 (-1), .slice none 0 0, .int .i64 0, .bool false], fun v _ => v = .agg #[.int .u8 1, .int .u64 0, .int .u64 0, .int .u64 0, .int .u64 0, .string ⟨#[]⟩, .int .i64 0, .int .i64 0, .slice none 0 0], fun v _ => v = .agg #[.int .u8 1, .int .u64 0, .int .u64 0, .int .u64 0, .int .u64 0, .string ⟨#[]⟩, .int .i64 0, .int .i64 0, .slice none 0 0, .int .i64 1, .bool false], fun v _ => v = .agg #[.int .u8 2, .int .u64 0, .int .u64 0, .int .u64 0, .int .u64 0, .string ⟨#[]⟩, .int .i64 0, .int .i64 0, .slice none 0 0], fun v _ => v = .agg #[.int .u8 2, .int .u64 0, .int .u64 0, .int .u64 0, .int .u64 0, .string ⟨#[]⟩, .int .i64 0, .int .i64 0, .slice none 0 0, .int .i64 0, .bool false], fun v _ => v = .string ⟨p.toArray⟩, fun v _ => v = .agg #[.int .u8 2, .int .u64 0, .int .u64 0, .int .u64 0, .int .u64 0, .string ⟨p.toArray⟩, .int .i64 0, .int .i64 0, .slice none 0 0], fun v _ => v = .agg #[.int .u8 2, .int .u64 0, .int .u64 0, .int .u64 0, .int .u64 0, .string ⟨p.toArray⟩, .int .i64 0, .int .i64 0, .slice none 0 0, .int .i64 0, .bool true], fun v _ => v = .string ⟨q.toArray⟩, fun v _ => v = .agg #[.int .u8 2, .int .u64 0, .int .u64 0, .int .u64 0, .int .u64 0, .string ⟨q.toArray⟩, .int .i64 0, .int .i64 0, .slice none 0 0], fun v _ => v = .agg #[.int .u8 2, .int .u64 0, .int .u64 0, .int .u64 0, .int .u64 0, .string ⟨q.toArray⟩, .int .i64 0, .int .i64 0, .slice none 0 0, .int .i64 0, .bool false], fun v _ => v = .agg #[.int .u64 1, .int .u64 0, .int .u64 0, .int .u64 0], fun v _ => v = .agg #[.int .u8 2, .int .u64 1, .int .u64 0, .int .u64 0, .int .u64 0, .string ⟨#[97]⟩, .int .i64 0, .int .i64 0, .slice none 0 0], fun v _ => v = .agg #[.int .u8 2, .int .u64 1, .int .u64 0, .int .u64 0, .int .u64 0, .string ⟨#[97]⟩, .int .i64 0, .int .i64 0, .slice none 0 0, .int .i64 0, .bool false], fun v _ => v = .agg #[.int .u8 3, .int .u64 0, .int .u64 0, .int .u64 0, .int .u64 0, .string ⟨#[97]⟩, .int .i64 0, .int .i64 0, .slice none 0 0], fun v _ => v = .agg #[.int .u8 3, .int .u64 0, .int .u64 0, .int .u64 0, .int .u64 0, .string ⟨#[97]⟩, .int .i64 0, .int .i64 0, .slice none 0 0, .int .i64 0, .bool true], fun v _ => v = .agg #[.int .u8 3, .int .u64 0, .int .u64 0, .int .u64 0, .int .u64 0, .string ⟨#[49]⟩, .int .i64 0, .int .i64 0, .slice none 0 0], fun v _ => v = .agg #[.int .u8 3, .int .u64 0, .int .u64 0, .int .u64 0, .int .u64 0, .string ⟨#[49]⟩, .int .i64 0, .int .i64 0, .slice none 0 0, .int .i64 0, .bool false], fun v _ => v = .agg #[.int .u8 3, .int .u64 0, .int .u64 0, .int .u64 0, .int .u64 0, .string ⟨#[]⟩, .int .i64 0, .int .i64 0, .slice none 0 0], fun v _ => v = .agg #[.int .u8 3, .int .u64 0, .int .u64 0, .int .u64 0, .int .u64 0, .string ⟨#[]⟩, .int .i64 0, .int .i64 0, .slice none 0 0, .int .i64 0, .bool false], fun v _ => v = .agg #[.int .u8 4, .int .u64 0, .int .u64 0, .int .u64 0, .int .u64 0, .string ⟨#[]⟩, .int .i64 0, .int .i64 0, .slice none 0 0], fun v _ => v = .agg #[.int .u8 4, .int .u64 0, .int .u64 0, .int .u64 0, .int .u64 0, .string ⟨#[]⟩, .int .i64 0, .int .i64 0, .slice none 0 0, .int .i64 1, .bool false], fun v _ => v = .agg #[.int .u8 4, .int .u64 0, .int .u64 0, .int .u64 0, .int .u64 0, .string ⟨#[]⟩, .int .i64 0, .int .i64 0, .slice none 0 0], fun v _ => v = .agg #[.int .u8 4, .int .u64 0, .int .u64 0, .int .u64 0, .int .u64 0, .string ⟨#[]⟩, .int .i64 0, .int .i64 0, .slice none 0 0, .int .i64 2, .bool true], fun v _ => v = .agg #[.int .u8 5, .int .u64 0, .int .u64 0, .int .u64 0, .int .u64 0, .string ⟨#[]⟩, .int .i64 0, .int .i64 0, .slice none 0 0], fun v _ => v = .agg #[.int .u8 5, .int .u64 0, .int .u64 0, .int .u64 0, .int .u64 0, .string ⟨#[]⟩, .int .i64 0, .int .i64 0, .slice none 0 0, .int .i64 9000, .bool true], fun v _ => v = .agg #[.int .u8 5, .int .u64 0, .int .u64 0, .int .u64 0, .int .u64 0, .string ⟨#[97]⟩, .int .i64 0, .int .i64 0, .slice none 0 0], fun v _ => v = .agg #[.int .u8 5, .int .u64 0, .int .u64 0, .int .u64 0, .int .u64 0, .string ⟨#[97]⟩, .int .i64 0, .int .i64 0, .slice none 0 0, .int .i64 2, .bool false], fun v _ => v = .agg #[.int .u8 4, .int .u64 0, .int .u64 0, .int .u64 0, .int .u64 0, .string ⟨#[]⟩, .int .i64 0, .int .i64 0, .slice none 0 0], fun v _ => v = .agg #[.int .u8 4, .int .u64 0, .int .u64 0, .int .u64 0, .int .u64 0, .string ⟨#[]⟩, .int .i64 0, .int .i64 0, .slice none 0 0, .int .i64 (-1), .bool false], fun v _ => v = .agg #[.int .u8 6, .int .u64 0, .int .u64 0, .int .u64 0, .int .u64 0, .string ⟨#[]⟩, .int .i64 0, .int .i64 0, .slice none 0 0], fun v _ => v = .agg #[.int .u8 6, .int .u64 0, .int .u64 0, .int .u64 0, .int .u64 0, .string ⟨#[]⟩, .int .i64 0, .int .i64 0, .slice none 0 0, .int .i64 1, .bool true], fun v _ => v = .agg #[.int .u8 6, .int .u64 0, .int .u64 0, .int .u64 0, .int .u64 0, .string ⟨#[]⟩, .int .i64 0, .int .i64 (-1), .slice none 0 0], fun v _ => v = .agg #[.int .u8 6, .int .u64 0, .int .u64 0, .int .u64 0, .int .u64 0, .string ⟨#[]⟩, .int .i64 0, .int .i64 (-1), .slice none 0 0, .int .i64 1, .bool true], fun v _ => v = .agg #[.int .u8 6, .int .u64 0, .int .u64 0, .int .u64 0, .int .u64 0, .string ⟨#[]⟩, .int .i64 99, .int .i64 99, .slice none 0 0], fun v _ => v = .agg #[.int .u8 6, .int .u64 0, .int .u64 0, .int .u64 0, .int .u64 0, .string ⟨#[]⟩, .int .i64 99, .int .i64 99, .slice none 0 0, .int .i64 1, .bool true], fun v _ => v = .agg #[.int .u8 6, .int .u64 0, .int .u64 0, .int .u64 0, .int .u64 0, .string ⟨#[]⟩, .int .i64 100, .int .i64 (-1), .slice none 0 0], fun v _ => v = .agg #[.int .u8 6, .int .u64 0, .int .u64 0, .int .u64 0, .int .u64 0, .string ⟨#[]⟩, .int .i64 100, .int .i64 (-1), .slice none 0 0, .int .i64 1, .bool false], fun v _ => v = .agg #[.int .u8 6, .int .u64 0, .int .u64 0, .int .u64 0, .int .u64 0, .string ⟨#[]⟩, .int .i64 0, .int .i64 100, .slice none 0 0], fun v _ => v = .agg #[.int .u8 6, .int .u64 0, .int .u64 0, .int .u64 0, .int .u64 0, .string ⟨#[]⟩, .int .i64 0, .int .i64 100, .slice none 0 0, .int .i64 1, .bool false], fun v _ => v = .agg #[.int .u8 6, .int .u64 0, .int .u64 0, .int .u64 0, .int .u64 0, .string ⟨#[]⟩, .int .i64 2, .int .i64 1, .slice none 0 0], fun v _ => v = .agg #[.int .u8 6, .int .u64 0, .int .u64 0, .int .u64 0, .int .u64 0, .string ⟨#[]⟩, .int .i64 2, .int .i64 1, .slice none 0 0, .int .i64 1, .bool false], fun v _ => v = .agg #[.int .u8 6, .int .u64 0, .int .u64 0, .int .u64 0, .int .u64 0, .string ⟨#[]⟩, .int .i64 (-1), .int .i64 1, .slice none 0 0], fun v _ => v = .agg #[.int .u8 6, .int .u64 0, .int .u64 0, .int .u64 0, .int .u64 0, .string ⟨#[]⟩, .int .i64 (-1), .int .i64 1, .slice none 0 0, .int .i64 1, .bool false], fun v _ => v = .agg #[.int .u8 6, .int .u64 0, .int .u64 0, .int .u64 0, .int .u64 0, .string ⟨#[]⟩, .int .i64 0, .int .i64 (-2), .slice none 0 0], fun v _ => v = .agg #[.int .u8 6, .int .u64 0, .int .u64 0, .int .u64 0, .int .u64 0, .string ⟨#[]⟩, .int .i64 0, .int .i64 (-2), .slice none 0 0, .int .i64 1, .bool false], fun v _ => v = .agg #[.int .u8 6, .int .u64 0, .int .u64 0, .int .u64 0, .int .u64 0, .string ⟨#[]⟩, .int .i64 0, .int .i64 1, .slice none 0 0], fun v _ => v = .agg #[.int .u8 6, .int .u64 0, .int .u64 0, .int .u64 0, .int .u64 0, .string ⟨#[]⟩, .int .i64 0, .int .i64 1, .slice none 0 0, .int .i64 2, .bool false], fun v _ => v = .agg #[.int .u8 6, .int .u64 0, .int .u64 0, .int .u64 0, .int .u64 0, .string ⟨#[]⟩, .int .i64 0, .int .i64 1, .slice none 0 0], fun v _ => v = .agg #[.int .u8 6, .int .u64 0, .int .u64 0, .int .u64 0, .int .u64 0, .string ⟨#[]⟩, .int .i64 0, .int .i64 1, .slice none 0 0, .int .i64 0, .bool false], fun v _ => v = .agg #[.int .u8 7, .int .u64 0, .int .u64 0, .int .u64 0, .int .u64 0, .string ⟨#[]⟩, .int .i64 0, .int .i64 0, .slice none 0 0], fun v _ => v = .agg #[.int .u8 7, .int .u64 0, .int .u64 0, .int .u64 0, .int .u64 0, .string ⟨#[]⟩, .int .i64 0, .int .i64 0, .slice none 0 0, .int .i64 1, .bool true], fun v _ => v = .agg #[.int .u8 8, .int .u64 0, .int .u64 0, .int .u64 0, .int .u64 0, .string ⟨#[]⟩, .int .i64 0, .int .i64 0, .slice none 0 0], fun v _ => v = .agg #[.int .u8 8, .int .u64 0, .int .u64 0, .int .u64 0, .int .u64 0, .string ⟨#[]⟩, .int .i64 0, .int .i64 0, .slice none 0 0, .int .i64 0, .bool false], fun v _ => v = .agg #[.int .u8 7, .int .u64 0, .int .u64 0, .int .u64 0, .int .u64 0, .string ⟨#[]⟩, .int .i64 1, .int .i64 0, .slice none 0 0], fun v _ => v = .agg #[.int .u8 7, .int .u64 0, .int .u64 0, .int .u64 0, .int .u64 0, .string ⟨#[]⟩, .int .i64 1, .int .i64 0, .slice none 0 0, .int .i64 1, .bool false], fun v _ => v = .agg #[.int .u8 9, .int .u64 0, .int .u64 0, .int .u64 0, .int .u64 0, .string ⟨#[110]⟩, .int .i64 0, .int .i64 0, .slice none 0 0], fun v _ => v = .agg #[.int .u8 9, .int .u64 0, .int .u64 0, .int .u64 0, .int .u64 0, .string ⟨#[110]⟩, .int .i64 0, .int .i64 0, .slice none 0 0, .int .i64 1, .bool true], fun v _ => v = .agg #[.int .u8 9, .int .u64 0, .int .u64 0, .int .u64 0, .int .u64 0, .string ⟨#[]⟩, .int .i64 0, .int .i64 0, .slice none 0 0], fun v _ => v = .agg #[.int .u8 9, .int .u64 0, .int .u64 0, .int .u64 0, .int .u64 0, .string ⟨#[]⟩, .int .i64 0, .int .i64 0, .slice none 0 0, .int .i64 1, .bool false], fun v _ => v = .agg #[.int .u8 9, .int .u64 0, .int .u64 0, .int .u64 0, .int .u64 0, .string ⟨#[110]⟩, .int .i64 0, .int .i64 1, .slice none 0 0], fun v _ => v = .agg #[.int .u8 9, .int .u64 0, .int .u64 0, .int .u64 0, .int .u64 0, .string ⟨#[110]⟩, .int .i64 0, .int .i64 1, .slice none 0 0, .int .i64 1, .bool false], fun v _ => v = .agg #[.int .u8 10, .int .u64 0, .int .u64 0, .int .u64 0, .int .u64 0, .string ⟨#[]⟩, .int .i64 0, .int .i64 0, .slice none 0 0], fun v _ => v = .agg #[.int .u8 10, .int .u64 0, .int .u64 0, .int .u64 0, .int .u64 0, .string ⟨#[]⟩, .int .i64 0, .int .i64 0, .slice none 0 0, .int .i64 0, .bool false], fun v _ => v = .agg #[.int .u8 255, .int .u64 0, .int .u64 0, .int .u64 0, .int .u64 0, .string ⟨#[]⟩, .int .i64 0, .int .i64 0, .slice none 0 0], fun v _ => v = .agg #[.int .u8 255, .int .u64 0, .int .u64 0, .int .u64 0, .int .u64 0, .string ⟨#[]⟩, .int .i64 0, .int .i64 0, .slice none 0 0, .int .i64 1, .bool false], fun v s => ∃ g, v = .slice (some ⟨g, 0, none⟩) 39 39 ∧ Blk s.2 g 45 (tabCells p q), fun v _ => v = .int .i64 39, fun v _ => v = .int .i64 0]
        (by kernel_rfl) UE.trans (UE.refl _) (by kernel_rfl) (by kernel_rfl) (fun _ => trivial) ?rstg1 ?rstepsg1 ?rfing1
      case rstg1 =>
        intro R hR v s s' _ h hr
        simp only [List.mem_cons, List.not_mem_nil, or_false] at hR
        rcases hR with rfl | rfl | rfl | rfl | rfl | rfl | rfl | rfl | rfl | rfl | rfl | rfl | rfl | rfl | rfl | rfl | rfl | rfl | rfl | rfl | rfl | rfl | rfl | rfl | rfl | rfl | rfl | rfl | rfl | rfl | rfl | rfl | rfl | rfl | rfl | rfl | rfl | rfl | rfl | rfl | rfl | rfl | rfl | rfl | rfl | rfl | rfl | rfl | rfl | rfl | rfl | rfl | rfl | rfl | rfl | rfl | rfl | rfl | rfl | rfl | rfl | rfl | rfl | rfl | rfl | rfl | rfl | rfl | rfl | rfl | rfl | rfl | rfl | rfl | rfl | rfl | rfl | rfl | rfl | rfl | rfl | rfl | rfl | rfl | rfl | rfl
        · exact hr
        · exact hr
        · exact hr
        · exact hr
        · exact hr
        · exact hr
        · exact hr
        · exact hr
        · exact hr
        · exact hr
        · exact hr
        · exact hr
        · exact hr
        · exact hr
        · exact hr
        · exact hr
        · exact hr
        · exact hr
        · exact hr
        · exact hr
        · exact hr
        · exact hr
        · exact hr
        · exact hr
        · exact hr
        · exact hr
        · exact hr
        · exact hr
        · exact hr
        · exact hr
        · exact hr
        · exact hr
        · exact hr
        · exact hr
        · exact hr
        · exact hr
        · exact hr
        · exact hr
        · exact hr
        · exact hr
        · exact hr
        · exact hr
        · exact hr
        · exact hr
        · exact hr
        · exact hr
        · exact hr
        · exact hr
        · exact hr
        · exact hr
        · exact hr
        · exact hr
        · exact hr
        · exact hr
        · exact hr
        · exact hr
        · exact hr
        · exact hr
        · exact hr
        · exact hr
        · exact hr
        · exact hr
        · exact hr
        · exact hr
        · exact hr
        · exact hr
        · exact hr
        · exact hr
        · exact hr
        · exact hr
        · exact hr
        · exact hr
        · exact hr
        · exact hr
        · exact hr
        · exact hr
        · exact hr
        · exact hr
        · exact hr
        · exact hr
        · exact hr
        · exact hr
        · exact hr
        · exact hr.imp fun _ h' => ⟨h'.1, h'.2.below h h'.2.lt⟩
        · exact hr
        · exact hr
      case rstepsg1 =>
        refine ⟨?_, ?_, ?_, ?_, ?_, ?_, ?_, ?_, ?_, ?_, ?_, ?_, ?_, ?_, ?_, ?_, ?_, ?_, ?_, ?_, ?_, ?_, ?_, ?_, ?_, ?_, ?_, ?_, ?_, ?_, ?_, ?_, ?_, ?_, ?_, ?_, ?_, ?_, ?_, ?_, ?_, ?_, ?_, ?_, ?_, ?_, ?_, ?_, ?_, ?_, ?_, ?_, ?_, ?_, ?_, ?_, ?_, ?_, ?_, ?_, ?_, ?_, ?_, ?_, ?_, ?_, ?_, ?_, ?_, ?_, ?_, ?_, ?_, ?_, ?_, ?_, ?_, ?_, ?_, ?_, ?_, ?_, ?_, ?_, ?_, ?_, trivial⟩
        · intro a γ wx hB hE hN hW K hK
          have hw := UE.start hE
          clear hB hN hE
          go_simp
          exact hK (.agg #[.int .u8 0, .int .u64 0, .int .u64 0, .int .u64 0, .int .u64 0, .string ⟨#[]⟩, .int .i64 0, .int .i64 0, .slice none 0 0]) () _ (UE.refl _) (fun _ _ h => h) rfl
        · intro a γ wx hB hE hN hW K hK
          have hw := UE.start hE
          obtain ⟨⟨_, h90, rfl⟩, -⟩ := hW
          clear hB hN hE
          go_simp
          exact hK (.agg #[.int .u8 0, .int .u64 0, .int .u64 0, .int .u64 0, .int .u64 0, .string ⟨#[]⟩, .int .i64 0, .int .i64 0, .slice none 0 0, .int .i64 0, .bool true]) () _ (UE.refl _) (fun _ _ h => h) rfl
        · intro a γ wx hB hE hN hW K hK
          have hw := UE.start hE
          clear hB hN hE
          go_simp
          exact hK (.agg #[.int .u8 0, .int .u64 0, .int .u64 0, .int .u64 0, .int .u64 0, .string ⟨#[]⟩, .int .i64 0, .int .i64 0, .slice none 0 0]) () _ (UE.refl _) (fun _ _ h => h) rfl
        · intro a γ wx hB hE hN hW K hK
          have hw := UE.start hE
          obtain ⟨⟨_, h92, rfl⟩, -⟩ := hW
          clear hB hN hE
          go_simp
          exact hK (.agg #[.int .u8 0, .int .u64 0, .int .u64 0, .int .u64 0, .int .u64 0, .string ⟨#[]⟩, .int .i64 0, .int .i64 0, .slice none 0 0, .int .i64 1, .bool false]) () _ (UE.refl _) (fun _ _ h => h) rfl
        · intro a γ wx hB hE hN hW K hK
          have hw := UE.start hE
          clear hB hN hE
          go_simp
          exact hK (.agg #[.int .u8 0, .int .u64 0, .int .u64 0, .int .u64 0, .int .u64 0, .string ⟨#[97]⟩, .int .i64 0, .int .i64 0, .slice none 0 0]) () _ (UE.refl _) (fun _ _ h => h) rfl
        · intro a γ wx hB hE hN hW K hK
          have hw := UE.start hE
          obtain ⟨⟨_, h94, rfl⟩, -⟩ := hW
          clear hB hN hE
          go_simp
          exact hK (.agg #[.int .u8 0, .int .u64 0, .int .u64 0, .int .u64 0, .int .u64 0, .string ⟨#[97]⟩, .int .i64 0, .int .i64 0, .slice none 0 0, .int .i64 0, .bool false]) () _ (UE.refl _) (fun _ _ h => h) rfl
        · intro a γ wx hB hE hN hW K hK
          have hw := UE.start hE
          have h7 : a.tmps[7]? = some (.pointer (some ⟨g7, 0, none⟩)) := (hB.at_ 7 (of_decide_eq_true (by kernel_rfl))).trans rfl
          have hc := HC7.out _ hw
          clear hB hN hE
          go_simp
          exact hK (.agg #[.int .u64 1, .int .u64 0, .int .u64 0, .int .u64 0]) () _ (UE.refl _) (fun _ _ h => h) rfl
        · intro a γ wx hB hE hN hW K hK
          have hw := UE.start hE
          obtain ⟨⟨_, h96, rfl⟩, -⟩ := hW
          clear hB hN hE
          go_simp
          exact hK (.agg #[.int .u8 0, .int .u64 1, .int .u64 0, .int .u64 0, .int .u64 0, .string ⟨#[]⟩, .int .i64 0, .int .i64 0, .slice none 0 0]) () _ (UE.refl _) (fun _ _ h => h) rfl
        · intro a γ wx hB hE hN hW K hK
          have hw := UE.start hE
          obtain ⟨⟨_, h97, rfl⟩, -⟩ := hW
          clear hB hN hE
          go_simp
          exact hK (.agg #[.int .u8 0, .int .u64 1, .int .u64 0, .int .u64 0, .int .u64 0, .string ⟨#[]⟩, .int .i64 0, .int .i64 0, .slice none 0 0, .int .i64 0, .bool false]) () _ (UE.refl _) (fun _ _ h => h) rfl
        · intro a γ wx hB hE hN hW K hK
          have hw := UE.start hE
          clear hB hN hE
          go_simp
          exact hK (.agg #[.int .u8 0, .int .u64 0, .int .u64 0, .int .u64 0, .int .u64 0, .string ⟨#[]⟩, .int .i64 1, .int .i64 0, .slice none 0 0]) () _ (UE.refl _) (fun _ _ h => h) rfl
        · intro a γ wx hB hE hN hW K hK
          have hw := UE.start hE
          obtain ⟨⟨_, h99, rfl⟩, -⟩ := hW
          clear hB hN hE
          go_simp
          exact hK (.agg #[.int .u8 0, .int .u64 0, .int .u64 0, .int .u64 0, .int .u64 0, .string ⟨#[]⟩, .int .i64 1, .int .i64 0, .slice none 0 0, .int .i64 0, .bool false]) () _ (UE.refl _) (fun _ _ h => h) rfl
        · intro a γ wx hB hE hN hW K hK
          have hw := UE.start hE
          clear hB hN hE
          go_simp
          exact hK (.agg #[.int .u8 1, .int .u64 0, .int .u64 0, .int .u64 0, .int .u64 0, .string ⟨#[]⟩, .int .i64 0, .int .i64 0, .slice none 0 0]) () _ (UE.refl _) (fun _ _ h => h) rfl
        · intro a γ wx hB hE hN hW K hK
          have hw := UE.start hE
          obtain ⟨⟨_, h101, rfl⟩, -⟩ := hW
          clear hB hN hE
          go_simp
          exact hK (.agg #[.int .u8 1, .int .u64 0, .int .u64 0, .int .u64 0, .int .u64 0, .string ⟨#[]⟩, .int .i64 0, .int .i64 0, .slice none 0 0, .int .i64 0, .bool true]) () _ (UE.refl _) (fun _ _ h => h) rfl
        · intro a γ wx hB hE hN hW K hK
          have hw := UE.start hE
          have h7 : a.tmps[7]? = some (.pointer (some ⟨g7, 0, none⟩)) := (hB.at_ 7 (of_decide_eq_true (by kernel_rfl))).trans rfl
          have hc := HC7.out _ hw
          clear hB hN hE
          go_simp
          exact hK (.agg #[.int .u64 1, .int .u64 0, .int .u64 0, .int .u64 0]) () _ (UE.refl _) (fun _ _ h => h) rfl
        · intro a γ wx hB hE hN hW K hK
          have hw := UE.start hE
          obtain ⟨⟨_, h103, rfl⟩, -⟩ := hW
          clear hB hN hE
          go_simp
          exact hK (.agg #[.int .u8 1, .int .u64 1, .int .u64 0, .int .u64 0, .int .u64 0, .string ⟨#[]⟩, .int .i64 0, .int .i64 0, .slice none 0 0]) () _ (UE.refl _) (fun _ _ h => h) rfl
        · intro a γ wx hB hE hN hW K hK
          have hw := UE.start hE
          obtain ⟨⟨_, h104, rfl⟩, -⟩ := hW
          clear hB hN hE
          go_simp
          exact hK (.agg #[.int .u8 1, .int .u64 1, .int .u64 0, .int .u64 0, .int .u64 0, .string ⟨#[]⟩, .int .i64 0, .int .i64 0, .slice none 0 0, .int .i64 0, .bool true]) () _ (UE.refl _) (fun _ _ h => h) rfl
        · intro a γ wx hB hE hN hW K hK
          have hw := UE.start hE
          clear hB hN hE
          go_simp
          exact hK (.agg #[.int .u8 1, .int .u64 0, .int .u64 0, .int .u64 0, .int .u64 0, .string ⟨#[]⟩, .int .i64 0, .int .i64 (-1), .slice none 0 0]) () _ (UE.refl _) (fun _ _ h => h) rfl
        · intro a γ wx hB hE hN hW K hK
          have hw := UE.start hE
          obtain ⟨⟨_, h106, rfl⟩, -⟩ := hW
          clear hB hN hE
          go_simp
          exact hK (.agg #[.int .u8 1, .int .u64 0, .int .u64 0, .int .u64 0, .int .u64 0, .string ⟨#[]⟩, .int .i64 0, .int .i64 (-1), .slice none 0 0, .int .i64 0, .bool false]) () _ (UE.refl _) (fun _ _ h => h) rfl
        · intro a γ wx hB hE hN hW K hK
          have hw := UE.start hE
          clear hB hN hE
          go_simp
          exact hK (.agg #[.int .u8 1, .int .u64 0, .int .u64 0, .int .u64 0, .int .u64 0, .string ⟨#[]⟩, .int .i64 0, .int .i64 0, .slice none 0 0]) () _ (UE.refl _) (fun _ _ h => h) rfl
        · intro a γ wx hB hE hN hW K hK
          have hw := UE.start hE
          obtain ⟨⟨_, h108, rfl⟩, -⟩ := hW
          clear hB hN hE
          go_simp
          exact hK (.agg #[.int .u8 1, .int .u64 0, .int .u64 0, .int .u64 0, .int .u64 0, .string ⟨#[]⟩, .int .i64 0, .int .i64 0, .slice none 0 0, .int .i64 1, .bool false]) () _ (UE.refl _) (fun _ _ h => h) rfl
        · intro a γ wx hB hE hN hW K hK
          have hw := UE.start hE
          clear hB hN hE
          go_simp
          exact hK (.agg #[.int .u8 2, .int .u64 0, .int .u64 0, .int .u64 0, .int .u64 0, .string ⟨#[]⟩, .int .i64 0, .int .i64 0, .slice none 0 0]) () _ (UE.refl _) (fun _ _ h => h) rfl
        · intro a γ wx hB hE hN hW K hK
          have hw := UE.start hE
          obtain ⟨⟨_, h110, rfl⟩, -⟩ := hW
          clear hB hN hE
          go_simp
          exact hK (.agg #[.int .u8 2, .int .u64 0, .int .u64 0, .int .u64 0, .int .u64 0, .string ⟨#[]⟩, .int .i64 0, .int .i64 0, .slice none 0 0, .int .i64 0, .bool false]) () _ (UE.refl _) (fun _ _ h => h) rfl
        · intro a γ wx hB hE hN hW K hK
          have hw := UE.start hE
          clear hB hN hE
          go_simp
          refine (HCp.out _).mono ?_
          rintro e w' ⟨rfl, hbb⟩
          exact hK _ () _ hbb (fun _ _ h => h) rfl
        · intro a γ wx hB hE hN hW K hK
          have hw := UE.start hE
          obtain ⟨⟨_, h112, rfl⟩, -⟩ := hW
          clear hB hN hE
          go_simp
          exact hK (.agg #[.int .u8 2, .int .u64 0, .int .u64 0, .int .u64 0, .int .u64 0, .string ⟨p.toArray⟩, .int .i64 0, .int .i64 0, .slice none 0 0]) () _ (UE.refl _) (fun _ _ h => h) rfl
        · intro a γ wx hB hE hN hW K hK
          have hw := UE.start hE
          obtain ⟨⟨_, h113, rfl⟩, -⟩ := hW
          clear hB hN hE
          go_simp
          exact hK (.agg #[.int .u8 2, .int .u64 0, .int .u64 0, .int .u64 0, .int .u64 0, .string ⟨p.toArray⟩, .int .i64 0, .int .i64 0, .slice none 0 0, .int .i64 0, .bool true]) () _ (UE.refl _) (fun _ _ h => h) rfl
        · intro a γ wx hB hE hN hW K hK
          have hw := UE.start hE
          clear hB hN hE
          go_simp
          refine (HCq.out _).mono ?_
          rintro e w' ⟨rfl, hbb⟩
          exact hK _ () _ hbb (fun _ _ h => h) rfl
        · intro a γ wx hB hE hN hW K hK
          have hw := UE.start hE
          obtain ⟨⟨_, h115, rfl⟩, -⟩ := hW
          clear hB hN hE
          go_simp
          exact hK (.agg #[.int .u8 2, .int .u64 0, .int .u64 0, .int .u64 0, .int .u64 0, .string ⟨q.toArray⟩, .int .i64 0, .int .i64 0, .slice none 0 0]) () _ (UE.refl _) (fun _ _ h => h) rfl
        · intro a γ wx hB hE hN hW K hK
          have hw := UE.start hE
          obtain ⟨⟨_, h116, rfl⟩, -⟩ := hW
          clear hB hN hE
          go_simp
          exact hK (.agg #[.int .u8 2, .int .u64 0, .int .u64 0, .int .u64 0, .int .u64 0, .string ⟨q.toArray⟩, .int .i64 0, .int .i64 0, .slice none 0 0, .int .i64 0, .bool false]) () _ (UE.refl _) (fun _ _ h => h) rfl
        · intro a γ wx hB hE hN hW K hK
          have hw := UE.start hE
          have h7 : a.tmps[7]? = some (.pointer (some ⟨g7, 0, none⟩)) := (hB.at_ 7 (of_decide_eq_true (by kernel_rfl))).trans rfl
          have hc := HC7.out _ hw
          clear hB hN hE
          go_simp
          exact hK (.agg #[.int .u64 1, .int .u64 0, .int .u64 0, .int .u64 0]) () _ (UE.refl _) (fun _ _ h => h) rfl
        · intro a γ wx hB hE hN hW K hK
          have hw := UE.start hE
          obtain ⟨⟨_, h118, rfl⟩, -⟩ := hW
          clear hB hN hE
          go_simp
          exact hK (.agg #[.int .u8 2, .int .u64 1, .int .u64 0, .int .u64 0, .int .u64 0, .string ⟨#[97]⟩, .int .i64 0, .int .i64 0, .slice none 0 0]) () _ (UE.refl _) (fun _ _ h => h) rfl
        · intro a γ wx hB hE hN hW K hK
          have hw := UE.start hE
          obtain ⟨⟨_, h119, rfl⟩, -⟩ := hW
          clear hB hN hE
          go_simp
          exact hK (.agg #[.int .u8 2, .int .u64 1, .int .u64 0, .int .u64 0, .int .u64 0, .string ⟨#[97]⟩, .int .i64 0, .int .i64 0, .slice none 0 0, .int .i64 0, .bool false]) () _ (UE.refl _) (fun _ _ h => h) rfl
        · intro a γ wx hB hE hN hW K hK
          have hw := UE.start hE
          clear hB hN hE
          go_simp
          exact hK (.agg #[.int .u8 3, .int .u64 0, .int .u64 0, .int .u64 0, .int .u64 0, .string ⟨#[97]⟩, .int .i64 0, .int .i64 0, .slice none 0 0]) () _ (UE.refl _) (fun _ _ h => h) rfl
        · intro a γ wx hB hE hN hW K hK
          have hw := UE.start hE
          obtain ⟨⟨_, h121, rfl⟩, -⟩ := hW
          clear hB hN hE
          go_simp
          exact hK (.agg #[.int .u8 3, .int .u64 0, .int .u64 0, .int .u64 0, .int .u64 0, .string ⟨#[97]⟩, .int .i64 0, .int .i64 0, .slice none 0 0, .int .i64 0, .bool true]) () _ (UE.refl _) (fun _ _ h => h) rfl
        · intro a γ wx hB hE hN hW K hK
          have hw := UE.start hE
          clear hB hN hE
          go_simp
          exact hK (.agg #[.int .u8 3, .int .u64 0, .int .u64 0, .int .u64 0, .int .u64 0, .string ⟨#[49]⟩, .int .i64 0, .int .i64 0, .slice none 0 0]) () _ (UE.refl _) (fun _ _ h => h) rfl
        · intro a γ wx hB hE hN hW K hK
          have hw := UE.start hE
          obtain ⟨⟨_, h123, rfl⟩, -⟩ := hW
          clear hB hN hE
          go_simp
          exact hK (.agg #[.int .u8 3, .int .u64 0, .int .u64 0, .int .u64 0, .int .u64 0, .string ⟨#[49]⟩, .int .i64 0, .int .i64 0, .slice none 0 0, .int .i64 0, .bool false]) () _ (UE.refl _) (fun _ _ h => h) rfl
        · intro a γ wx hB hE hN hW K hK
          have hw := UE.start hE
          clear hB hN hE
          go_simp
          exact hK (.agg #[.int .u8 3, .int .u64 0, .int .u64 0, .int .u64 0, .int .u64 0, .string ⟨#[]⟩, .int .i64 0, .int .i64 0, .slice none 0 0]) () _ (UE.refl _) (fun _ _ h => h) rfl
        · intro a γ wx hB hE hN hW K hK
          have hw := UE.start hE
          obtain ⟨⟨_, h125, rfl⟩, -⟩ := hW
          clear hB hN hE
          go_simp
          exact hK (.agg #[.int .u8 3, .int .u64 0, .int .u64 0, .int .u64 0, .int .u64 0, .string ⟨#[]⟩, .int .i64 0, .int .i64 0, .slice none 0 0, .int .i64 0, .bool false]) () _ (UE.refl _) (fun _ _ h => h) rfl
        · intro a γ wx hB hE hN hW K hK
          have hw := UE.start hE
          clear hB hN hE
          go_simp
          exact hK (.agg #[.int .u8 4, .int .u64 0, .int .u64 0, .int .u64 0, .int .u64 0, .string ⟨#[]⟩, .int .i64 0, .int .i64 0, .slice none 0 0]) () _ (UE.refl _) (fun _ _ h => h) rfl
        · intro a γ wx hB hE hN hW K hK
          have hw := UE.start hE
          obtain ⟨⟨_, h127, rfl⟩, -⟩ := hW
          clear hB hN hE
          go_simp
          exact hK (.agg #[.int .u8 4, .int .u64 0, .int .u64 0, .int .u64 0, .int .u64 0, .string ⟨#[]⟩, .int .i64 0, .int .i64 0, .slice none 0 0, .int .i64 1, .bool false]) () _ (UE.refl _) (fun _ _ h => h) rfl
        · intro a γ wx hB hE hN hW K hK
          have hw := UE.start hE
          clear hB hN hE
          go_simp
          exact hK (.agg #[.int .u8 4, .int .u64 0, .int .u64 0, .int .u64 0, .int .u64 0, .string ⟨#[]⟩, .int .i64 0, .int .i64 0, .slice none 0 0]) () _ (UE.refl _) (fun _ _ h => h) rfl
        · intro a γ wx hB hE hN hW K hK
          have hw := UE.start hE
          obtain ⟨⟨_, h129, rfl⟩, -⟩ := hW
          clear hB hN hE
          go_simp
          exact hK (.agg #[.int .u8 4, .int .u64 0, .int .u64 0, .int .u64 0, .int .u64 0, .string ⟨#[]⟩, .int .i64 0, .int .i64 0, .slice none 0 0, .int .i64 2, .bool true]) () _ (UE.refl _) (fun _ _ h => h) rfl
        · intro a γ wx hB hE hN hW K hK
          have hw := UE.start hE
          clear hB hN hE
          go_simp
          exact hK (.agg #[.int .u8 5, .int .u64 0, .int .u64 0, .int .u64 0, .int .u64 0, .string ⟨#[]⟩, .int .i64 0, .int .i64 0, .slice none 0 0]) () _ (UE.refl _) (fun _ _ h => h) rfl
        · intro a γ wx hB hE hN hW K hK
          have hw := UE.start hE
          obtain ⟨⟨_, h131, rfl⟩, -⟩ := hW
          clear hB hN hE
          go_simp
          exact hK (.agg #[.int .u8 5, .int .u64 0, .int .u64 0, .int .u64 0, .int .u64 0, .string ⟨#[]⟩, .int .i64 0, .int .i64 0, .slice none 0 0, .int .i64 9000, .bool true]) () _ (UE.refl _) (fun _ _ h => h) rfl
        · intro a γ wx hB hE hN hW K hK
          have hw := UE.start hE
          clear hB hN hE
          go_simp
          exact hK (.agg #[.int .u8 5, .int .u64 0, .int .u64 0, .int .u64 0, .int .u64 0, .string ⟨#[97]⟩, .int .i64 0, .int .i64 0, .slice none 0 0]) () _ (UE.refl _) (fun _ _ h => h) rfl
        · intro a γ wx hB hE hN hW K hK
          have hw := UE.start hE
          obtain ⟨⟨_, h133, rfl⟩, -⟩ := hW
          clear hB hN hE
          go_simp
          exact hK (.agg #[.int .u8 5, .int .u64 0, .int .u64 0, .int .u64 0, .int .u64 0, .string ⟨#[97]⟩, .int .i64 0, .int .i64 0, .slice none 0 0, .int .i64 2, .bool false]) () _ (UE.refl _) (fun _ _ h => h) rfl
        · intro a γ wx hB hE hN hW K hK
          have hw := UE.start hE
          clear hB hN hE
          go_simp
          exact hK (.agg #[.int .u8 4, .int .u64 0, .int .u64 0, .int .u64 0, .int .u64 0, .string ⟨#[]⟩, .int .i64 0, .int .i64 0, .slice none 0 0]) () _ (UE.refl _) (fun _ _ h => h) rfl
        · intro a γ wx hB hE hN hW K hK
          have hw := UE.start hE
          obtain ⟨⟨_, h135, rfl⟩, -⟩ := hW
          clear hB hN hE
          go_simp
          exact hK (.agg #[.int .u8 4, .int .u64 0, .int .u64 0, .int .u64 0, .int .u64 0, .string ⟨#[]⟩, .int .i64 0, .int .i64 0, .slice none 0 0, .int .i64 (-1), .bool false]) () _ (UE.refl _) (fun _ _ h => h) rfl
        · intro a γ wx hB hE hN hW K hK
          have hw := UE.start hE
          clear hB hN hE
          go_simp
          exact hK (.agg #[.int .u8 6, .int .u64 0, .int .u64 0, .int .u64 0, .int .u64 0, .string ⟨#[]⟩, .int .i64 0, .int .i64 0, .slice none 0 0]) () _ (UE.refl _) (fun _ _ h => h) rfl
        · intro a γ wx hB hE hN hW K hK
          have hw := UE.start hE
          obtain ⟨⟨_, h137, rfl⟩, -⟩ := hW
          clear hB hN hE
          go_simp
          exact hK (.agg #[.int .u8 6, .int .u64 0, .int .u64 0, .int .u64 0, .int .u64 0, .string ⟨#[]⟩, .int .i64 0, .int .i64 0, .slice none 0 0, .int .i64 1, .bool true]) () _ (UE.refl _) (fun _ _ h => h) rfl
        · intro a γ wx hB hE hN hW K hK
          have hw := UE.start hE
          clear hB hN hE
          go_simp
          exact hK (.agg #[.int .u8 6, .int .u64 0, .int .u64 0, .int .u64 0, .int .u64 0, .string ⟨#[]⟩, .int .i64 0, .int .i64 (-1), .slice none 0 0]) () _ (UE.refl _) (fun _ _ h => h) rfl
        · intro a γ wx hB hE hN hW K hK
          have hw := UE.start hE
          obtain ⟨⟨_, h139, rfl⟩, -⟩ := hW
          clear hB hN hE
          go_simp
          exact hK (.agg #[.int .u8 6, .int .u64 0, .int .u64 0, .int .u64 0, .int .u64 0, .string ⟨#[]⟩, .int .i64 0, .int .i64 (-1), .slice none 0 0, .int .i64 1, .bool true]) () _ (UE.refl _) (fun _ _ h => h) rfl
        · intro a γ wx hB hE hN hW K hK
          have hw := UE.start hE
          clear hB hN hE
          go_simp
          exact hK (.agg #[.int .u8 6, .int .u64 0, .int .u64 0, .int .u64 0, .int .u64 0, .string ⟨#[]⟩, .int .i64 99, .int .i64 99, .slice none 0 0]) () _ (UE.refl _) (fun _ _ h => h) rfl
        · intro a γ wx hB hE hN hW K hK
          have hw := UE.start hE
          obtain ⟨⟨_, h141, rfl⟩, -⟩ := hW
          clear hB hN hE
          go_simp
          exact hK (.agg #[.int .u8 6, .int .u64 0, .int .u64 0, .int .u64 0, .int .u64 0, .string ⟨#[]⟩, .int .i64 99, .int .i64 99, .slice none 0 0, .int .i64 1, .bool true]) () _ (UE.refl _) (fun _ _ h => h) rfl
        · intro a γ wx hB hE hN hW K hK
          have hw := UE.start hE
          clear hB hN hE
          go_simp
          exact hK (.agg #[.int .u8 6, .int .u64 0, .int .u64 0, .int .u64 0, .int .u64 0, .string ⟨#[]⟩, .int .i64 100, .int .i64 (-1), .slice none 0 0]) () _ (UE.refl _) (fun _ _ h => h) rfl
        · intro a γ wx hB hE hN hW K hK
          have hw := UE.start hE
          obtain ⟨⟨_, h143, rfl⟩, -⟩ := hW
          clear hB hN hE
          go_simp
          exact hK (.agg #[.int .u8 6, .int .u64 0, .int .u64 0, .int .u64 0, .int .u64 0, .string ⟨#[]⟩, .int .i64 100, .int .i64 (-1), .slice none 0 0, .int .i64 1, .bool false]) () _ (UE.refl _) (fun _ _ h => h) rfl
        · intro a γ wx hB hE hN hW K hK
          have hw := UE.start hE
          clear hB hN hE
          go_simp
          exact hK (.agg #[.int .u8 6, .int .u64 0, .int .u64 0, .int .u64 0, .int .u64 0, .string ⟨#[]⟩, .int .i64 0, .int .i64 100, .slice none 0 0]) () _ (UE.refl _) (fun _ _ h => h) rfl
        · intro a γ wx hB hE hN hW K hK
          have hw := UE.start hE
          obtain ⟨⟨_, h145, rfl⟩, -⟩ := hW
          clear hB hN hE
          go_simp
          exact hK (.agg #[.int .u8 6, .int .u64 0, .int .u64 0, .int .u64 0, .int .u64 0, .string ⟨#[]⟩, .int .i64 0, .int .i64 100, .slice none 0 0, .int .i64 1, .bool false]) () _ (UE.refl _) (fun _ _ h => h) rfl
        · intro a γ wx hB hE hN hW K hK
          have hw := UE.start hE
          clear hB hN hE
          go_simp
          exact hK (.agg #[.int .u8 6, .int .u64 0, .int .u64 0, .int .u64 0, .int .u64 0, .string ⟨#[]⟩, .int .i64 2, .int .i64 1, .slice none 0 0]) () _ (UE.refl _) (fun _ _ h => h) rfl
        · intro a γ wx hB hE hN hW K hK
          have hw := UE.start hE
          obtain ⟨⟨_, h147, rfl⟩, -⟩ := hW
          clear hB hN hE
          go_simp
          exact hK (.agg #[.int .u8 6, .int .u64 0, .int .u64 0, .int .u64 0, .int .u64 0, .string ⟨#[]⟩, .int .i64 2, .int .i64 1, .slice none 0 0, .int .i64 1, .bool false]) () _ (UE.refl _) (fun _ _ h => h) rfl
        · intro a γ wx hB hE hN hW K hK
          have hw := UE.start hE
          clear hB hN hE
          go_simp
          exact hK (.agg #[.int .u8 6, .int .u64 0, .int .u64 0, .int .u64 0, .int .u64 0, .string ⟨#[]⟩, .int .i64 (-1), .int .i64 1, .slice none 0 0]) () _ (UE.refl _) (fun _ _ h => h) rfl
        · intro a γ wx hB hE hN hW K hK
          have hw := UE.start hE
          obtain ⟨⟨_, h149, rfl⟩, -⟩ := hW
          clear hB hN hE
          go_simp
          exact hK (.agg #[.int .u8 6, .int .u64 0, .int .u64 0, .int .u64 0, .int .u64 0, .string ⟨#[]⟩, .int .i64 (-1), .int .i64 1, .slice none 0 0, .int .i64 1, .bool false]) () _ (UE.refl _) (fun _ _ h => h) rfl
        · intro a γ wx hB hE hN hW K hK
          have hw := UE.start hE
          clear hB hN hE
          go_simp
          exact hK (.agg #[.int .u8 6, .int .u64 0, .int .u64 0, .int .u64 0, .int .u64 0, .string ⟨#[]⟩, .int .i64 0, .int .i64 (-2), .slice none 0 0]) () _ (UE.refl _) (fun _ _ h => h) rfl
        · intro a γ wx hB hE hN hW K hK
          have hw := UE.start hE
          obtain ⟨⟨_, h151, rfl⟩, -⟩ := hW
          clear hB hN hE
          go_simp
          exact hK (.agg #[.int .u8 6, .int .u64 0, .int .u64 0, .int .u64 0, .int .u64 0, .string ⟨#[]⟩, .int .i64 0, .int .i64 (-2), .slice none 0 0, .int .i64 1, .bool false]) () _ (UE.refl _) (fun _ _ h => h) rfl
        · intro a γ wx hB hE hN hW K hK
          have hw := UE.start hE
          clear hB hN hE
          go_simp
          exact hK (.agg #[.int .u8 6, .int .u64 0, .int .u64 0, .int .u64 0, .int .u64 0, .string ⟨#[]⟩, .int .i64 0, .int .i64 1, .slice none 0 0]) () _ (UE.refl _) (fun _ _ h => h) rfl
        · intro a γ wx hB hE hN hW K hK
          have hw := UE.start hE
          obtain ⟨⟨_, h153, rfl⟩, -⟩ := hW
          clear hB hN hE
          go_simp
          exact hK (.agg #[.int .u8 6, .int .u64 0, .int .u64 0, .int .u64 0, .int .u64 0, .string ⟨#[]⟩, .int .i64 0, .int .i64 1, .slice none 0 0, .int .i64 2, .bool false]) () _ (UE.refl _) (fun _ _ h => h) rfl
        · intro a γ wx hB hE hN hW K hK
          have hw := UE.start hE
          clear hB hN hE
          go_simp
          exact hK (.agg #[.int .u8 6, .int .u64 0, .int .u64 0, .int .u64 0, .int .u64 0, .string ⟨#[]⟩, .int .i64 0, .int .i64 1, .slice none 0 0]) () _ (UE.refl _) (fun _ _ h => h) rfl
        · intro a γ wx hB hE hN hW K hK
          have hw := UE.start hE
          obtain ⟨⟨_, h155, rfl⟩, -⟩ := hW
          clear hB hN hE
          go_simp
          exact hK (.agg #[.int .u8 6, .int .u64 0, .int .u64 0, .int .u64 0, .int .u64 0, .string ⟨#[]⟩, .int .i64 0, .int .i64 1, .slice none 0 0, .int .i64 0, .bool false]) () _ (UE.refl _) (fun _ _ h => h) rfl
        · intro a γ wx hB hE hN hW K hK
          have hw := UE.start hE
          clear hB hN hE
          go_simp
          exact hK (.agg #[.int .u8 7, .int .u64 0, .int .u64 0, .int .u64 0, .int .u64 0, .string ⟨#[]⟩, .int .i64 0, .int .i64 0, .slice none 0 0]) () _ (UE.refl _) (fun _ _ h => h) rfl
        · intro a γ wx hB hE hN hW K hK
          have hw := UE.start hE
          obtain ⟨⟨_, h157, rfl⟩, -⟩ := hW
          clear hB hN hE
          go_simp
          exact hK (.agg #[.int .u8 7, .int .u64 0, .int .u64 0, .int .u64 0, .int .u64 0, .string ⟨#[]⟩, .int .i64 0, .int .i64 0, .slice none 0 0, .int .i64 1, .bool true]) () _ (UE.refl _) (fun _ _ h => h) rfl
        · intro a γ wx hB hE hN hW K hK
          have hw := UE.start hE
          clear hB hN hE
          go_simp
          exact hK (.agg #[.int .u8 8, .int .u64 0, .int .u64 0, .int .u64 0, .int .u64 0, .string ⟨#[]⟩, .int .i64 0, .int .i64 0, .slice none 0 0]) () _ (UE.refl _) (fun _ _ h => h) rfl
        · intro a γ wx hB hE hN hW K hK
          have hw := UE.start hE
          obtain ⟨⟨_, h159, rfl⟩, -⟩ := hW
          clear hB hN hE
          go_simp
          exact hK (.agg #[.int .u8 8, .int .u64 0, .int .u64 0, .int .u64 0, .int .u64 0, .string ⟨#[]⟩, .int .i64 0, .int .i64 0, .slice none 0 0, .int .i64 0, .bool false]) () _ (UE.refl _) (fun _ _ h => h) rfl
        · intro a γ wx hB hE hN hW K hK
          have hw := UE.start hE
          clear hB hN hE
          go_simp
          exact hK (.agg #[.int .u8 7, .int .u64 0, .int .u64 0, .int .u64 0, .int .u64 0, .string ⟨#[]⟩, .int .i64 1, .int .i64 0, .slice none 0 0]) () _ (UE.refl _) (fun _ _ h => h) rfl
        · intro a γ wx hB hE hN hW K hK
          have hw := UE.start hE
          obtain ⟨⟨_, h161, rfl⟩, -⟩ := hW
          clear hB hN hE
          go_simp
          exact hK (.agg #[.int .u8 7, .int .u64 0, .int .u64 0, .int .u64 0, .int .u64 0, .string ⟨#[]⟩, .int .i64 1, .int .i64 0, .slice none 0 0, .int .i64 1, .bool false]) () _ (UE.refl _) (fun _ _ h => h) rfl
        · intro a γ wx hB hE hN hW K hK
          have hw := UE.start hE
          clear hB hN hE
          go_simp
          exact hK (.agg #[.int .u8 9, .int .u64 0, .int .u64 0, .int .u64 0, .int .u64 0, .string ⟨#[110]⟩, .int .i64 0, .int .i64 0, .slice none 0 0]) () _ (UE.refl _) (fun _ _ h => h) rfl
        · intro a γ wx hB hE hN hW K hK
          have hw := UE.start hE
          obtain ⟨⟨_, h163, rfl⟩, -⟩ := hW
          clear hB hN hE
          go_simp
          exact hK (.agg #[.int .u8 9, .int .u64 0, .int .u64 0, .int .u64 0, .int .u64 0, .string ⟨#[110]⟩, .int .i64 0, .int .i64 0, .slice none 0 0, .int .i64 1, .bool true]) () _ (UE.refl _) (fun _ _ h => h) rfl
        · intro a γ wx hB hE hN hW K hK
          have hw := UE.start hE
          clear hB hN hE
          go_simp
          exact hK (.agg #[.int .u8 9, .int .u64 0, .int .u64 0, .int .u64 0, .int .u64 0, .string ⟨#[]⟩, .int .i64 0, .int .i64 0, .slice none 0 0]) () _ (UE.refl _) (fun _ _ h => h) rfl
        · intro a γ wx hB hE hN hW K hK
          have hw := UE.start hE
          obtain ⟨⟨_, h165, rfl⟩, -⟩ := hW
          clear hB hN hE
          go_simp
          exact hK (.agg #[.int .u8 9, .int .u64 0, .int .u64 0, .int .u64 0, .int .u64 0, .string ⟨#[]⟩, .int .i64 0, .int .i64 0, .slice none 0 0, .int .i64 1, .bool false]) () _ (UE.refl _) (fun _ _ h => h) rfl
        · intro a γ wx hB hE hN hW K hK
          have hw := UE.start hE
          clear hB hN hE
          go_simp
          exact hK (.agg #[.int .u8 9, .int .u64 0, .int .u64 0, .int .u64 0, .int .u64 0, .string ⟨#[110]⟩, .int .i64 0, .int .i64 1, .slice none 0 0]) () _ (UE.refl _) (fun _ _ h => h) rfl
        · intro a γ wx hB hE hN hW K hK
          have hw := UE.start hE
          obtain ⟨⟨_, h167, rfl⟩, -⟩ := hW
          clear hB hN hE
          go_simp
          exact hK (.agg #[.int .u8 9, .int .u64 0, .int .u64 0, .int .u64 0, .int .u64 0, .string ⟨#[110]⟩, .int .i64 0, .int .i64 1, .slice none 0 0, .int .i64 1, .bool false]) () _ (UE.refl _) (fun _ _ h => h) rfl
        · intro a γ wx hB hE hN hW K hK
          have hw := UE.start hE
          clear hB hN hE
          go_simp
          exact hK (.agg #[.int .u8 10, .int .u64 0, .int .u64 0, .int .u64 0, .int .u64 0, .string ⟨#[]⟩, .int .i64 0, .int .i64 0, .slice none 0 0]) () _ (UE.refl _) (fun _ _ h => h) rfl
        · intro a γ wx hB hE hN hW K hK
          have hw := UE.start hE
          obtain ⟨⟨_, h169, rfl⟩, -⟩ := hW
          clear hB hN hE
          go_simp
          exact hK (.agg #[.int .u8 10, .int .u64 0, .int .u64 0, .int .u64 0, .int .u64 0, .string ⟨#[]⟩, .int .i64 0, .int .i64 0, .slice none 0 0, .int .i64 0, .bool false]) () _ (UE.refl _) (fun _ _ h => h) rfl
        · intro a γ wx hB hE hN hW K hK
          have hw := UE.start hE
          clear hB hN hE
          go_simp
          exact hK (.agg #[.int .u8 255, .int .u64 0, .int .u64 0, .int .u64 0, .int .u64 0, .string ⟨#[]⟩, .int .i64 0, .int .i64 0, .slice none 0 0]) () _ (UE.refl _) (fun _ _ h => h) rfl
        · intro a γ wx hB hE hN hW K hK
          have hw := UE.start hE
          obtain ⟨⟨_, h171, rfl⟩, -⟩ := hW
          clear hB hN hE
          go_simp
          exact hK (.agg #[.int .u8 255, .int .u64 0, .int .u64 0, .int .u64 0, .int .u64 0, .string ⟨#[]⟩, .int .i64 0, .int .i64 0, .slice none 0 0, .int .i64 1, .bool false]) () _ (UE.refl _) (fun _ _ h => h) rfl
        · intro a γ wx hB hE hN hW K hK
          have hw := UE.start hE
          obtain ⟨⟨_, h91, rfl⟩, ⟨_, h93, rfl⟩, ⟨_, h95, rfl⟩, ⟨_, h98, rfl⟩, ⟨_, h100, rfl⟩, ⟨_, h102, rfl⟩, ⟨_, h105, rfl⟩, ⟨_, h107, rfl⟩, ⟨_, h109, rfl⟩, ⟨_, h111, rfl⟩, ⟨_, h114, rfl⟩, ⟨_, h117, rfl⟩, ⟨_, h120, rfl⟩, ⟨_, h122, rfl⟩, ⟨_, h124, rfl⟩, ⟨_, h126, rfl⟩, ⟨_, h128, rfl⟩, ⟨_, h130, rfl⟩, ⟨_, h132, rfl⟩, ⟨_, h134, rfl⟩, ⟨_, h136, rfl⟩, ⟨_, h138, rfl⟩, ⟨_, h140, rfl⟩, ⟨_, h142, rfl⟩, ⟨_, h144, rfl⟩, ⟨_, h146, rfl⟩, ⟨_, h148, rfl⟩, ⟨_, h150, rfl⟩, ⟨_, h152, rfl⟩, ⟨_, h154, rfl⟩, ⟨_, h156, rfl⟩, ⟨_, h158, rfl⟩, ⟨_, h160, rfl⟩, ⟨_, h162, rfl⟩, ⟨_, h164, rfl⟩, ⟨_, h166, rfl⟩, ⟨_, h168, rfl⟩, ⟨_, h170, rfl⟩, ⟨_, h172, rfl⟩, -⟩ := hW
          clear hB hE
          simp (maxSteps := 4000000) [go_sem, h91, h93, h95, h98, h100, h102, h105, h107, h109, h111, h114, h117, h120, h122, h124, h126, h128, h130, h132, h134, h136, h138, h140, h142, h144, h146, h148, h150, h152, h154, h156, h158, h160, h162, h164, h166, h168, h170, h172]
          exact hK _ () _ UE.alloc (fun _ _ h => h) ⟨wx.heap.size, rfl, Blk.new _ _ _⟩
        · intro a γ wx hB hE hN hW K hK
          have hw := UE.start hE
          obtain ⟨⟨v173, h173, ⟨g173, rfl, r173⟩⟩, -⟩ := hW
          clear hB hN hE
          go_simp
          exact hK (.int .i64 39) () _ (UE.refl _) (fun _ _ h => h) rfl
        · intro a γ wx hB hE hN hW K hK
          have hw := UE.start hE
          clear hB hN hE
          go_simp
          exact hK (.int .i64 0) () _ (UE.refl _) (fun _ _ h => h) rfl
      intro a' γ wx hB hE hK
      obtain ⟨_, h90, rfl⟩ := hK 0 (of_decide_eq_true (by kernel_rfl))
      obtain ⟨_, h91, rfl⟩ := hK 1 (of_decide_eq_true (by kernel_rfl))
      obtain ⟨_, h92, rfl⟩ := hK 2 (of_decide_eq_true (by kernel_rfl))
      obtain ⟨_, h93, rfl⟩ := hK 3 (of_decide_eq_true (by kernel_rfl))
      obtain ⟨_, h94, rfl⟩ := hK 4 (of_decide_eq_true (by kernel_rfl))
      obtain ⟨_, h95, rfl⟩ := hK 5 (of_decide_eq_true (by kernel_rfl))
      obtain ⟨_, h96, rfl⟩ := hK 6 (of_decide_eq_true (by kernel_rfl))
      obtain ⟨_, h97, rfl⟩ := hK 7 (of_decide_eq_true (by kernel_rfl))
      obtain ⟨_, h98, rfl⟩ := hK 8 (of_decide_eq_true (by kernel_rfl))
      obtain ⟨_, h99, rfl⟩ := hK 9 (of_decide_eq_true (by kernel_rfl))
      obtain ⟨_, h100, rfl⟩ := hK 10 (of_decide_eq_true (by kernel_rfl))
      obtain ⟨_, h101, rfl⟩ := hK 11 (of_decide_eq_true (by kernel_rfl))
      obtain ⟨_, h102, rfl⟩ := hK 12 (of_decide_eq_true (by kernel_rfl))
      obtain ⟨_, h103, rfl⟩ := hK 13 (of_decide_eq_true (by kernel_rfl))
      obtain ⟨_, h104, rfl⟩ := hK 14 (of_decide_eq_true (by kernel_rfl))
      obtain ⟨_, h105, rfl⟩ := hK 15 (of_decide_eq_true (by kernel_rfl))
      obtain ⟨_, h106, rfl⟩ := hK 16 (of_decide_eq_true (by kernel_rfl))
      obtain ⟨_, h107, rfl⟩ := hK 17 (of_decide_eq_true (by kernel_rfl))
      obtain ⟨_, h108, rfl⟩ := hK 18 (of_decide_eq_true (by kernel_rfl))
      obtain ⟨_, h109, rfl⟩ := hK 19 (of_decide_eq_true (by kernel_rfl))
      obtain ⟨_, h110, rfl⟩ := hK 20 (of_decide_eq_true (by kernel_rfl))
      obtain ⟨_, h111, rfl⟩ := hK 21 (of_decide_eq_true (by kernel_rfl))
      obtain ⟨_, h112, rfl⟩ := hK 22 (of_decide_eq_true (by kernel_rfl))
      obtain ⟨_, h113, rfl⟩ := hK 23 (of_decide_eq_true (by kernel_rfl))
      obtain ⟨_, h114, rfl⟩ := hK 24 (of_decide_eq_true (by kernel_rfl))
      obtain ⟨_, h115, rfl⟩ := hK 25 (of_decide_eq_true (by kernel_rfl))
      obtain ⟨_, h116, rfl⟩ := hK 26 (of_decide_eq_true (by kernel_rfl))
      obtain ⟨_, h117, rfl⟩ := hK 27 (of_decide_eq_true (by kernel_rfl))
      obtain ⟨_, h118, rfl⟩ := hK 28 (of_decide_eq_true (by kernel_rfl))
      obtain ⟨_, h119, rfl⟩ := hK 29 (of_decide_eq_true (by kernel_rfl))
      obtain ⟨_, h120, rfl⟩ := hK 30 (of_decide_eq_true (by kernel_rfl))
      obtain ⟨_, h121, rfl⟩ := hK 31 (of_decide_eq_true (by kernel_rfl))
      obtain ⟨_, h122, rfl⟩ := hK 32 (of_decide_eq_true (by kernel_rfl))
      obtain ⟨_, h123, rfl⟩ := hK 33 (of_decide_eq_true (by kernel_rfl))
      obtain ⟨_, h124, rfl⟩ := hK 34 (of_decide_eq_true (by kernel_rfl))
      obtain ⟨_, h125, rfl⟩ := hK 35 (of_decide_eq_true (by kernel_rfl))
      obtain ⟨_, h126, rfl⟩ := hK 36 (of_decide_eq_true (by kernel_rfl))
      obtain ⟨_, h127, rfl⟩ := hK 37 (of_decide_eq_true (by kernel_rfl))
      obtain ⟨_, h128, rfl⟩ := hK 38 (of_decide_eq_true (by kernel_rfl))
      obtain ⟨_, h129, rfl⟩ := hK 39 (of_decide_eq_true (by kernel_rfl))
      obtain ⟨_, h130, rfl⟩ := hK 40 (of_decide_eq_true (by kernel_rfl))
      obtain ⟨_, h131, rfl⟩ := hK 41 (of_decide_eq_true (by kernel_rfl))
      obtain ⟨_, h132, rfl⟩ := hK 42 (of_decide_eq_true (by kernel_rfl))
      obtain ⟨_, h133, rfl⟩ := hK 43 (of_decide_eq_true (by kernel_rfl))
      obtain ⟨_, h134, rfl⟩ := hK 44 (of_decide_eq_true (by kernel_rfl))
      obtain ⟨_, h135, rfl⟩ := hK 45 (of_decide_eq_true (by kernel_rfl))
      obtain ⟨_, h136, rfl⟩ := hK 46 (of_decide_eq_true (by kernel_rfl))
      obtain ⟨_, h137, rfl⟩ := hK 47 (of_decide_eq_true (by kernel_rfl))
      obtain ⟨_, h138, rfl⟩ := hK 48 (of_decide_eq_true (by kernel_rfl))
      obtain ⟨_, h139, rfl⟩ := hK 49 (of_decide_eq_true (by kernel_rfl))
      obtain ⟨_, h140, rfl⟩ := hK 50 (of_decide_eq_true (by kernel_rfl))
      obtain ⟨_, h141, rfl⟩ := hK 51 (of_decide_eq_true (by kernel_rfl))
      obtain ⟨_, h142, rfl⟩ := hK 52 (of_decide_eq_true (by kernel_rfl))
      obtain ⟨_, h143, rfl⟩ := hK 53 (of_decide_eq_true (by kernel_rfl))
      obtain ⟨_, h144, rfl⟩ := hK 54 (of_decide_eq_true (by kernel_rfl))
      obtain ⟨_, h145, rfl⟩ := hK 55 (of_decide_eq_true (by kernel_rfl))
      obtain ⟨_, h146, rfl⟩ := hK 56 (of_decide_eq_true (by kernel_rfl))
      obtain ⟨_, h147, rfl⟩ := hK 57 (of_decide_eq_true (by kernel_rfl))
      obtain ⟨_, h148, rfl⟩ := hK 58 (of_decide_eq_true (by kernel_rfl))
      obtain ⟨_, h149, rfl⟩ := hK 59 (of_decide_eq_true (by kernel_rfl))
      obtain ⟨_, h150, rfl⟩ := hK 60 (of_decide_eq_true (by kernel_rfl))
      obtain ⟨_, h151, rfl⟩ := hK 61 (of_decide_eq_true (by kernel_rfl))
      obtain ⟨_, h152, rfl⟩ := hK 62 (of_decide_eq_true (by kernel_rfl))
      obtain ⟨_, h153, rfl⟩ := hK 63 (of_decide_eq_true (by kernel_rfl))
      obtain ⟨_, h154, rfl⟩ := hK 64 (of_decide_eq_true (by kernel_rfl))
      obtain ⟨_, h155, rfl⟩ := hK 65 (of_decide_eq_true (by kernel_rfl))
      obtain ⟨_, h156, rfl⟩ := hK 66 (of_decide_eq_true (by kernel_rfl))
      obtain ⟨_, h157, rfl⟩ := hK 67 (of_decide_eq_true (by kernel_rfl))
      obtain ⟨_, h158, rfl⟩ := hK 68 (of_decide_eq_true (by kernel_rfl))
      obtain ⟨_, h159, rfl⟩ := hK 69 (of_decide_eq_true (by kernel_rfl))
      obtain ⟨_, h160, rfl⟩ := hK 70 (of_decide_eq_true (by kernel_rfl))
      obtain ⟨_, h161, rfl⟩ := hK 71 (of_decide_eq_true (by kernel_rfl))
      obtain ⟨_, h162, rfl⟩ := hK 72 (of_decide_eq_true (by kernel_rfl))
      obtain ⟨_, h163, rfl⟩ := hK 73 (of_decide_eq_true (by kernel_rfl))
      obtain ⟨_, h164, rfl⟩ := hK 74 (of_decide_eq_true (by kernel_rfl))
      obtain ⟨_, h165, rfl⟩ := hK 75 (of_decide_eq_true (by kernel_rfl))
      obtain ⟨_, h166, rfl⟩ := hK 76 (of_decide_eq_true (by kernel_rfl))
      obtain ⟨_, h167, rfl⟩ := hK 77 (of_decide_eq_true (by kernel_rfl))
      obtain ⟨_, h168, rfl⟩ := hK 78 (of_decide_eq_true (by kernel_rfl))
      obtain ⟨_, h169, rfl⟩ := hK 79 (of_decide_eq_true (by kernel_rfl))
      obtain ⟨_, h170, rfl⟩ := hK 80 (of_decide_eq_true (by kernel_rfl))
      obtain ⟨_, h171, rfl⟩ := hK 81 (of_decide_eq_true (by kernel_rfl))
      obtain ⟨_, h172, rfl⟩ := hK 82 (of_decide_eq_true (by kernel_rfl))
      obtain ⟨v173, h173, ⟨g173, rfl, r173⟩⟩ := hK 83 (of_decide_eq_true (by kernel_rfl))
      obtain ⟨_, h174, rfl⟩ := hK 84 (of_decide_eq_true (by kernel_rfl))
      obtain ⟨_, h175, rfl⟩ := hK 85 (of_decide_eq_true (by kernel_rfl))
      have ha := hB.eq [(90, .agg #[.int .u8 0, .int .u64 0, .int .u64 0, .int .u64 0, .int .u64 0, .string ⟨#[]⟩, .int .i64 0, .int .i64 0, .slice none 0 0]), (91, .agg #[.int .u8 0, .int .u64 0, .int .u64 0, .int .u64 0, .int .u64 0, .string ⟨#[]⟩, .int .i64 0, .int .i64 0, .slice none 0 0, .int .i64 0, .bool true]), (92, .agg #[.int .u8 0, .int .u64 0, .int .u64 0, .int .u64 0, .int .u64 0, .string ⟨#[]⟩, .int .i64 0, .int .i64 0, .slice none 0 0]), (93, .agg #[.int .u8 0, .int .u64 0, .int .u64 0, .int .u64 0, .int .u64 0, .string ⟨#[]⟩, .int .i64 0, .int .i64 0, .slice none 0 0, .int .i64 1, .bool false]), (94, .agg #[.int .u8 0, .int .u64 0, .int .u64 0, .int .u64 0, .int .u64 0, .string ⟨#[97]⟩, .int .i64 0, .int .i64 0, .slice none 0 0]), (95, .agg #[.int .u8 0, .int .u64 0, .int .u64 0, .int .u64 0, .int .u64 0, .string ⟨#[97]⟩, .int .i64 0, .int .i64 0, .slice none 0 0, .int .i64 0, .bool false]), (96, .agg #[.int .u64 1, .int .u64 0, .int .u64 0, .int .u64 0]), (97, .agg #[.int .u8 0, .int .u64 1, .int .u64 0, .int .u64 0, .int .u64 0, .string ⟨#[]⟩, .int .i64 0, .int .i64 0, .slice none 0 0]), (98, .agg #[.int .u8 0, .int .u64 1, .int .u64 0, .int .u64 0, .int .u64 0, .string ⟨#[]⟩, .int .i64 0, .int .i64 0, .slice none 0 0, .int .i64 0, .bool false]), (99, .agg #[.int .u8 0, .int .u64 0, .int .u64 0, .int .u64 0, .int .u64 0, .string ⟨#[]⟩, .int .i64 1, .int .i64 0, .slice none 0 0]), (100, .agg #[.int .u8 0, .int .u64 0, .int .u64 0, .int .u64 0, .int .u64 0, .string ⟨#[]⟩, .int .i64 1, .int .i64 0, .slice none 0 0, .int .i64 0, .bool false]), (101, .agg #[.int .u8 1, .int .u64 0, .int .u64 0, .int .u64 0, .int .u64 0, .string ⟨#[]⟩, .int .i64 0, .int .i64 0, .slice none 0 0]), (102, .agg #[.int .u8 1, .int .u64 0, .int .u64 0, .int .u64 0, .int .u64 0, .string ⟨#[]⟩, .int .i64 0, .int .i64 0, .slice none 0 0, .int .i64 0, .bool true]), (103, .agg #[.int .u64 1, .int .u64 0, .int .u64 0, .int .u64 0]), (104, .agg #[.int .u8 1, .int .u64 1, .int .u64 0, .int .u64 0, .int .u64 0, .string ⟨#[]⟩, .int .i64 0, .int .i64 0, .slice none 0 0]), (105, .agg #[.int .u8 1, .int .u64 1, .int .u64 0, .int .u64 0, .int .u64 0, .string ⟨#[]⟩, .int .i64 0, .int .i64 0, .slice none 0 0, .int .i64 0, .bool true]), (106, .agg #[.int .u8 1, .int .u64 0, .int .u64 0, .int .u64 0, .int .u64 0, .string ⟨#[]⟩, .int .i64 0, .int .i64 (-1), .slice none 0 0]), (107, .agg #[.int .u8 1, .int .u64 0, .int .u64 0, .int .u64 0, .int .u64 0, .string ⟨#[]⟩, .int .i64 0, .int .i64 (-1), .slice none 0 0, .int .i64 0, .bool false]), (108, .agg #[.int .u8 1, .int .u64 0, .int .u64 0, .int .u64 0, .int .u64 0, .string ⟨#[]⟩, .int .i64 0, .int .i64 0, .slice none 0 0]), (109, .agg #[.int .u8 1, .int .u64 0, .int .u64 0, .int .u64 0, .int .u64 0, .string ⟨#[]⟩, .int .i64 0, .int .i64 0, .slice none 0 0, .int .i64 1, .bool false]), (110, .agg #[.int .u8 2, .int .u64 0, .int .u64 0, .int .u64 0, .int .u64 0, .string ⟨#[]⟩, .int .i64 0, .int .i64 0, .slice none 0 0]), (111, .agg #[.int .u8 2, .int .u64 0, .int .u64 0, .int .u64 0, .int .u64 0, .string ⟨#[]⟩, .int .i64 0, .int .i64 0, .slice none 0 0, .int .i64 0, .bool false]), (112, .string ⟨p.toArray⟩), (113, .agg #[.int .u8 2, .int .u64 0, .int .u64 0, .int .u64 0, .int .u64 0, .string ⟨p.toArray⟩, .int .i64 0, .int .i64 0, .slice none 0 0]), (114, .agg #[.int .u8 2, .int .u64 0, .int .u64 0, .int .u64 0, .int .u64 0, .string ⟨p.toArray⟩, .int .i64 0, .int .i64 0, .slice none 0 0, .int .i64 0, .bool true]), (115, .string ⟨q.toArray⟩), (116, .agg #[.int .u8 2, .int .u64 0, .int .u64 0, .int .u64 0, .int .u64 0, .string ⟨q.toArray⟩, .int .i64 0, .int .i64 0, .slice none 0 0]), (117, .agg #[.int .u8 2, .int .u64 0, .int .u64 0, .int .u64 0, .int .u64 0, .string ⟨q.toArray⟩, .int .i64 0, .int .i64 0, .slice none 0 0, .int .i64 0, .bool false]), (118, .agg #[.int .u64 1, .int .u64 0, .int .u64 0, .int .u64 0]), (119, .agg #[.int .u8 2, .int .u64 1, .int .u64 0, .int .u64 0, .int .u64 0, .string ⟨#[97]⟩, .int .i64 0, .int .i64 0, .slice none 0 0]), (120, .agg #[.int .u8 2, .int .u64 1, .int .u64 0, .int .u64 0, .int .u64 0, .string ⟨#[97]⟩, .int .i64 0, .int .i64 0, .slice none 0 0, .int .i64 0, .bool false]), (121, .agg #[.int .u8 3, .int .u64 0, .int .u64 0, .int .u64 0, .int .u64 0, .string ⟨#[97]⟩, .int .i64 0, .int .i64 0, .slice none 0 0]), (122, .agg #[.int .u8 3, .int .u64 0, .int .u64 0, .int .u64 0, .int .u64 0, .string ⟨#[97]⟩, .int .i64 0, .int .i64 0, .slice none 0 0, .int .i64 0, .bool true]), (123, .agg #[.int .u8 3, .int .u64 0, .int .u64 0, .int .u64 0, .int .u64 0, .string ⟨#[49]⟩, .int .i64 0, .int .i64 0, .slice none 0 0]), (124, .agg #[.int .u8 3, .int .u64 0, .int .u64 0, .int .u64 0, .int .u64 0, .string ⟨#[49]⟩, .int .i64 0, .int .i64 0, .slice none 0 0, .int .i64 0, .bool false]), (125, .agg #[.int .u8 3, .int .u64 0, .int .u64 0, .int .u64 0, .int .u64 0, .string ⟨#[]⟩, .int .i64 0, .int .i64 0, .slice none 0 0]), (126, .agg #[.int .u8 3, .int .u64 0, .int .u64 0, .int .u64 0, .int .u64 0, .string ⟨#[]⟩, .int .i64 0, .int .i64 0, .slice none 0 0, .int .i64 0, .bool false]), (127, .agg #[.int .u8 4, .int .u64 0, .int .u64 0, .int .u64 0, .int .u64 0, .string ⟨#[]⟩, .int .i64 0, .int .i64 0, .slice none 0 0]), (128, .agg #[.int .u8 4, .int .u64 0, .int .u64 0, .int .u64 0, .int .u64 0, .string ⟨#[]⟩, .int .i64 0, .int .i64 0, .slice none 0 0, .int .i64 1, .bool false]), (129, .agg #[.int .u8 4, .int .u64 0, .int .u64 0, .int .u64 0, .int .u64 0, .string ⟨#[]⟩, .int .i64 0, .int .i64 0, .slice none 0 0]), (130, .agg #[.int .u8 4, .int .u64 0, .int .u64 0, .int .u64 0, .int .u64 0, .string ⟨#[]⟩, .int .i64 0, .int .i64 0, .slice none 0 0, .int .i64 2, .bool true]), (131, .agg #[.int .u8 5, .int .u64 0, .int .u64 0, .int .u64 0, .int .u64 0, .string ⟨#[]⟩, .int .i64 0, .int .i64 0, .slice none 0 0]), (132, .agg #[.int .u8 5, .int .u64 0, .int .u64 0, .int .u64 0, .int .u64 0, .string ⟨#[]⟩, .int .i64 0, .int .i64 0, .slice none 0 0, .int .i64 9000, .bool true]), (133, .agg #[.int .u8 5, .int .u64 0, .int .u64 0, .int .u64 0, .int .u64 0, .string ⟨#[97]⟩, .int .i64 0, .int .i64 0, .slice none 0 0]), (134, .agg #[.int .u8 5, .int .u64 0, .int .u64 0, .int .u64 0, .int .u64 0, .string ⟨#[97]⟩, .int .i64 0, .int .i64 0, .slice none 0 0, .int .i64 2, .bool false]), (135, .agg #[.int .u8 4, .int .u64 0, .int .u64 0, .int .u64 0, .int .u64 0, .string ⟨#[]⟩, .int .i64 0, .int .i64 0, .slice none 0 0]), (136, .agg #[.int .u8 4, .int .u64 0, .int .u64 0, .int .u64 0, .int .u64 0, .string ⟨#[]⟩, .int .i64 0, .int .i64 0, .slice none 0 0, .int .i64 (-1), .bool false]), (137, .agg #[.int .u8 6, .int .u64 0, .int .u64 0, .int .u64 0, .int .u64 0, .string ⟨#[]⟩, .int .i64 0, .int .i64 0, .slice none 0 0]), (138, .agg #[.int .u8 6, .int .u64 0, .int .u64 0, .int .u64 0, .int .u64 0, .string ⟨#[]⟩, .int .i64 0, .int .i64 0, .slice none 0 0, .int .i64 1, .bool true]), (139, .agg #[.int .u8 6, .int .u64 0, .int .u64 0, .int .u64 0, .int .u64 0, .string ⟨#[]⟩, .int .i64 0, .int .i64 (-1), .slice none 0 0]), (140, .agg #[.int .u8 6, .int .u64 0, .int .u64 0, .int .u64 0, .int .u64 0, .string ⟨#[]⟩, .int .i64 0, .int .i64 (-1), .slice none 0 0, .int .i64 1, .bool true]), (141, .agg #[.int .u8 6, .int .u64 0, .int .u64 0, .int .u64 0, .int .u64 0, .string ⟨#[]⟩, .int .i64 99, .int .i64 99, .slice none 0 0]), (142, .agg #[.int .u8 6, .int .u64 0, .int .u64 0, .int .u64 0, .int .u64 0, .string ⟨#[]⟩, .int .i64 99, .int .i64 99, .slice none 0 0, .int .i64 1, .bool true]), (143, .agg #[.int .u8 6, .int .u64 0, .int .u64 0, .int .u64 0, .int .u64 0, .string ⟨#[]⟩, .int .i64 100, .int .i64 (-1), .slice none 0 0]), (144, .agg #[.int .u8 6, .int .u64 0, .int .u64 0, .int .u64 0, .int .u64 0, .string ⟨#[]⟩, .int .i64 100, .int .i64 (-1), .slice none 0 0, .int .i64 1, .bool false]), (145, .agg #[.int .u8 6, .int .u64 0, .int .u64 0, .int .u64 0, .int .u64 0, .string ⟨#[]⟩, .int .i64 0, .int .i64 100, .slice none 0 0]), (146, .agg #[.int .u8 6, .int .u64 0, .int .u64 0, .int .u64 0, .int .u64 0, .string ⟨#[]⟩, .int .i64 0, .int .i64 100, .slice none 0 0, .int .i64 1, .bool false]), (147, .agg #[.int .u8 6, .int .u64 0, .int .u64 0, .int .u64 0, .int .u64 0, .string ⟨#[]⟩, .int .i64 2, .int .i64 1, .slice none 0 0]), (148, .agg #[.int .u8 6, .int .u64 0, .int .u64 0, .int .u64 0, .int .u64 0, .string ⟨#[]⟩, .int .i64 2, .int .i64 1, .slice none 0 0, .int .i64 1, .bool false]), (149, .agg #[.int .u8 6, .int .u64 0, .int .u64 0, .int .u64 0, .int .u64 0, .string ⟨#[]⟩, .int .i64 (-1), .int .i64 1, .slice none 0 0]), (150, .agg #[.int .u8 6, .int .u64 0, .int .u64 0, .int .u64 0, .int .u64 0, .string ⟨#[]⟩, .int .i64 (-1), .int .i64 1, .slice none 0 0, .int .i64 1, .bool false]), (151, .agg #[.int .u8 6, .int .u64 0, .int .u64 0, .int .u64 0, .int .u64 0, .string ⟨#[]⟩, .int .i64 0, .int .i64 (-2), .slice none 0 0]), (152, .agg #[.int .u8 6, .int .u64 0, .int .u64 0, .int .u64 0, .int .u64 0, .string ⟨#[]⟩, .int .i64 0, .int .i64 (-2), .slice none 0 0, .int .i64 1, .bool false]), (153, .agg #[.int .u8 6, .int .u64 0, .int .u64 0, .int .u64 0, .int .u64 0, .string ⟨#[]⟩, .int .i64 0, .int .i64 1, .slice none 0 0]), (154, .agg #[.int .u8 6, .int .u64 0, .int .u64 0, .int .u64 0, .int .u64 0, .string ⟨#[]⟩, .int .i64 0, .int .i64 1, .slice none 0 0, .int .i64 2, .bool false]), (155, .agg #[.int .u8 6, .int .u64 0, .int .u64 0, .int .u64 0, .int .u64 0, .string ⟨#[]⟩, .int .i64 0, .int .i64 1, .slice none 0 0]), (156, .agg #[.int .u8 6, .int .u64 0, .int .u64 0, .int .u64 0, .int .u64 0, .string ⟨#[]⟩, .int .i64 0, .int .i64 1, .slice none 0 0, .int .i64 0, .bool false]), (157, .agg #[.int .u8 7, .int .u64 0, .int .u64 0, .int .u64 0, .int .u64 0, .string ⟨#[]⟩, .int .i64 0, .int .i64 0, .slice none 0 0]), (158, .agg #[.int .u8 7, .int .u64 0, .int .u64 0, .int .u64 0, .int .u64 0, .string ⟨#[]⟩, .int .i64 0, .int .i64 0, .slice none 0 0, .int .i64 1, .bool true]), (159, .agg #[.int .u8 8, .int .u64 0, .int .u64 0, .int .u64 0, .int .u64 0, .string ⟨#[]⟩, .int .i64 0, .int .i64 0, .slice none 0 0]), (160, .agg #[.int .u8 8, .int .u64 0, .int .u64 0, .int .u64 0, .int .u64 0, .string ⟨#[]⟩, .int .i64 0, .int .i64 0, .slice none 0 0, .int .i64 0, .bool false]), (161, .agg #[.int .u8 7, .int .u64 0, .int .u64 0, .int .u64 0, .int .u64 0, .string ⟨#[]⟩, .int .i64 1, .int .i64 0, .slice none 0 0]), (162, .agg #[.int .u8 7, .int .u64 0, .int .u64 0, .int .u64 0, .int .u64 0, .string ⟨#[]⟩, .int .i64 1, .int .i64 0, .slice none 0 0, .int .i64 1, .bool false]), (163, .agg #[.int .u8 9, .int .u64 0, .int .u64 0, .int .u64 0, .int .u64 0, .string ⟨#[110]⟩, .int .i64 0, .int .i64 0, .slice none 0 0]), (164, .agg #[.int .u8 9, .int .u64 0, .int .u64 0, .int .u64 0, .int .u64 0, .string ⟨#[110]⟩, .int .i64 0, .int .i64 0, .slice none 0 0, .int .i64 1, .bool true]), (165, .agg #[.int .u8 9, .int .u64 0, .int .u64 0, .int .u64 0, .int .u64 0, .string ⟨#[]⟩, .int .i64 0, .int .i64 0, .slice none 0 0]), (166, .agg #[.int .u8 9, .int .u64 0, .int .u64 0, .int .u64 0, .int .u64 0, .string ⟨#[]⟩, .int .i64 0, .int .i64 0, .slice none 0 0, .int .i64 1, .bool false]), (167, .agg #[.int .u8 9, .int .u64 0, .int .u64 0, .int .u64 0, .int .u64 0, .string ⟨#[110]⟩, .int .i64 0, .int .i64 1, .slice none 0 0]), (168, .agg #[.int .u8 9, .int .u64 0, .int .u64 0, .int .u64 0, .int .u64 0, .string ⟨#[110]⟩, .int .i64 0, .int .i64 1, .slice none 0 0, .int .i64 1, .bool false]), (169, .agg #[.int .u8 10, .int .u64 0, .int .u64 0, .int .u64 0, .int .u64 0, .string ⟨#[]⟩, .int .i64 0, .int .i64 0, .slice none 0 0]), (170, .agg #[.int .u8 10, .int .u64 0, .int .u64 0, .int .u64 0, .int .u64 0, .string ⟨#[]⟩, .int .i64 0, .int .i64 0, .slice none 0 0, .int .i64 0, .bool false]), (171, .agg #[.int .u8 255, .int .u64 0, .int .u64 0, .int .u64 0, .int .u64 0, .string ⟨#[]⟩, .int .i64 0, .int .i64 0, .slice none 0 0]), (172, .agg #[.int .u8 255, .int .u64 0, .int .u64 0, .int .u64 0, .int .u64 0, .string ⟨#[]⟩, .int .i64 0, .int .i64 0, .slice none 0 0, .int .i64 1, .bool false]), (173, .slice (some ⟨g173, 0, none⟩) 39 39), (174, .int .i64 39), (175, .int .i64 0)] rfl (by kernel_rfl) ⟨h90, h91, h92, h93, h94, h95, h96, h97, h98, h99, h100, h101, h102, h103, h104, h105, h106, h107, h108, h109, h110, h111, h112, h113, h114, h115, h116, h117, h118, h119, h120, h121, h122, h123, h124, h125, h126, h127, h128, h129, h130, h131, h132, h133, h134, h135, h136, h137, h138, h139, h140, h141, h142, h143, h144, h145, h146, h147, h148, h149, h150, h151, h152, h153, h154, h155, h156, h157, h158, h159, h160, h161, h162, h163, h164, h165, h166, h167, h168, h169, h170, h171, h172, h173, h174, h175, trivial⟩
      subst ha
      have hw := UE.start hE
      clear hK hB hE h90 h91 h92 h93 h94 h95 h96 h97 h98 h99 h100 h101 h102 h103 h104 h105 h106 h107 h108 h109 h110 h111 h112 h113 h114 h115 h116 h117 h118 h119 h120 h121 h122 h123 h124 h125 h126 h127 h128 h129 h130 h131 h132 h133 h134 h135 h136 h137 h138 h139 h140 h141 h142 h143 h144 h145 h146 h147 h148 h149 h150 h151 h152 h153 h154 h155 h156 h157 h158 h159 h160 h161 h162 h163 h164 h165 h166 h167 h168 h169 h170 h171 h172 h173 h174 h175
      simp only [putAll, List.foldl_cons, List.foldl_nil, List.setIfInBounds_toArray, List.set_cons_succ, List.set_cons_zero]
      /- >R13 -/
      obtain ⟨wb, hwb⟩ : ∃ wb, wb = wx := ⟨_, rfl⟩
      have HWb : Hid (Below w.heap.size w wb) := Lib.hid (by rw [hwb]; exact HWs.out.trans (hw.mono HWs.out.size))
      have HTB : Hid (Blk wb g173 45 (tabCells p q)) := Lib.hid (by rw [hwb]; exact r173)
      rw [← hwb]
      clear hwb hw r173 HCp HCq HC7 HWs
      go_wp2_with fail
      go_loopw [175] (fun i wr => ∃ j : Nat, j ≤ 39 ∧ i = .int .i64 j ∧ Hid (Below wb.heap.size wb wr)) (fun i _ => 39 - (intOf i).toNat)
      case atStart => exact ⟨0, by omega, rfl, Lib.hid (Below.refl _ _)⟩
      case round =>
        obtain ⟨wo, rfl⟩ : ∃ wo, wo = wr := ⟨_, rfl⟩
        obtain ⟨j, hj, rfl, HLo⟩ := hrel
        by_cases hlt : j < 39
        · have hlt' : (j : Int) < 39 := by omega
          obtain ⟨⟨d, n, f⟩, hr⟩ : ∃ r, (tab p q)[j]? = some r := ⟨_, List.getElem?_eq_getElem hlt⟩
          obtain ⟨hfit, hdo, hn1, hn2⟩ := tab_fits p q HPL.out HQL.out _ (List.mem_of_getElem? hr)
          simp only at hfit hdo hn1 hn2
          have hat : ∀ i u, i < 11 → (rowCells (d, n, f))[i]? = some u → wo.cell? ⟨g173, j * 11 + i, none⟩ = some u := fun i u hi hu => by
            rw [(HTB.out.below HLo.out HTB.out.lt).cell]
            have := flat_at rowCells 11 (fun _ => rfl) (tab p q) j _ hr i hi
            simp only [tabCells, List.getElem?_toArray]
            rw [this, hu]
          have c0 : wo.cell? ⟨g173, j * 11, none⟩ = some (.int .u8 d.kind) := hat 0 _ (by omega) rfl
          have c1 : wo.cell? ⟨g173, j * 11 + 1, none⟩ = some (.int .u64 d.s0) := hat 1 _ (by omega) rfl
          have c2 : wo.cell? ⟨g173, j * 11 + 2, none⟩ = some (.int .u64 d.s1) := hat 2 _ (by omega) rfl
          have c3 : wo.cell? ⟨g173, j * 11 + 3, none⟩ = some (.int .u64 d.s2) := hat 3 _ (by omega) rfl
          have c4 : wo.cell? ⟨g173, j * 11 + 4, none⟩ = some (.int .u64 d.s3) := hat 4 _ (by omega) rfl
          have c5 : wo.cell? ⟨g173, j * 11 + 5, none⟩ = some (.string ⟨d.text.toArray⟩) := hat 5 _ (by omega) rfl
          have c6 : wo.cell? ⟨g173, j * 11 + 6, none⟩ = some (.int .i64 d.min) := hat 6 _ (by omega) rfl
          have c7 : wo.cell? ⟨g173, j * 11 + 7, none⟩ = some (.int .i64 d.max) := hat 7 _ (by omega) rfl
          have c8 : wo.cell? ⟨g173, j * 11 + 8, none⟩ = some (.slice none 0 0) := hat 8 _ (by omega) rfl
          have c9 : wo.cell? ⟨g173, j * 11 + 9, none⟩ = some (.int .i64 n) := hat 9 _ (by omega) rfl
          have c10 : wo.cell? ⟨g173, j * 11 + 10, none⟩ = some (.bool f) := hat 10 _ (by omega) rfl
          have HFD := Lib.hid (show fits d n = f from hfit)
          have HDO := Lib.hid (show d.Ok from hdo)
          clear hr hfit hdo hat
          go_wp2_with fail
          obtain ⟨wn, hwn⟩ : ∃ wn, wn = wo.alloc (.cells #[.int .u8 d.kind, .int .u64 d.s0, .int .u64 d.s1, .int .u64 d.s2, .int .u64 d.s3, .string ⟨d.text.toArray⟩, .int .i64 d.min, .int .i64 d.max, .slice none 0 0, .int .i64 n, .bool f] 45) := ⟨_, rfl⟩
          obtain ⟨g9, hg9⟩ : ∃ g9, g9 = wo.heap.size := ⟨_, rfl⟩
          have h9 : Blk wn g9 45 #[.int .u8 d.kind, .int .u64 d.s0, .int .u64 d.s1, .int .u64 d.s2, .int .u64 d.s3, .string ⟨d.text.toArray⟩, .int .i64 d.min, .int .i64 d.max, .slice none 0 0, .int .i64 n, .bool f] := by rw [hwn, hg9]; exact Blk.new _ _ _
          have hbn : Below wo.heap.size wo wn := by rw [hwn]; exact (Below.refl _ _).alloc (Nat.le_refl _) _
          rw [← hwn, ← hg9]
          have HLn := Lib.hid (HLo.out.trans (hbn.mono HLo.out.size))
          have hc9 : ∀ wx : World, Below wn.heap.size wn wx → wx.cell? ⟨g9, 0, none⟩ = some (.int .u8 d.kind) ∧ wx.cell? ⟨g9, 1, none⟩ = some (.int .u64 d.s0) ∧ wx.cell? ⟨g9, 2, none⟩ = some (.int .u64 d.s1) ∧ wx.cell? ⟨g9, 3, none⟩ = some (.int .u64 d.s2) ∧ wx.cell? ⟨g9, 4, none⟩ = some (.int .u64 d.s3) ∧ wx.cell? ⟨g9, 5, none⟩ = some (.string ⟨d.text.toArray⟩) ∧
              wx.cell? ⟨g9, 6, none⟩ = some (.int .i64 d.min) ∧ wx.cell? ⟨g9, 7, none⟩ = some (.int .i64 d.max) ∧ wx.cell? ⟨g9, 8, none⟩ = some (.slice none 0 0) ∧ wx.cell? ⟨g9, 9, none⟩ = some (.int .i64 n) ∧ wx.cell? ⟨g9, 10, none⟩ = some (.bool f) := fun wx hb =>
            ⟨(h9.below hb h9.lt).cell 0, (h9.below hb h9.lt).cell 1, (h9.below hb h9.lt).cell 2, (h9.below hb h9.lt).cell 3, (h9.below hb h9.lt).cell 4, (h9.below hb h9.lt).cell 5, (h9.below hb h9.lt).cell 6, (h9.below hb h9.lt).cell 7, (h9.below hb h9.lt).cell 8, (h9.below hb h9.lt).cell 9, (h9.below hb h9.lt).cell 10⟩
          have HC9 := Lib.hid hc9
          have HFit : Hid (∀ wx, Below wn.heap.size wn wx → Calls Tryd.prog 23 #[.agg #[.int .u8 d.kind, .int .u64 d.s0, .int .u64 d.s1, .int .u64 d.s2, .int .u64 d.s3, .string ⟨d.text.toArray⟩, .int .i64 d.min, .int .i64 d.max, .slice none 0 0], .int .i64 n] wx fun e w' => e = .returned (.bool f) ∧ Below wx.heap.size wx w') := Lib.hid fun wx hb => by
            have h := fits_any ⟨d, []⟩ HDO.out (.slice none 0 0) n wx (HK.out _ (HWb.out.trans ((HLn.out.trans (hb.mono HLn.out.size)).mono HWb.out.size)))
            rw [HFD.out] at h
            exact h
          clear c0 c1 c2 c3 c4 c5 c6 c7 c8 c9 c10 hwn hg9 h9 hbn hc9 hn1 hn2
/- R16< -/
          refine wp_region_inv (G := Unit) () UE UN
            [fun v _ => v = .pointer (some ⟨g9, 0, none⟩), fun v _ => v = .agg #[.int .u8 d.kind, .int .u64 d.s0, .int .u64 d.s1, .int .u64 d.s2, .int .u64 d.s3, .string ⟨d.text.toArray⟩, .int .i64 d.min, .int .i64 d.max, .slice none 0 0], fun v _ => v = .pointer (some ⟨g9, 9, none⟩), fun v _ => v = .int .i64 n, fun v _ => v = .bool f, fun v _ => v = .pointer (some ⟨g9, 10, none⟩), fun v _ => v = .bool f, fun v _ => v = .bool false]
            (by kernel_rfl) UE.trans (UE.refl _) (by kernel_rfl) (by kernel_rfl) (fun _ => trivial) ?rstg2 ?rstepsg2 ?rfing2
          case rstg2 =>
            intro R hR v s s' _ h hr
            simp only [List.mem_cons, List.not_mem_nil, or_false] at hR
            rcases hR with rfl | rfl | rfl | rfl | rfl | rfl | rfl | rfl
            · exact hr
            · exact hr
            · exact hr
            · exact hr
            · exact hr
            · exact hr
            · exact hr
            · exact hr
          case rstepsg2 =>
            refine ⟨?_, ?_, ?_, ?_, ?_, ?_, ?_, ?_, trivial⟩
            · intro a γ wx hB hE hN hW K hK
              have hw := UE.start hE
              have h9 : a.tmps[9]? = some (.pointer (some ⟨g9, 0, none⟩)) := (hB.at_ 9 (of_decide_eq_true (by kernel_rfl))).trans rfl
              clear hB hN hE
              go_simp
              exact hK (.pointer (some ⟨g9, 0, none⟩)) () _ (UE.refl _) (fun _ _ h => h) rfl
            · intro a γ wx hB hE hN hW K hK
              have hw := UE.start hE
              obtain ⟨⟨_, h179, rfl⟩, -⟩ := hW
              have hc := HC9.out _ hw
              clear hB hN hE
              go_simp
              exact hK (.agg #[.int .u8 d.kind, .int .u64 d.s0, .int .u64 d.s1, .int .u64 d.s2, .int .u64 d.s3, .string ⟨d.text.toArray⟩, .int .i64 d.min, .int .i64 d.max, .slice none 0 0]) () _ (UE.refl _) (fun _ _ h => h) rfl
            · intro a γ wx hB hE hN hW K hK
              have hw := UE.start hE
              have h9 : a.tmps[9]? = some (.pointer (some ⟨g9, 0, none⟩)) := (hB.at_ 9 (of_decide_eq_true (by kernel_rfl))).trans rfl
              clear hB hN hE
              go_simp
              exact hK (.pointer (some ⟨g9, 9, none⟩)) () _ (UE.refl _) (fun _ _ h => h) rfl
            · intro a γ wx hB hE hN hW K hK
              have hw := UE.start hE
              obtain ⟨⟨_, h181, rfl⟩, -⟩ := hW
              have hc := HC9.out _ hw
              clear hB hN hE
              go_simp
              exact hK (.int .i64 n) () _ (UE.refl _) (fun _ _ h => h) rfl
            · intro a γ wx hB hE hN hW K hK
              have hw := UE.start hE
              obtain ⟨⟨_, h180, rfl⟩, ⟨_, h182, rfl⟩, -⟩ := hW
              clear hB hN hE
              go_simp
              refine (HFit.out _ hw).mono ?_
              rintro e w' ⟨rfl, hbb⟩
              exact hK _ () _ hbb (fun _ _ h => h) rfl
            · intro a γ wx hB hE hN hW K hK
              have hw := UE.start hE
              have h9 : a.tmps[9]? = some (.pointer (some ⟨g9, 0, none⟩)) := (hB.at_ 9 (of_decide_eq_true (by kernel_rfl))).trans rfl
              clear hB hN hE
              go_simp
              exact hK (.pointer (some ⟨g9, 10, none⟩)) () _ (UE.refl _) (fun _ _ h => h) rfl
            · intro a γ wx hB hE hN hW K hK
              have hw := UE.start hE
              obtain ⟨⟨_, h184, rfl⟩, -⟩ := hW
              have hc := HC9.out _ hw
              clear hB hN hE
              go_simp
              exact hK (.bool f) () _ (UE.refl _) (fun _ _ h => h) rfl
            · intro a γ wx hB hE hN hW K hK
              have hw := UE.start hE
              obtain ⟨⟨_, h183, rfl⟩, ⟨_, h185, rfl⟩, -⟩ := hW
              clear hB hN hE
              go_simp
              exact hK (.bool false) () _ (UE.refl _) (fun _ _ h => h) rfl
          intro a' γ wx hB hE hK
          obtain ⟨_, h179, rfl⟩ := hK 0 (of_decide_eq_true (by kernel_rfl))
          obtain ⟨_, h180, rfl⟩ := hK 1 (of_decide_eq_true (by kernel_rfl))
          obtain ⟨_, h181, rfl⟩ := hK 2 (of_decide_eq_true (by kernel_rfl))
          obtain ⟨_, h182, rfl⟩ := hK 3 (of_decide_eq_true (by kernel_rfl))
          obtain ⟨_, h183, rfl⟩ := hK 4 (of_decide_eq_true (by kernel_rfl))
          obtain ⟨_, h184, rfl⟩ := hK 5 (of_decide_eq_true (by kernel_rfl))
          obtain ⟨_, h185, rfl⟩ := hK 6 (of_decide_eq_true (by kernel_rfl))
          obtain ⟨_, h186, rfl⟩ := hK 7 (of_decide_eq_true (by kernel_rfl))
          have ha := hB.eq [(179, .pointer (some ⟨g9, 0, none⟩)), (180, .agg #[.int .u8 d.kind, .int .u64 d.s0, .int .u64 d.s1, .int .u64 d.s2, .int .u64 d.s3, .string ⟨d.text.toArray⟩, .int .i64 d.min, .int .i64 d.max, .slice none 0 0]), (181, .pointer (some ⟨g9, 9, none⟩)), (182, .int .i64 n), (183, .bool f), (184, .pointer (some ⟨g9, 10, none⟩)), (185, .bool f), (186, .bool false)] rfl (by kernel_rfl) ⟨h179, h180, h181, h182, h183, h184, h185, h186, trivial⟩
          subst ha
          have hw := UE.start hE
          clear hK hB hE h179 h180 h181 h182 h183 h184 h185 h186
          simp only [putAll, List.foldl_cons, List.foldl_nil, List.setIfInBounds_toArray, List.set_cons_succ, List.set_cons_zero]
          /- >R16 -/
          have HLx := Lib.hid (HLn.out.trans (hw.mono HLn.out.size))
          clear hw
          go_wp2_with fail
          go_roundw
          case measure => simp [intOf]; omega
          case rel => exact ⟨j + 1, by omega, by go_num, HLx⟩
        · obtain rfl : j = 39 := by omega
          have HWc := Lib.hid (HWb.out.trans (HLo.out.mono HWb.out.size))
          clear HLo HTB HPL HQL
          rw [show ((39 : Nat) : Int) = 39 from rfl]
          go_wp2_with fail
          refine wp_world (allocs wo (badO wo.heap.size)) rfl ?_
          obtain ⟨wt, hwt⟩ : ∃ wt, wt = allocs wo (badO wo.heap.size) := ⟨_, rfl⟩
          have HBad : Hid (RTrees wt (fun b => b < wt.heap.size) (slV (wo.heap.size + 15) 11) badL) := Lib.hid (by rw [hwt]; exact bad_mem wo)
          have HWt : Hid (Below w.heap.size w wt) := Lib.hid (by rw [hwt]; exact HWc.out.trans ((allocs_below _ wo).mono HWc.out.size))
          obtain ⟨gt, hgt⟩ : ∃ gt, gt = wo.heap.size + 1 + 1 + 1 + 1 + 1 + 1 + 1 + 1 + 1 + 1 + 1 + 1 + 1 + 1 + 1 := ⟨_, rfl⟩
          have HGt : Hid (wo.heap.size + 15 = gt) := Lib.hid (by rw [hgt])
          rw [HGt.out] at HBad
          rw [← hwt, ← hgt]
          clear hwt hgt HGt HWc HWb
          go_loopw [232] (fun i wr => ∃ j : Nat, j ≤ 11 ∧ i = .int .i64 j ∧ Hid (Below wt.heap.size wt wr)) (fun i _ => 11 - (intOf i).toNat)
          case atStart => exact ⟨0, by omega, rfl, Lib.hid (Below.refl _ _)⟩
          case round =>
            obtain ⟨wo, rfl⟩ : ∃ wo, wo = wr := ⟨_, rfl⟩
            obtain ⟨j, hj, rfl, HLo⟩ := hrel
            by_cases hlt : j < 11
            · have hlt' : (j : Int) < 11 := by omega
              obtain ⟨t, ht⟩ : ∃ t, badL[j]? = some t := ⟨_, List.getElem?_eq_getElem hlt⟩
              obtain ⟨hnr, hsm⟩ := bad_not t (List.mem_of_getElem? ht)
              have hw0 := HWt.out.trans (HLo.out.mono HWt.out.size)
              have hgl : GivenL badL (slV gt 11) (fun b => b < wo.heap.size) wo := ⟨(HBad.out.below HLo.out fun _ h => h).more fun b h => Nat.lt_of_lt_of_le h HLo.out.size, fun _ h => h, HK.out _ hw0, fun x hx => by have := (bad_not x hx).2; omega, by decide⟩
              obtain ⟨b, off, At, ct, hA, -, hg, k0, k1⟩ := hgl.at_ j t ht
              injection hA with hA
              injection hA with hA1 hA2
              subst hA1; subst hA2
              rw [Nat.zero_add] at k0 k1
              obtain ⟨nt, hnt⟩ : ∃ nt, nt = t.nodes.length := ⟨_, rfl⟩
              obtain ⟨rt, hrt⟩ : ∃ rt, rt = t.root := ⟨_, rfl⟩
              rw [← hnt] at k0 hg
              rw [← hrt] at k1 hg
              have HNR := Lib.hid hnr
              have HSM := Lib.hid hsm
              have HG := Lib.hid hg
              have HRT := Lib.hid hrt
              have HW0 := Lib.hid hw0
              clear ht hnr hsm hw0 hgl hg hnt hrt
              go_wp2_with fail
              obtain ⟨wa, hwa⟩ : ∃ wa, wa = wo.alloc (.cells #[.slice At nt ct, .int .i64 rt] 24) := ⟨_, rfl⟩
              obtain ⟨bt, hbt⟩ : ∃ bt, bt = wo.heap.size := ⟨_, rfl⟩
              have HBt : Hid (Blk wa bt 24 #[.slice At nt ct, .int .i64 rt]) := Lib.hid (by rw [hwa, hbt]; exact Blk.new _ _ _)
              have hba : Below wo.heap.size wo wa := by rw [hwa]; exact (Below.refl _ _).alloc (Nat.le_refl _) _
              have HLa := Lib.hid (HLo.out.trans (hba.mono HLo.out.size))
              have HGa := Lib.hid (fun (wx : World) (hb : Below wa.heap.size wa wx) => (((HG.out.below hba).read.has (HG.out.below hba).old).below hb).given (HK.out _ (HWt.out.trans ((HLa.out.trans (hb.mono HLa.out.size)).mono HWt.out.size))) (by have := HSM.out; omega))
              rw [← hwa, ← hbt]
              have hb0 : Below wa.heap.size wa wa := Below.refl _ _
              clear k0 k1 hwa hbt hba
              refine (sub_g (HGa.out _ hb0) 0).mono ?_
              rintro e w1 ⟨u, x, is, rfl, ho, hi, hbb⟩
              obtain ⟨rfl, rfl⟩ := hi.no fun h => HNR.out h.1
              obtain ⟨nv, rfl, kvs, hkk⟩ := ho
              obtain ⟨A1, e1, rfl, -⟩ := own_slice hkk.row
              have hb1 := hb0.trans (hbb.mono hb0.size)
              have c0 : w1.cell? ⟨bt, 0, none⟩ = some (.slice At nt ct) := (HBt.out.below hb1 HBt.out.lt).cell 0
              have c1 : w1.cell? ⟨bt, 1, none⟩ = some (.int .i64 rt) := (HBt.out.below hb1 HBt.out.lt).cell 1
              have hlt1 : bt < w1.heap.size := (HBt.out.below hb1 HBt.out.lt).lt
              clear hi hkk hbb hb0
              go_wp2_with fail
              have hbA : Below wa.heap.size wa ((w1.alloc (.cells #[.slice A1 zeroT.nodes.length e1, .int .i64 zeroT.root] 24)).alloc (.cells #[.slice At nt ct, .int .i64 rt] 24)) := (hb1.alloc hb1.size _).alloc (by have := hb1.size; simp; omega) _
              have hO := of_g (N := ⟨andD, []⟩) (kv0 := .slice none 0 0) (ts := [t]) (v := .slice (some ⟨w1.heap.size + 1, 0, none⟩) 1 1) (S := fun b => b < w1.heap.size + 1 + 1) (w := (w1.alloc (.cells #[.slice A1 zeroT.nodes.length e1, .int .i64 zeroT.root] 24)).alloc (.cells #[.slice At nt ct, .int .i64 rt] 24)) ok_and
                ⟨RTrees.one (ty := 24) (t := t) (nv := .slice At nt ct) (by rw [← HRT.out]; exact Blk.new1 w1 _ _ _) (by omega) (by rw [← HRT.out]; exact ((HGa.out _ hbA).read.more fun b hb => by simpa using hb)), fun b hb => by simpa using hb, (HGa.out _ hbA).tab, fun x hx => by simp at hx; subst hx; have := HSM.out; omega, by simp⟩ (by have := HSM.out; simp; omega)
              simp only [nodeCells] at hO
              refine hO.mono ?_
              rintro e w2 ⟨u, x, is, rfl, ho, hi, hbb⟩
              obtain ⟨rfl, rfl⟩ := hi.no fun h => HNR.out (h.2 t (by simp))
              obtain ⟨nv, rfl, kvs, hkk⟩ := ho
              obtain ⟨A2, e2, rfl, -⟩ := own_slice hkk.row
              have hb2 := hbA.trans (hbb.mono hbA.size)
              have c0 : w2.cell? ⟨bt, 0, none⟩ = some (.slice At nt ct) := (HBt.out.below hb2 HBt.out.lt).cell 0
              have c1 : w2.cell? ⟨bt, 1, none⟩ = some (.int .i64 rt) := (HBt.out.below hb2 HBt.out.lt).cell 1
              have hlt2 : bt < w2.heap.size := (HBt.out.below hb2 HBt.out.lt).lt
              clear hi hkk hbb hb1 hbA hO hlt1
              go_wp2_with fail
              have hb3 : Below wa.heap.size wa (w2.alloc (.cells #[.slice A2 zeroT.nodes.length e2, .int .i64 zeroT.root] 24)) := hb2.alloc hb2.size _
              have hC := right_g (HGa.out _ hb3)
              rw [decide_eq_false HNR.out] at hC
              refine hC.mono ?_
              rintro e wq4 ⟨rfl, hbb⟩
              have hb4 := hb3.trans (hbb.mono hb3.size)
              have c0 : wq4.cell? ⟨bt, 0, none⟩ = some (.slice At nt ct) := (HBt.out.below hb4 HBt.out.lt).cell 0
              have c1 : wq4.cell? ⟨bt, 1, none⟩ = some (.int .i64 rt) := (HBt.out.below hb4 HBt.out.lt).cell 1
              clear hbb hb3 hC hb2 hlt2
              go_wp2_with fail
              have hC := May_g (HGa.out _ hb4)
              rw [decide_eq_false (fun h : MayT t => HNR.out h.2.1)] at hC
              refine hC.mono ?_
              rintro e wq5 ⟨rfl, hbb⟩
              have hb5 := hb4.trans (hbb.mono hb4.size)
              have c0 : wq5.cell? ⟨bt, 0, none⟩ = some (.slice At nt ct) := (HBt.out.below hb5 HBt.out.lt).cell 0
              have c1 : wq5.cell? ⟨bt, 1, none⟩ = some (.int .i64 rt) := (HBt.out.below hb5 HBt.out.lt).cell 1
              clear hbb hb4 hC
              go_wp2_with fail
              have hC := size_g (HGa.out _ hb5)
              rw [show sizeT t = 0 from if_neg HNR.out] at hC
              refine hC.mono ?_
              rintro e wq6 ⟨rfl, hbb⟩
              have hb6 := hb5.trans (hbb.mono hb5.size)
              have c0 : wq6.cell? ⟨bt, 0, none⟩ = some (.slice At nt ct) := (HBt.out.below hb6 HBt.out.lt).cell 0
              have c1 : wq6.cell? ⟨bt, 1, none⟩ = some (.int .i64 rt) := (HBt.out.below hb6 HBt.out.lt).cell 1
              clear hbb hb5 hC
              go_wp2_with fail
              have hC := Depth_g (HGa.out _ hb6)
              rw [show depthT t = 0 from if_neg HNR.out] at hC
              refine hC.mono ?_
              rintro e wq7 ⟨rfl, hbb⟩
              have hb7 := hb6.trans (hbb.mono hb6.size)
              have c0 : wq7.cell? ⟨bt, 0, none⟩ = some (.slice At nt ct) := (HBt.out.below hb7 HBt.out.lt).cell 0
              have c1 : wq7.cell? ⟨bt, 1, none⟩ = some (.int .i64 rt) := (HBt.out.below hb7 HBt.out.lt).cell 1
              clear hbb hb6 hC
              go_wp2_with fail
              have hC := Walk_g (HGa.out _ hb7)
              rw [show walkOf t = [] from if_neg HNR.out] at hC
              refine hC.mono ?_
              rintro e wq8 ⟨u, rfl, ho, hbb⟩
              obtain ⟨A3, e3, rfl, -⟩ := own_slice ho
              clear ho
              have hb8 := hb7.trans (hbb.mono hb7.size)
              have c0 : wq8.cell? ⟨bt, 0, none⟩ = some (.slice At nt ct) := (HBt.out.below hb8 HBt.out.lt).cell 0
              have c1 : wq8.cell? ⟨bt, 1, none⟩ = some (.int .i64 rt) := (HBt.out.below hb8 HBt.out.lt).cell 1
              clear hbb hb7 hC
              go_wp2_with fail
              have hC := Kids_g (HGa.out _ hb8)
              rw [show kidsOfT t = [] from if_neg HNR.out] at hC
              refine hC.mono ?_
              rintro e wq9 ⟨u, rfl, ho, hbb⟩
              obtain ⟨A4, e4, rfl, -⟩ := own_slice ho.choose_spec.2.1
              clear ho
              have hb9 := hb8.trans (hbb.mono hb8.size)
              have c0 : wq9.cell? ⟨bt, 0, none⟩ = some (.slice At nt ct) := (HBt.out.below hb9 HBt.out.lt).cell 0
              have c1 : wq9.cell? ⟨bt, 1, none⟩ = some (.int .i64 rt) := (HBt.out.below hb9 HBt.out.lt).cell 1
              clear hbb hb8 hC
              go_wp2_with fail
              have hC := Clean_g (HGa.out _ hb9)
              rw [show cleanOf t = zeroT from if_neg HNR.out] at hC
              refine hC.mono ?_
              rintro e wq10 ⟨u, rfl, ho, hbb⟩
              obtain ⟨nv, rfl, kvs, hkk⟩ := ho
              obtain ⟨A5, e5, rfl, -⟩ := own_slice hkk.row
              clear hkk
              simp only [zeroT, List.length_nil]
              have hft := field_tree A5 0 e5 0
              have hb10 := hb9.trans (hbb.mono hb9.size)
              have c0 : wq10.cell? ⟨bt, 0, none⟩ = some (.slice At nt ct) := (HBt.out.below hb10 HBt.out.lt).cell 0
              have c1 : wq10.cell? ⟨bt, 1, none⟩ = some (.int .i64 rt) := (HBt.out.below hb10 HBt.out.lt).cell 1
              clear hbb hb9 hC
              go_wp2_with fail
              have hC := Same_g (HGa.out _ hb10) (HGa.out _ hb10)
              rw [decide_eq_false (fun h : SameT t t => HNR.out h.1)] at hC
              refine hC.mono ?_
              rintro e wq11 ⟨rfl, hbb⟩
              have hb11 := hb10.trans (hbb.mono hb10.size)
              have c0 : wq11.cell? ⟨bt, 0, none⟩ = some (.slice At nt ct) := (HBt.out.below hb11 HBt.out.lt).cell 0
              have c1 : wq11.cell? ⟨bt, 1, none⟩ = some (.int .i64 rt) := (HBt.out.below hb11 HBt.out.lt).cell 1
              clear hbb hb10 hC
              go_wp2_with fail
              clear hft
              have hfn := field_node
              have hC : Calls Tryd.prog 26 #[.agg #[.slice At nt ct, .int .i64 rt]] wq11 fun e w' => e = .returned (.agg #[.int .u8 0, .int .u64 0, .int .u64 0, .int .u64 0, .int .u64 0, .string ⟨#[]⟩, .int .i64 0, .int .i64 0, .slice none 0 0]) ∧ Below wq11.heap.size wq11 w' :=
                (Root_g (HGa.out _ hb11)).mono fun e w' h => by
                  obtain ⟨⟨N0, he, hN⟩, hbb⟩ := h
                  rw [show rootOf t = default from if_neg HNR.out] at hN
                  subst hN
                  exact ⟨he, hbb⟩
              refine hC.mono ?_
              rintro e wq12 ⟨rfl, hbb⟩
              have hb12 := hb11.trans (hbb.mono hb11.size)
              clear hbb hb11 hC
              go_wp2_with fail
              have HLe := Lib.hid (HLa.out.trans (hb12.mono HLa.out.size))
              clear hb12
              go_roundw
              case measure => simp [intOf]; omega
              case rel => exact ⟨j + 1, by omega, by go_num, HLe⟩
            · obtain rfl : j = 11 := by omega
              have HWf := Lib.hid (HWt.out.trans (HLo.out.mono HWt.out.size))
              clear HLo HBad
              go_wp2_with fail
              go_ret
              exact ⟨rfl, HWf.out⟩
end Go.Proofs.YtlmlbdmbgfclkaaDoor

/- The second table of TreeNames: arenas that are not right, in memory. -/
import Derived.Test.YtlmlbdmbgfclkaaDoorTrees
namespace Go.Proofs.YtlmlbdmbgfclkaaDoor
open Go.RowKit
open Classical

def allocs (w : World) : List Obj → World
  | [] => w
  | o :: os => allocs (w.alloc o) os
theorem allocs_below (os : List Obj) : ∀ w : World, Below w.heap.size w (allocs w os) := by
  induction os with
  | nil => intro w; exact Below.refl _ _
  | cons o os ih => intro w; exact ((Below.refl _ _).alloc (Nat.le_refl _) o).trans ((ih (w.alloc o)).mono (by simp))
theorem allocs_blk (os : List Obj) : ∀ (w : World) (k : Nat) (cs : Array Value) (t : TypeId), os[k]? = some (.cells cs t) → Blk (allocs w os) (w.heap.size + k) t cs := by
  induction os with
  | nil => intro w k cs t h; simp at h
  | cons o os ih =>
    intro w k cs t h
    cases k with
    | zero =>
      simp at h; subst h
      exact (Blk.new w t cs).below (allocs_below os _) (by simp)
    | succ k =>
      have := ih (w.alloc o) k cs t (by simpa using h)
      rw [World.size_alloc] at this
      rwa [show w.heap.size + 1 + k = w.heap.size + (k + 1) by omega] at this
def z0 : Nd := ⟨default, []⟩
def n0 : Nd := ⟨notD, [0]⟩
def nilV : Value := .slice none 0 0
def slV (b n : Nat) : Value := .slice (some ⟨b, 0, none⟩) n n
def nObj (ns : List Nd) (kvs : List Value) : Obj := .cells (nodesCells ns kvs).toArray 34
def iObj (ks : List Int) : Obj := .cells (ks.map (Value.int .i64)).toArray 3
def badL : List Tr := [⟨[], 0⟩, ⟨[], -1⟩, ⟨[z0], 1⟩, ⟨[z0], -1⟩, ⟨[z0, z0], 1⟩, ⟨[n0], 0⟩, ⟨[z0, n0], 0⟩, ⟨[z0, n0, ⟨seqD, [1, 0]⟩], 2⟩, ⟨[z0, ⟨seqD, [0, 0]⟩], 1⟩, ⟨[z0, ⟨notD, [-1]⟩], 1⟩, ⟨[z0, ⟨notD, [1]⟩], 1⟩]
def badV (B : Nat) : List Value := [nilV, nilV, slV (B + 2) 1, slV (B + 3) 1, slV (B + 4) 2, slV (B + 5) 1, slV (B + 6) 2, slV (B + 8) 3, slV (B + 10) 2, slV (B + 12) 2, slV (B + 14) 2]
def badO (B : Nat) : List Obj := [iObj [0], nObj [n0] [slV B 1], nObj [z0] [nilV], nObj [z0] [nilV], nObj [z0, z0] [nilV, nilV], nObj [n0] [slV B 1], nObj [z0, n0] [nilV, slV B 1], iObj [1, 0], nObj [z0, n0, ⟨seqD, [1, 0]⟩] [nilV, slV B 1, slV (B + 7) 2],
  iObj [0, 0], nObj [z0, ⟨seqD, [0, 0]⟩] [nilV, slV (B + 9) 2], iObj [-1], nObj [z0, ⟨notD, [-1]⟩] [nilV, slV (B + 11) 1], iObj [1], nObj [z0, ⟨notD, [1]⟩] [nilV, slV (B + 13) 1], .cells (treesCells badL (badV B)).toArray 24]
theorem bad_nodes {wx : World} {S : Nat → Prop} {g : Nat} {ns : List Nd} {kvs : List Value} (n : Nat) (hn : ns.length = n) (hl : kvs.length = ns.length) (hb : Blk wx g 34 (nodesCells ns kvs).toArray) (hS : S g) (hm : n ≤ 100)
    (h : ∀ x ∈ ns.zip kvs, RInts wx S x.2 x.1.kids ∧ x.1.d.Ok) : RNodes wx S (slV g n) ns := by
  subst hn
  exact RNodes.of_blk hl hb hS (by unfold maxLen; omega) fun j nd kv h1 h2 => h (nd, kv) (List.mem_of_getElem? (by rw [List.getElem?_zip_eq_some]; exact ⟨h1, h2⟩))
theorem ok_z : (default : Dt).Ok := ⟨by decide, by decide, by decide, by decide, by decide⟩
theorem ok_n : notD.Ok := ⟨by decide, by decide, by decide, by decide, by decide⟩
theorem ok_s : seqD.Ok := ⟨by decide, by decide, by decide, by decide, by decide⟩
theorem bad_mem (w : World) : RTrees (allocs w (badO w.heap.size)) (fun b => b < (allocs w (badO w.heap.size)).heap.size) (slV (w.heap.size + 15) 11) badL := by
  obtain ⟨W, hW⟩ : ∃ W, W = allocs w (badO w.heap.size) := ⟨_, rfl⟩
  obtain ⟨B, hB⟩ : ∃ B, B = w.heap.size := ⟨_, rfl⟩
  have hblk : ∀ k cs t, (badO B)[k]? = some (.cells cs t) → Blk W (B + k) t cs := fun k cs t h => by rw [hW, ← hB]; subst hB; exact allocs_blk _ w k cs t h
  rw [← hW, ← hB]
  clear hW hB
  have hi : ∀ (k : Nat) (ks : List Int), (badO B)[k]? = some (iObj ks) → ks.length ≤ 100 → RInts W (fun b => b < W.heap.size) (slV (B + k) ks.length) ks := fun k ks h hl => RInts.of_blk (hblk k _ _ h) (hblk k _ _ h).lt (by unfold maxLen; omega)
  have i0 := hi 0 [0] rfl (by decide)
  have i7 := hi 7 [1, 0] rfl (by decide)
  have i9 := hi 9 [0, 0] rfl (by decide)
  have i11 := hi 11 [-1] rfl (by decide)
  have i13 := hi 13 [1] rfl (by decide)
  have e0 : RInts W (fun b => b < W.heap.size) nilV [] := RInts.empty _ _ _ _
  refine RTrees.of_blk (ts := badL) (nvs := badV B) rfl (hblk 15 _ _ rfl) (hblk 15 _ _ rfl).lt (by decide) fun j t nv h1 h2 => ?_
  have hz : (t, nv) ∈ badL.zip (badV B) := List.mem_of_getElem? (by rw [List.getElem?_zip_eq_some]; exact ⟨h1, h2⟩)
  clear h1 h2
  simp only [badL, badV, List.zip_cons_cons, List.zip_nil_right, List.mem_cons, List.not_mem_nil, or_false, Prod.mk.injEq] at hz
  have nn : RNodes W (fun b => b < W.heap.size) nilV [] := ⟨[], rfl, Row.nil_ _ _ _, fun j n kv h => by simp at h⟩
  rcases hz with ⟨rfl, rfl⟩ | ⟨rfl, rfl⟩ | ⟨rfl, rfl⟩ | ⟨rfl, rfl⟩ | ⟨rfl, rfl⟩ | ⟨rfl, rfl⟩ | ⟨rfl, rfl⟩ | ⟨rfl, rfl⟩ | ⟨rfl, rfl⟩ | ⟨rfl, rfl⟩ | ⟨rfl, rfl⟩
  · exact ⟨nn, by simp, by simp⟩
  · exact ⟨nn, by simp, by simp⟩
  · exact ⟨bad_nodes 1 rfl (kvs := [nilV]) rfl (hblk 2 _ _ rfl) (hblk 2 _ _ rfl).lt (by omega) (by simp only [List.zip_cons_cons, List.zip_nil_right, List.mem_cons, List.not_mem_nil, or_false]; rintro x rfl; exact ⟨e0, ok_z⟩), by simp, by simp⟩
  · exact ⟨bad_nodes 1 rfl (kvs := [nilV]) rfl (hblk 3 _ _ rfl) (hblk 3 _ _ rfl).lt (by omega) (by simp only [List.zip_cons_cons, List.zip_nil_right, List.mem_cons, List.not_mem_nil, or_false]; rintro x rfl; exact ⟨e0, ok_z⟩), by simp, by simp⟩
  · exact ⟨bad_nodes 2 rfl (kvs := [nilV, nilV]) rfl (hblk 4 _ _ rfl) (hblk 4 _ _ rfl).lt (by omega) (by simp only [List.zip_cons_cons, List.zip_nil_right, List.mem_cons, List.not_mem_nil, or_false]; rintro x (rfl | rfl) <;> exact ⟨e0, ok_z⟩), by simp, by simp⟩
  · exact ⟨bad_nodes 1 rfl (kvs := [slV B 1]) rfl (hblk 5 _ _ rfl) (hblk 5 _ _ rfl).lt (by omega) (by simp only [List.zip_cons_cons, List.zip_nil_right, List.mem_cons, List.not_mem_nil, or_false]; rintro x rfl; exact ⟨i0, ok_n⟩), by simp, by simp⟩
  · exact ⟨bad_nodes 2 rfl (kvs := [nilV, slV B 1]) rfl (hblk 6 _ _ rfl) (hblk 6 _ _ rfl).lt (by omega) (by simp only [List.zip_cons_cons, List.zip_nil_right, List.mem_cons, List.not_mem_nil, or_false]; rintro x (rfl | rfl); exact ⟨e0, ok_z⟩; exact ⟨i0, ok_n⟩), by simp, by simp⟩
  · exact ⟨bad_nodes 3 rfl (kvs := [nilV, slV B 1, slV (B + 7) 2]) rfl (hblk 8 _ _ rfl) (hblk 8 _ _ rfl).lt (by omega) (by simp only [List.zip_cons_cons, List.zip_nil_right, List.mem_cons, List.not_mem_nil, or_false]; rintro x (rfl | rfl | rfl); exact ⟨e0, ok_z⟩; exact ⟨i0, ok_n⟩; exact ⟨i7, ok_s⟩), by simp, by simp⟩
  · exact ⟨bad_nodes 2 rfl (kvs := [nilV, slV (B + 9) 2]) rfl (hblk 10 _ _ rfl) (hblk 10 _ _ rfl).lt (by omega) (by simp only [List.zip_cons_cons, List.zip_nil_right, List.mem_cons, List.not_mem_nil, or_false]; rintro x (rfl | rfl); exact ⟨e0, ok_z⟩; exact ⟨i9, ok_s⟩), by simp, by simp⟩
  · exact ⟨bad_nodes 2 rfl (kvs := [nilV, slV (B + 11) 1]) rfl (hblk 12 _ _ rfl) (hblk 12 _ _ rfl).lt (by omega) (by simp only [List.zip_cons_cons, List.zip_nil_right, List.mem_cons, List.not_mem_nil, or_false]; rintro x (rfl | rfl); exact ⟨e0, ok_z⟩; exact ⟨i11, ok_n⟩), by simp, by simp⟩
  · exact ⟨bad_nodes 2 rfl (kvs := [nilV, slV (B + 13) 1]) rfl (hblk 14 _ _ rfl) (hblk 14 _ _ rfl).lt (by omega) (by simp only [List.zip_cons_cons, List.zip_nil_right, List.mem_cons, List.not_mem_nil, or_false]; rintro x (rfl | rfl); exact ⟨e0, ok_z⟩; exact ⟨i13, ok_n⟩), by simp, by simp⟩
theorem bad_not : ∀ t ∈ badL, ¬ RightT t ∧ t.nodes.length ≤ 3 := by
  have top : ∀ t : Tr, t.root + 1 ≠ t.nodes.length → ¬ RightT t := fun t h hr => h hr.shape.top
  have cnt : ∀ t : Tr, (kidsOf t.nodes).length + 1 ≠ t.nodes.length → ¬ RightT t := fun t h hr => by
    have := hr.shape.perm.length_eq
    rw [length_rangeI] at this
    exact h this
  intro t ht
  simp only [badL, List.mem_cons, List.not_mem_nil, or_false] at ht
  rcases ht with rfl | rfl | rfl | rfl | rfl | rfl | rfl | rfl | rfl | rfl | rfl
  · exact ⟨top _ (by decide), by decide⟩
  · exact ⟨fun hr => by have := hr.shape.pos; simp at this, by decide⟩
  · exact ⟨top _ (by decide), by decide⟩
  · exact ⟨top _ (by decide), by decide⟩
  · exact ⟨cnt _ (by decide), by decide⟩
  · exact ⟨fun hr => by have := hr.shape.low 0 n0 rfl 0 (by simp [n0]); omega, by decide⟩
  · exact ⟨top _ (by decide), by decide⟩
  · exact ⟨cnt _ (by decide), by decide⟩
  · exact ⟨cnt _ (by decide), by decide⟩
  · exact ⟨fun hr => by have := hr.shape.low 1 ⟨notD, [-1]⟩ rfl (-1) (by simp); omega, by decide⟩
  · exact ⟨fun hr => by have := hr.shape.low 1 ⟨notD, [1]⟩ rfl 1 (by simp); omega, by decide⟩
end Go.Proofs.YtlmlbdmbgfclkaaDoor

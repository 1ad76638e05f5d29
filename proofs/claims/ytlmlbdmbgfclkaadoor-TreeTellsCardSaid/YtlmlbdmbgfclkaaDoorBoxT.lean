/- Boxes of trees: what is known of them in a region whose order is drawn. -/
import Derived.Test.YtlmlbdmbgfclkaaDoorBoxes
import Derived.Test.YtlmlbdmbgfclkaaDoorTrees
namespace Go.Proofs.YtlmlbdmbgfclkaaDoor
open Go.RowKit

abbrev TT : Nat → TypeId := fun _ => 24
abbrev ZT : Nat → Array Value := fun _ => #[.slice none 0 0, .int .i64 0]
def RFreeT (t : Tr) : Value → BG × World → Prop := RFree fun w S v => RTree w S v t
theorem RFreeT.keep {T : Nat → TypeId} {Z : Nat → Array Value} {t : Tr} {v : Value} {s s' : BG × World} (h : BE T Z s s') (hr : RFreeT t v s) : RFreeT t v s' := RFree.keep (R := fun w S v => RTree w S v t) (fun h hk => RTree.keep h hk) h hr
theorem RFreeT.own {T : Nat → TypeId} {Z : Nat → Array Value} {x : Tr} {u : Value} {γ : BG} {w w' : World} (h : OwnTree w' w.heap.size u x) (h1 : -9223372036854775808 ≤ x.root) (h2 : x.root ≤ 9223372036854775807) (hok : BoxOK T Z (γ, w)) : RFreeT x u (γ, w') :=
  ⟨fun b => w.heap.size ≤ b ∧ b < w'.heap.size, h.read (fun b h1 h2 => ⟨h1, h2⟩) h1 h2, fun b hb => ⟨hb.2, fun i c e => by have := hok.lt (i := i) e; have := hb.1; simp only at *; omega⟩⟩
theorem RFreeT.has {t : Tr} {v : Value} {s : BG × World} (h : RFreeT t v s) : HasT s.2 v t := by
  obtain ⟨S, h1, h2⟩ := h
  exact h1.has fun b hb => (h2 b hb).1
theorem RFreeT.agg {t : Tr} {v : Value} {s : BG × World} (h : RFreeT t v s) : ∃ A n c, v = .agg #[.slice A n c, .int .i64 t.root] := by
  obtain ⟨S, ⟨nv, rfl, hn, _⟩, _⟩ := h
  obtain ⟨A, c, rfl, _⟩ := hn.at_
  exact ⟨A, _, c, rfl⟩
def RFreeL (ts : List Tr) : Value → BG × World → Prop := RFree fun w S v => RTrees w S v ts
theorem RFreeL.keep {T : Nat → TypeId} {Z : Nat → Array Value} {ts : List Tr} {v : Value} {s s' : BG × World} (h : BE T Z s s') (hr : RFreeL ts v s) : RFreeL ts v s' := RFree.keep (R := fun w S v => RTrees w S v ts) (fun h hk => RTrees.keep h hk) h hr
theorem RFreeL.own {T : Nat → TypeId} {Z : Nat → Array Value} {ts : List Tr} {u : Value} {γ : BG} {w w' : World} (h : OwnList w' w.heap.size w.heap.size u ts) (hok : BoxOK T Z (γ, w)) : RFreeL ts u (γ, w') :=
  ⟨fun b => w.heap.size ≤ b ∧ b < w'.heap.size, h.reads.more (fun b h => ⟨by rcases h.1 with h | h <;> exact h, h.2⟩), fun b hb => ⟨hb.2, fun i c e => by have := hok.lt (i := i) e; have := hb.1; simp only at *; omega⟩⟩
theorem RFreeL.read {ts : List Tr} {v : Value} {s : BG × World} (h : RFreeL ts v s) : RTrees s.2 (fun b => b < s.2.heap.size) v ts := by
  obtain ⟨S, h1, h2⟩ := h
  exact h1.more fun b hb => (h2 b hb).1
def RFillT (i : Nat) (t : Tr) : Value → BG × World → Prop := RFill i fun c s => RFreeT t (.agg c) s
theorem RFillT.keep {T : Nat → TypeId} {Z : Nat → Array Value} {i : Nat} {t : Tr} {v : Value} {s s' : BG × World} (h : BE T Z s s') (hr : RFillT i t v s) : RFillT i t v s' := RFill.keep (F := fun c s => RFreeT t (.agg c) s) (fun _ _ _ h hc => RFreeT.keep h hc) h hr
theorem BE.below_drew {T : Nat → TypeId} {Z : Nat → Array Value} {γ : BG} {w0 w : World} (h : BE T Z (BG.none_, w0.drew) (γ, w)) : Below w0.heap.size w0 w := ⟨h.below.os, h.below.tape, h.below.output, h.below.size, h.below.block⟩
theorem RBox.made {i g : Nat} {c : Option (Array Value)} {γ : BG} {w : World} : RBox i (.pointer (some ⟨g, 0, none⟩)) (γ.upd i (g, c), w) := ⟨g, c, rfl, if_pos rfl⟩
/-- A box is filled with a tree. -/
theorem fill_box {i : Nat} {t : Tr} {v u : Value} {γ : BG} {w0 w : World} (hE : BE TT ZT (BG.none_, w0) (γ, w)) (hN : ∀ g c, γ i ≠ some (g, some c)) (hb : RBox i v (γ, w)) (hr : RFreeT t u (γ, w)) :
    ∃ g A n c γ', v = .pointer (some ⟨g, 0, none⟩) ∧ u = .agg #[.slice A n c, .int .i64 t.root] ∧ w.cell? ⟨g, 0, none⟩ = some (.slice none 0 0) ∧ w.cell? ⟨g, 1, none⟩ = some (.int .i64 0) ∧ w.frozen? ⟨g, 0, none⟩ = false ∧ w.frozen? ⟨g, 1, none⟩ = false ∧
      BE TT ZT (γ, w) (γ', (w.setCell ⟨g, 0, none⟩ (.slice A n c)).setCell ⟨g, 1, none⟩ (.int .i64 t.root)) ∧ (∀ (kinds : List BoxKind) (s : Nat), onlyStore kinds s i = true → ∀ j, j ≠ s → BN kinds j γ → BN kinds j γ') ∧
      RFillT i t undef (γ', (w.setCell ⟨g, 0, none⟩ (.slice A n c)).setCell ⟨g, 1, none⟩ (.int .i64 t.root)) := by
  obtain ⟨g, c, rfl, hg⟩ := hb
  simp only at hg
  cases c with
  | some c => exact absurd hg (hN g c)
  | none =>
    have hB : Blk w g 24 #[.slice none 0 0, .int .i64 0] := hE.boxes.blank i g hg
    obtain ⟨A, n, k, rfl⟩ := hr.agg
    have hs := BE.store (T := TT) (Z := ZT) hg (grown_set2 w g 0 1 (.slice A n k) (.int .i64 t.root)) (Blk.set2 hB (.slice A n k) (.int .i64 t.root))
    exact ⟨g, A, n, k, _, rfl, rfl, hB.cell 0, hB.cell 1, hB.frozen 0, hB.frozen 1, hs, fun kinds s h1 => BN.store hg h1, ⟨g, _, if_pos rfl, hr.keep hs⟩⟩
/-- What is left behind the region: a box that holds a tree. -/
theorem box_tree {Z : Nat → Array Value} {i : Nat} {t : Tr} {v u : Value} {γ : BG} {w0 w : World} (hE : BE TT Z (BG.none_, w0) (γ, w)) (hb : RBox i v (γ, w)) (hf : RFillT i t u (γ, w)) :
    ∃ g A n c, v = .pointer (some ⟨g, 0, none⟩) ∧ Blk w g 24 #[.slice A n c, .int .i64 t.root] ∧ HasT w (.agg #[.slice A n c, .int .i64 t.root]) t := by
  obtain ⟨g, c, rfl, hg⟩ := hb
  obtain ⟨g', c', hg', hr⟩ := hf
  simp only at hg hg'
  rw [hg] at hg'
  injection hg' with e
  injection e with e1 e2
  subst e1; subst e2
  obtain ⟨A, n, k, e⟩ := hr.agg
  injection e with e
  subst e
  exact ⟨g, A, n, k, rfl, hE.boxes.full i g _ hg, hr.has⟩
end Go.Proofs.YtlmlbdmbgfclkaaDoor

/- Boxes of trees that lie in new memory: what is known of them in a region whose order is drawn. -/
import Derived.Test.YtlmlbdmbgfclkaaDoorBoxT
namespace Go.Proofs.YtlmlbdmbgfclkaaDoor
open Go.RowKit

/-- A tree that reads in soft blocks from lo on, none of them a box. -/
def RG (lo : Nat) (t : Tr) : Value → BG × World → Prop := fun v s => ∃ S, RTree s.2 S v t ∧ ∀ b, S b → b < s.2.heap.size ∧ lo ≤ b ∧ Soft s.2 b ∧ ∀ i c, s.1 i ≠ some (b, c)
theorem RG.keep {T : Nat → TypeId} {Z : Nat → Array Value} {lo : Nat} {t : Tr} {v : Value} {s s' : BG × World} (h : BE T Z s s') (hr : RG lo t v s) : RG lo t v s' := by
  obtain ⟨S, h1, h2⟩ := hr
  refine ⟨S, h1.keep fun p hp => World.cell?_of_block (h.same _ (h2 _ hp).1 (h2 _ hp).2.2.2), fun b hb => ⟨Nat.lt_of_lt_of_le (h2 b hb).1 h.size, (h2 b hb).2.1, (h2 b hb).2.2.1.of_block (h.same _ (h2 _ hb).1 (h2 _ hb).2.2.2), h.notBox (h2 b hb).1 (h2 b hb).2.2.2⟩⟩
theorem OwnTree.soft {w : World} {base : Nat} {v : Value} {t : Tr} (h : OwnTree w base v t) (h1 : -9223372036854775808 ≤ t.root) (h2 : t.root ≤ 9223372036854775807) : RTree w (fun b => base ≤ b ∧ b < w.heap.size ∧ Soft w b) v t := by
  obtain ⟨nv, rfl, kvs, hk⟩ := h
  exact ⟨nv, rfl, hk.nodesS fun b h1 h2 _ h3 => ⟨h1, h2, h3⟩, h1, h2⟩
theorem RG.own {T : Nat → TypeId} {Z : Nat → Array Value} {lo : Nat} {x : Tr} {u : Value} {γ : BG} {w w' : World} (h : OwnTree w' w.heap.size u x) (h1 : -9223372036854775808 ≤ x.root) (h2 : x.root ≤ 9223372036854775807) (hl : lo ≤ w.heap.size) (hok : BoxOK T Z (γ, w)) : RG lo x u (γ, w') :=
  ⟨_, h.soft h1 h2, fun b hb => ⟨hb.2.1, Nat.le_trans hl hb.1, hb.2.2, fun i c e => by have := hok.lt (i := i) e; have := hb.1; simp only at *; omega⟩⟩
theorem RG.agg {lo : Nat} {t : Tr} {v : Value} {s : BG × World} (h : RG lo t v s) : ∃ A n c, v = .agg #[.slice A n c, .int .i64 t.root] := by
  obtain ⟨S, ⟨nv, rfl, hn, _⟩, _⟩ := h
  obtain ⟨A, c, rfl, _⟩ := hn.at_
  exact ⟨A, _, c, rfl⟩
theorem RG.has {lo : Nat} {t : Tr} {v : Value} {s : BG × World} (h : RG lo t v s) : RTree s.2 (fun b => lo ≤ b ∧ b < s.2.heap.size ∧ Soft s.2 b) v t := by
  obtain ⟨S, h1, h2⟩ := h
  exact h1.more fun b hb => ⟨(h2 b hb).2.1, (h2 b hb).1, (h2 b hb).2.2.1⟩
def RFillG (i lo : Nat) (t : Tr) : Value → BG × World → Prop := RFill i fun c s => RG lo t (.agg c) s
theorem RFillG.keep {T : Nat → TypeId} {Z : Nat → Array Value} {i lo : Nat} {t : Tr} {v : Value} {s s' : BG × World} (h : BE T Z s s') (hr : RFillG i lo t v s) : RFillG i lo t v s' := RFill.keep (F := fun c s => RG lo t (.agg c) s) (fun _ _ _ h hc => RG.keep h hc) h hr
theorem fill_boxG {i lo : Nat} {t : Tr} {v u : Value} {γ : BG} {w0 w : World} (hE : BE TT ZT (BG.none_, w0) (γ, w)) (hN : ∀ g c, γ i ≠ some (g, some c)) (hb : RBox i v (γ, w)) (hr : RG lo t u (γ, w)) :
    ∃ g A n c γ', v = .pointer (some ⟨g, 0, none⟩) ∧ u = .agg #[.slice A n c, .int .i64 t.root] ∧ w.cell? ⟨g, 0, none⟩ = some (.slice none 0 0) ∧ w.cell? ⟨g, 1, none⟩ = some (.int .i64 0) ∧ w.frozen? ⟨g, 0, none⟩ = false ∧ w.frozen? ⟨g, 1, none⟩ = false ∧
      BE TT ZT (γ, w) (γ', (w.setCell ⟨g, 0, none⟩ (.slice A n c)).setCell ⟨g, 1, none⟩ (.int .i64 t.root)) ∧ (∀ (kinds : List BoxKind) (s : Nat), onlyStore kinds s i = true → ∀ j, j ≠ s → BN kinds j γ → BN kinds j γ') ∧
      RFillG i lo t undef (γ', (w.setCell ⟨g, 0, none⟩ (.slice A n c)).setCell ⟨g, 1, none⟩ (.int .i64 t.root)) := by
  obtain ⟨g, c, rfl, hg⟩ := hb
  simp only at hg
  cases c with
  | some c => exact absurd hg (hN g c)
  | none =>
    have hB : Blk w g 24 #[.slice none 0 0, .int .i64 0] := hE.boxes.blank i g hg
    obtain ⟨A, n, k, rfl⟩ := hr.agg
    have hs := BE.store (T := TT) (Z := ZT) hg (grown_set2 w g 0 1 (.slice A n k) (.int .i64 t.root)) (Blk.set2 hB (.slice A n k) (.int .i64 t.root))
    exact ⟨g, A, n, k, _, rfl, rfl, hB.cell 0, hB.cell 1, hB.frozen 0, hB.frozen 1, hs, fun kinds s h1 => BN.store hg h1, ⟨g, _, if_pos rfl, hr.keep hs⟩⟩
theorem box_treeG {Z : Nat → Array Value} {i lo : Nat} {t : Tr} {v u : Value} {γ : BG} {w0 w : World} (hE : BE TT Z (BG.none_, w0) (γ, w)) (hb : RBox i v (γ, w)) (hf : RFillG i lo t u (γ, w)) :
    ∃ g A n c, v = .pointer (some ⟨g, 0, none⟩) ∧ Blk w g 24 #[.slice A n c, .int .i64 t.root] ∧ RTree w (fun b => lo ≤ b ∧ b < w.heap.size ∧ Soft w b) (.agg #[.slice A n c, .int .i64 t.root]) t := by
  obtain ⟨g, c, rfl, hg⟩ := hb
  obtain ⟨g', c', hg', hr⟩ := hf
  simp only at hg hg'
  rw [hg] at hg'
  injection hg' with e
  injection e with e1 e2
  subst e1; subst e2
  obtain ⟨A, n, k, e⟩ := hr.agg
  injection e with e
  subst e
  exact ⟨g, A, n, k, rfl, hE.boxes.full i g _ hg, hr.has⟩
end Go.Proofs.YtlmlbdmbgfclkaaDoor

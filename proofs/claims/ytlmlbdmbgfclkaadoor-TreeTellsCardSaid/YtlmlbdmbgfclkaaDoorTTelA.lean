/- Words for the law TreeTells: what may be written over, what stands at a node. -/
import Derived.Test.YtlmlbdmbgfclkaaDoorRfR
import Derived.Test.YtlmlbdmbgfclkaaDoorTMid
namespace Go.Proofs.YtlmlbdmbgfclkaaDoor
open Go.RowKit
open Classical

noncomputable def subT (t : Tr) (node : Int) : Tr := if RightT t ∧ 0 ≤ node ∧ node < t.nodes.length then flatT (D t.nodes node.toNat) else zeroT
noncomputable def subB (t : Tr) (node : Int) : Bool := decide (RightT t ∧ 0 ≤ node ∧ node < t.nodes.length)
theorem IsSub.is {t : Tr} {node : Int} {x : Tr} {is : Bool} (h : IsSub t node x is) : x = subT t node ∧ is = subB t node := by
  unfold subT subB
  by_cases hin : RightT t ∧ 0 ≤ node ∧ node < t.nodes.length
  · rw [if_pos hin, decide_eq_true hin]
    obtain ⟨h1, h2⟩ := h.yes hin.1 hin.2.1 hin.2.2
    exact ⟨h2, h1⟩
  · rw [if_neg hin, decide_eq_false hin]
    obtain ⟨h1, h2⟩ := h.no hin
    exact ⟨h2, h1⟩
theorem sub_small {t : Tr} {node : Int} (h : t.nodes.length ≤ 500000) : (subT t node).nodes.length ≤ 500000 ∧ -9223372036854775808 ≤ (subT t node).root ∧ (subT t node).root ≤ 9223372036854775807 := by
  unfold subT
  split
  · rename_i hin
    have h1 := size_le hin.1.shape node.toNat (by omega)
    have h2 := flat_root (D t.nodes node.toNat) (by omega)
    refine ⟨?_, h2⟩
    show (flatAt 0 _).length ≤ _
    rw [flatAt_length]; omega
  · exact ⟨by simp [zeroT], by simp [zeroT], by simp [zeroT]⟩
theorem WTree.below {w w' : World} {lo : Nat} {v : Value} {t : Tr} (h : WTree w lo v t) (hb : Below w.heap.size w w') : WTree w' lo v t :=
  (RTree.below h hb fun _ h => h.2.1).more fun b h => ⟨h.1, Nat.lt_of_lt_of_le h.2.1 hb.size, h.2.2.below hb h.2.1⟩
theorem WTree.has {w : World} {lo : Nat} {v : Value} {t : Tr} (h : WTree w lo v t) : HasT w v t := h.more fun _ h => h.2.1
theorem WTree.agg {w : World} {lo : Nat} {v : Value} {t : Tr} (h : WTree w lo v t) : ∃ A c, v = .agg #[.slice A t.nodes.length c, .int .i64 t.root] := by
  obtain ⟨nv, rfl, hn, _⟩ := h
  obtain ⟨A, c, rfl, _⟩ := hn.at_
  exact ⟨A, c, rfl⟩
/-- From W to w' what lies from lo on was written over, and what is below is as it was. -/
structure SP (lo : Nat) (W w' : World) : Prop where
  below : Below lo W w'
  sp : Spoilt W w'
  soft : SoftKept W w'
theorem SP.of_below {lo : Nat} {W w' : World} (hb : Below W.heap.size W w') (hl : lo ≤ W.heap.size) : SP lo W w' := ⟨hb.mono hl, Spoilt.of_below hb, SoftKept.of_below hb⟩
theorem SP.trans {lo : Nat} {W w' w'' : World} (h : SP lo W w') (k : SP lo w' w'') : SP lo W w'' := ⟨h.below.trans k.below, h.sp.trans k.sp h.below.size, h.soft.trans k.soft h.below.size⟩
theorem SP.wtree {lo : Nat} {W w' : World} {nv : Value} {t : Tr} {z : Int} (h : SP lo W w') (hn : WTree W lo (.agg #[nv, .int .i64 t.root]) t) (hz : z = t.root ∨ z = -7) : ∃ t', WTree w' lo (.agg #[nv, .int .i64 z]) t' := by
  obtain ⟨nv', hv, h1, h2, h3⟩ := hn
  have e : nv = nv' := by simp at hv; exact hv
  subst e
  obtain ⟨ns', _, h5⟩ := h1.spoilt h.sp fun b hb => hb.2.1
  refine ⟨⟨ns', z⟩, nv, rfl, h5.more fun b hb => ⟨hb.1, Nat.lt_of_lt_of_le hb.2.1 h.below.size, h.soft b hb.2.1 hb.2.2⟩, ?_, ?_⟩ <;> rcases hz with rfl | rfl <;> simp only <;> omega
theorem OwnList.soft {w : World} {lo : Nat} {v : Value} {ts : List Tr} (h : OwnList w lo lo v ts) : RTrees w (fun b => lo ≤ b ∧ b < w.heap.size ∧ Soft w b) v ts := by
  obtain ⟨nvs, hl, hr, hn⟩ := h
  exact ⟨nvs, hl, Row.of_own hr (fun g hg => ⟨(own_blk_lt hr hg).1, (own_blk_lt hr hg).2, own_soft hr hg⟩) (own_small hr), fun j t nv h1 h2 => ⟨(hn j t nv h1 h2).1.more fun b h => ⟨h.1, h.2.1, h.2.2.2⟩, (hn j t nv h1 h2).2⟩⟩
/-- A box that holds a tree, written over. -/
theorem SP.cells {lo : Nat} {W w' : World} {p : Addr} {nv : Value} {z : Int} (h : SP lo W w') (hp : p.block < W.heap.size) (h0 : W.cell? p = some nv) (hnv : ∃ A n c, nv = .slice A n c) {q : Addr} (hq : q.block < W.heap.size) (h1 : W.cell? q = some (.int .i64 z)) :
    w'.cell? p = some nv ∧ ∃ z', w'.cell? q = some (.int .i64 z') ∧ (z' = z ∨ z' = -7) := by
  obtain ⟨A, n, c, rfl⟩ := hnv
  exact ⟨h.sp.same hp h0 (fun z e => by cases e) (fun z e => by cases e), h.sp.i64 hq h1⟩
end Go.Proofs.YtlmlbdmbgfclkaaDoor

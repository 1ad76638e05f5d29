/- Small laws on clean trees, and on rows of three trees. -/
import Derived.Test.YtlmlbdmbgfclkaaDoorTrB
namespace Go.Proofs.YtlmlbdmbgfclkaaDoor
open Go.RowKit
open Classical

theorem RTrees.three {w : World} {S : Nat → Prop} {g : Nat} {ty : TypeId} {t u s : Tr} {nv mv lv : Value} (hb : Blk w g ty #[nv, .int .i64 t.root, mv, .int .i64 u.root, lv, .int .i64 s.root]) (hS : S g)
    (h : RTree w S (.agg #[nv, .int .i64 t.root]) t) (h' : RTree w S (.agg #[mv, .int .i64 u.root]) u) (h'' : RTree w S (.agg #[lv, .int .i64 s.root]) s) : RTrees w S (.slice (some ⟨g, 0, none⟩) 3 3) [t, u, s] := by
  obtain ⟨nv', hv, h1⟩ := h
  obtain ⟨mv', hv', h1'⟩ := h'
  obtain ⟨lv', hv'', h1''⟩ := h''
  have e : nv = nv' := by simpa using hv
  subst e
  have e : mv = mv' := by simpa using hv'
  subst e
  have e : lv = lv' := by simpa using hv''
  subst e
  exact RTrees.of_blk (ts := [t, u, s]) (nvs := [nv, mv, lv]) rfl hb hS (by simp [maxLen]) fun j t' nv' h2 h3 => by
    rcases j with _ | _ | _ | j
    · simp at h2 h3; subst h2; subst h3; exact h1
    · simp at h2 h3; subst h2; subst h3; exact h1'
    · simp at h2 h3; subst h2; subst h3; exact h1''
    · simp at h2
theorem clean_root {t : Tr} (h : t.nodes.length ≤ 500000) : -9223372036854775808 ≤ (cleanOf t).root ∧ (cleanOf t).root ≤ 9223372036854775807 := by
  unfold cleanOf
  split
  · rename_i hr
    simp only [flatT]
    rw [hr.size]; omega
  · simp [zeroT]

theorem clean_small {t : Tr} (h : t.nodes.length ≤ 4000) : (cleanOf t).nodes.length ≤ 500000 := by
  unfold cleanOf
  split
  · rename_i hr
    rw [flatT_len, hr.size]; omega
  · simp [zeroT]
theorem not_right_zero : ¬ RightT zeroT := fun h => by have := h.shape.root_lt; simp [zeroT] at this
theorem right_clean (t : Tr) : RightT (cleanOf t) ↔ RightT t := by
  unfold cleanOf
  by_cases h : RightT t
  · rw [if_pos h]; exact ⟨fun _ => h, fun _ => right_flat h.fitT⟩
  · rw [if_neg h]; exact ⟨fun h' => absurd h' not_right_zero, fun h' => absurd h' h⟩
theorem decide_right_clean (t : Tr) : decide (RightT (cleanOf t)) = decide (RightT t) := by
  by_cases h : RightT t
  · rw [decide_eq_true h, decide_eq_true ((right_clean t).2 h)]
  · rw [decide_eq_false h, decide_eq_false (fun h' => h ((right_clean t).1 h'))]

theorem treeOf_clean {t : Tr} (h : RightT t) : treeOf (cleanOf t) = treeOf t := by rw [cleanOf, if_pos h, treeOf_flat]
theorem clean_clean (t : Tr) : cleanOf (cleanOf t) = cleanOf t := by
  by_cases h : RightT t
  · have h2 := (right_clean t).2 h
    rw [cleanOf, if_pos h2, treeOf_clean h, cleanOf, if_pos h]
  · have h2 : ¬ RightT (cleanOf t) := fun h' => h ((right_clean t).1 h')
    rw [cleanOf, if_neg h2, cleanOf, if_neg h]
theorem same_clean (t : Tr) : decide (SameT t (cleanOf t)) = decide (RightT t) := by
  by_cases h : RightT t
  · rw [decide_eq_true h]; exact decide_eq_true ⟨h, (right_clean t).2 h, (treeOf_clean h).symm⟩
  · rw [decide_eq_false h]; exact decide_eq_false fun h' => h h'.1

theorem same_symm (a b : Tr) : decide (SameT a b) = decide (SameT b a) := by
  by_cases h : SameT b a
  · rw [decide_eq_true h]; exact decide_eq_true ⟨h.2.1, h.1, h.2.2.symm⟩
  · rw [decide_eq_false h]; exact decide_eq_false fun h' => h ⟨h'.2.1, h'.1, h'.2.2.symm⟩
theorem same_self (a : Tr) : decide (SameT a a) = decide (RightT a) := by
  by_cases h : RightT a
  · rw [decide_eq_true h]; exact decide_eq_true ⟨h, h, rfl⟩
  · rw [decide_eq_false h]; exact decide_eq_false fun h' => h h'.1
theorem exact_clean {a b : Tr} (ha : RightT a) (hb : RightT b) : decide (cleanOf a = cleanOf b) = decide (SameT a b) := by
  by_cases h : SameT a b
  · rw [decide_eq_true h]; exact decide_eq_true (by rw [cleanOf, cleanOf, if_pos ha, if_pos hb, h.2.2])
  · rw [decide_eq_false h]; exact decide_eq_false fun h' => h ⟨ha, hb, by rw [← treeOf_clean ha, h', treeOf_clean hb]⟩
end Go.Proofs.YtlmlbdmbgfclkaaDoor

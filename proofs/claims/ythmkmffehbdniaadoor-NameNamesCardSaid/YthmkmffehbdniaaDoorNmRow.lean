/- NameRow answers true for all texts. Conditions: the texts are Go's; the library's table lies as laid. -/
import Derived.Test.YthmkmffehbdniaaDoorNmG
namespace Go.Proofs.YthmkmffehbdniaaDoor
open Go.RowKit

theorem works_b (w0 w : World) (hb : Below w0.heap.size w0 w) (ht : Tab w0) : Calls Tryd.prog 10 #[] w fun e w' => e = .returned (.bool true) ∧ Below w0.heap.size w0 w' :=
  (works_any w (ht.below hb)).mono fun _ _ h => ⟨h.1, hb.trans (h.2.mono hb.size)⟩
theorem compare_b (a b : ByteArray) (w0 w : World) (hb : Below w0.heap.size w0 w) : Calls Tryd.prog 19 #[.string a, .string b] w fun e w' => e = .returned (.int .i64 (cmpB a b)) ∧ Below w0.heap.size w0 w' :=
  (compare_any a b w).mono fun _ _ h => ⟨h.1, hb.trans (h.2.mono hb.size)⟩

namespace Nm
open Lib
theorem cmp_bd : ∀ a b : List UInt8, -1 ≤ compareBytes a b ∧ compareBytes a b ≤ 1
  | [], [] => by simp [compareBytes]
  | [], _ :: _ => by simp [compareBytes]
  | _ :: _, [] => by simp [compareBytes]
  | a :: xs, b :: ys => by
    have := cmp_bd xs ys
    unfold compareBytes
    split
    · omega
    · split <;> omega
theorem cmp_turn : ∀ a b : List UInt8, compareBytes b a = -compareBytes a b
  | [], [] => by simp [compareBytes]
  | [], _ :: _ => by simp [compareBytes]
  | _ :: _, [] => by simp [compareBytes]
  | a :: xs, b :: ys => by
    have ih := cmp_turn xs ys
    unfold compareBytes
    by_cases h1 : a < b
    · have h2 : ¬ b < a := by rw [UInt8.lt_iff_toNat_lt] at *; omega
      rw [if_pos h1, if_neg h2, if_pos h1]; rfl
    · by_cases h2 : b < a
      · rw [if_pos h2, if_neg h1, if_pos h2]
      · rw [if_neg h1, if_neg h2, if_neg h2, if_neg h1, ih]
theorem cmp_zero : ∀ a b : List UInt8, compareBytes a b = 0 ↔ a = b
  | [], [] => by simp [compareBytes]
  | [], _ :: _ => by simp [compareBytes]
  | _ :: _, [] => by simp [compareBytes]
  | a :: xs, b :: ys => by
    have ih := cmp_zero xs ys
    unfold compareBytes
    by_cases h1 : a < b
    · have h2 : a ≠ b := fun e => by rw [e, UInt8.lt_iff_toNat_lt] at h1; omega
      rw [if_pos h1]; simp [h2]
    · by_cases h2 : b < a
      · have h3 : a ≠ b := fun e => by rw [e, UInt8.lt_iff_toNat_lt] at h2; omega
        rw [if_neg h1, if_pos h2]; simp [h3]
      · have h3 : a = b := by
          apply UInt8.toNat_inj.1
          rw [UInt8.lt_iff_toNat_lt] at h1 h2; omega
        rw [if_neg h1, if_neg h2, ih]; simp [h3]
theorem cmp_trans : ∀ a b c : List UInt8, compareBytes a b ≤ 0 → compareBytes b c ≤ 0 → compareBytes a c ≤ 0
  | [], _, [] => by simp [compareBytes]
  | [], _, _ :: _ => by simp [compareBytes]
  | _ :: _, [], _ => by simp [compareBytes]
  | _ :: _, _ :: _, [] => by simp [compareBytes]
  | a :: xs, b :: ys, c :: zs => by
    have ih := cmp_trans xs ys zs
    unfold compareBytes
    simp only [UInt8.lt_iff_toNat_lt]
    intro h1 h2
    split at h1
    · split at h2
      · rw [if_pos (by omega)]; omega
      · split at h2
        · omega
        · rw [if_pos (by omega)]; omega
    · split at h1
      · omega
      · split at h2
        · rw [if_pos (by omega)]; omega
        · split at h2
          · omega
          · rw [if_neg (by omega), if_neg (by omega)]; exact ih h1 h2
end Nm

set_option maxHeartbeats 1000000 in
theorem row_any (a b c : ByteArray) (ha : a.size ≤ maxLen) (hb : b.size ≤ maxLen) (hc : c.size ≤ maxLen) (w : World) (ht : Tab w) :
    Calls Tryd.prog 9 #[.string a, .string b, .string c] w (TruePost w) := by
  have h0 : Below w.heap.size w w := Below.refl _ _
  unfold maxLen at ha hb hc
  by_cases hl : 3000 < a.size ∨ 3000 < b.size ∨ 3000 < c.size
  · have HT := Lib.hid ht
    clear ht
    by_cases h1 : 3000 < a.size
    rotate_left
    by_cases h2 : 3000 < b.size
    rotate_left
    have h3 : 3000 < c.size := by omega
    all_goals
      clear hl
      go_enter Tryd.func9, Tryd.ntmps9
      go_wp2_with (go_at_call 10; refine (works_b w _ (by assumption) HT.out).mono ?_; rintro e w1 ⟨rfl, hb1⟩)
      go_ret
      exact ⟨rfl, by assumption⟩
  · have hcase : (cmpB a b = 1 ∧ (a.toList == b.toList) = false ∧ cmpB b a = -1) ∨ (cmpB a b = -1 ∧ (a.toList == b.toList) = false ∧ cmpB b a = 1) ∨ (cmpB a b = 0 ∧ (a.toList == b.toList) = true ∧ cmpB b a = 0) := by
      have h1 := Nm.cmp_bd a.data.toList b.data.toList
      have h2 := Nm.cmp_turn a.data.toList b.data.toList
      have h3 := Nm.cmp_zero a.data.toList b.data.toList
      unfold cmpB
      rw [beq_eq_false_iff_ne, beq_iff_eq, Lib.toList_data, Lib.toList_data]
      generalize Lib.compareBytes a.data.toList b.data.toList = x at *
      rcases (by omega : x = 1 ∨ x = -1 ∨ x = 0) with h | h | h
      · refine .inl ⟨h, fun e => ?_, by omega⟩
        have := h3.2 e; omega
      · refine .inr (.inl ⟨h, fun e => ?_, by omega⟩)
        have := h3.2 e; omega
      · exact .inr (.inr ⟨h, h3.1 h, by omega⟩)
    have htr : cmpB a b ≤ 0 → cmpB b c ≤ 0 → cmpB a c ≤ 0 := Nm.cmp_trans _ _ _
    have HTR := Lib.hid htr
    have HT := Lib.hid ht
    clear ht htr
    rcases hcase with ⟨h1, h2, h3⟩ | ⟨h1, h2, h3⟩ | ⟨h1, h2, h3⟩
    all_goals
      by_cases hy : 0 < cmpB b c
      rotate_left
      by_cases hz : cmpB a c ≤ 0
      rotate_left
    all_goals try (exact absurd (HTR.out (by omega) (by omega)) (by omega))
    all_goals
      go_enter Tryd.func9, Tryd.ntmps9
      go_wp2_with (first
        | (go_at_call 10; refine (works_b w _ (by assumption) HT.out).mono ?_; rintro e w1 ⟨rfl, hb1⟩)
        | (go_at_call 19; refine (compare_b _ _ w _ (by assumption)).mono ?_; rintro e w1 ⟨rfl, hb1⟩))
    all_goals go_ret
    all_goals exact ⟨rfl, by assumption⟩
end Go.Proofs.YthmkmffehbdniaaDoor

/- The contract of works: the examples are as they are told. Condition: the library's table lies as laid. -/
import Derived.Test.YthmkmffehbdniaaDoorNmF
namespace Go.Proofs.YthmkmffehbdniaaDoor
open Go.RowKit

namespace Nm
theorem itoa_small (n : Nat) (h : n < 10) : Lib.itoa (n : Int) = [UInt8.ofNat (48 + n)] := by rw [Lib.itoa_nonneg, Lib.decDigits_one h]
theorem itoa_m5 : Lib.itoa (-5) = [45, 53] := by
  have := Lib.itoa_neg 5 (by omega)
  rw [Lib.decDigits_one (by omega)] at this
  exact this
theorem try_a1 : tryAt [97] 1 = [97, 50] := by
  unfold tryAt
  rw [if_neg (by omega), show wrap64 (((1 : Nat) : Int) + 1) = ((2 : Nat) : Int) from by unfold wrap64; omega, itoa_small 2 (by omega)]
  rfl
theorem try_a2 : tryAt [97] 2 = [97, 51] := by
  unfold tryAt
  rw [if_neg (by omega), show wrap64 (((2 : Nat) : Int) + 1) = ((3 : Nat) : Int) from by unfold wrap64; omega, itoa_small 3 (by omega)]
  rfl
end Nm
theorem free_unique {st : List UInt8} {us : List (List UInt8)} {r r' : List UInt8} (h : FreeIs st us r) (h' : FreeIs st us r') : r = r' := by
  rcases h with ⟨k, h1, h2, h3, h4⟩ | ⟨k, h1, h2, h3, h4⟩ <;> rcases h' with ⟨m, g1, g2, g3, g4⟩ | ⟨m, g1, g2, g3, g4⟩
  · rcases Nat.lt_trichotomy k m with e | e | e
    · exact absurd (g2 k e) h3
    · rw [h4, g4, e]
    · exact absurd (h2 m e) g3
  · rcases Nat.lt_or_ge k m with e | e
    · exact absurd (g3 k e) h3
    · have := h1 m (by omega); rw [g2] at this; cases this
  · rcases Nat.lt_or_ge m k with e | e
    · exact absurd (h3 m e) g3
    · have := g1 k (by omega); rw [h2] at this; cases this
  · rw [h4, g4]
theorem free_a : FreeIs [97] [[97], [97, 50]] [97, 51] := by
  refine .inl ⟨2, fun i hi => ?_, fun i hi => ?_, ?_, Nm.try_a2.symm⟩
  · rcases i with _ | _ | _ | i
    · decide
    · rw [Nm.try_a1]; decide
    · rw [Nm.try_a2]; decide
    · omega
  · rcases i with _ | _ | i
    · decide
    · rw [Nm.try_a1]; decide
    · omega
  · rw [Nm.try_a2]; decide

theorem rstrs_two (w : World) (a b : List UInt8) (t : TypeId) (B : Nat) (hB : w.heap.size < B) : RStrs (w.alloc (.cells #[.string ⟨a.toArray⟩, .string ⟨b.toArray⟩] t)) B (.slice (some ⟨w.heap.size, 0, none⟩) 2 2) [a, b] := by
  refine ⟨_, 2, rfl, by simp [maxLen], fun j hj => ⟨_, _, rfl, hB, ?_⟩⟩
  rcases j with _ | _ | j
  · simp
  · simp
  · simp only [List.length_cons, List.length_nil] at hj; omega

def TruePost (w : World) (e : Ending) (w' : World) : Prop := e = .returned (.bool true) ∧ Below w.heap.size w w'
set_option maxHeartbeats 1000000 in
theorem works_any (w : World) (ht : Tab w) : Calls Tryd.prog 10 #[] w (TruePost w) := by
  have HT := Lib.hid ht
  clear ht
  have m1 : Nm.may [97, 95, 49] = true := by decide
  have m2 : Nm.may [95] = true := by decide
  have m3 : Nm.may [90, 57] = true := by decide
  have m4 : Nm.may [49, 97] = false := by decide
  have m5 : Nm.may [] = false := by decide
  have m6 : Nm.may [97, 45, 98] = false := by decide
  have n1 : Nm.num [48, 55] 9 = (0, 4) := by decide
  have n2 : Nm.num [49, 50] 11 = (0, 40) := by decide
  have t1 : Nm.nmLen [97, 98, 43, 99] = 2 := by decide
  have s1 := Nm.itoa_m5
  go_enter Tryd.func10, Tryd.ntmps10
  go_wp2_with (first
    | (go_at_call 13; refine (num_any _ (by decide) _ (by omega) (by omega) _).mono ?_; rintro e w' ⟨rfl, rfl⟩)
    | (go_at_call 16; refine (may_any _ (by decide) _).mono ?_; rintro e w' ⟨rfl, rfl⟩)
    | (go_at_call 15; refine (take_any _ (by decide) _).mono ?_; rintro e w' ⟨rfl, rfl⟩)
    | (go_at_call 14; refine (show_any _ (by omega) (by omega) _ HT.out).mono ?_; rintro e w1 ⟨rfl, hb1⟩))
  have hT2 := (HT.out.below hb1).below ((Below.refl _ w1).alloc (Nat.le_refl _) (.cells #[.string ⟨#[97]⟩, .string ⟨#[97, 50]⟩] 9))
  refine (free_any [97] (by decide) _ [[97], [97, 50]] _ hT2 (rstrs_two w1 [97] [97, 50] 9 _ (by simp))).mono ?_
  rintro e w2 ⟨r, hr, rfl, hb2⟩
  obtain rfl : r = [97, 51] := free_unique hr free_a
  have hb3 : Below w.heap.size w w2 := (hb1.alloc hb1.size (.cells #[.string ⟨#[97]⟩, .string ⟨#[97, 50]⟩] 9)).trans (hb2.mono (by have := hb1.size; simp; omega))
  go_wp2
  go_ret
  exact ⟨rfl, hb3⟩
end Go.Proofs.YthmkmffehbdniaaDoor

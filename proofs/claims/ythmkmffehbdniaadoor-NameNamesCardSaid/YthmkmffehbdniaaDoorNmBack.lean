/- NameBack answers true for all numbers and texts. Conditions: the text is one of Go's; the library's table lies as laid. -/
import Derived.Test.YthmkmffehbdniaaDoorNmG
import Derived.Test.YthmkmffehbdniaaDoorNmN
import Derived.Test.YthmkmffehbdniaaDoorNmRow
import Derived.OpenShut
namespace Go.Proofs.YthmkmffehbdniaaDoor
open Go.RowKit

theorem show_b (n : Int) (h0 : -9223372036854775808 ≤ n) (h1 : n ≤ 9223372036854775807) (w0 w : World) (hb : Below w0.heap.size w0 w) (ht : Tab w0) :
    Calls Tryd.prog 14 #[.int .i64 n] w fun e w' => e = .returned (.string ⟨(Lib.itoa n).toArray⟩) ∧ Below w0.heap.size w0 w' :=
  (show_any n h0 h1 w (ht.below hb)).mono fun _ _ h => ⟨h.1, hb.trans (h.2.mono hb.size)⟩
theorem num_b (s : ByteArray) (hs : s.size ≤ maxLen) (most : Int) (hm0 : -9223372036854775808 ≤ most) (hm1 : most ≤ 9223372036854775807) (w : World) (x y : Int) (h : Nm.num s.data.toList most = (x, y)) :
    Calls Tryd.prog 13 #[.string s, .int .i64 most] w fun e w' => e = .returned (.tuple #[.int .i64 x, .int .i64 y]) ∧ w = w' :=
  (num_any s hs most hm0 hm1 w).mono fun _ _ hp => ⟨by rw [hp.1, h], hp.2⟩
theorem itoa_size (n : Int) (h0 : -9223372036854775808 ≤ n) (h1 : n ≤ 9223372036854775807) : (⟨(Lib.itoa n).toArray⟩ : ByteArray).size ≤ maxLen := by
  have := Lib.itoa_length_le n h0 h1
  show (Lib.itoa n).toArray.size ≤ _
  simp [maxLen]; omega

set_option maxHeartbeats 1000000 in
theorem back_any (n most : Int) (s : ByteArray) (hn : (Lit.int .i64 n).wf = true) (hm : (Lit.int .i64 most).wf = true) (hs : s.size ≤ maxLen) (w : World) (ht : Tab w) :
    Calls Tryd.prog 4 #[.int .i64 n, .int .i64 most, .string s] w (TruePost w) := by
  have h0 : Below w.heap.size w w := Below.refl _ _
  obtain ⟨n0, n1⟩ := bounds_i64 hn
  obtain ⟨m0, m1⟩ := bounds_i64 hm
  have HT := Lib.hid ht
  clear ht hn hm
  by_cases hl : 5000 < s.size
  · unfold maxLen at hs
    go_enter Tryd.func4, Tryd.ntmps4
    go_wp2_with (go_at_call 10; refine (works_b w _ (by assumption) HT.out).mono ?_; rintro e w1 ⟨rfl, hb1⟩)
    go_ret
    exact ⟨rfl, by assumption⟩
  obtain ⟨x, e1, hx, hxc⟩ : ∃ x e1 : Int, Nm.num (Lib.itoa n) most = (x, e1) ∧ ((0 ≤ n ∧ n ≤ most ∧ x = n ∧ e1 = 0) ∨ (0 ≤ n ∧ most < n ∧ x = 0 ∧ e1 = 40) ∨ (n < 0 ∧ x = 0 ∧ e1 = 4)) := by
    rcases Int.lt_or_le n 0 with h | h
    · exact ⟨0, 4, Nm.num_itoa_neg n h most, .inr (.inr ⟨h, rfl, rfl⟩)⟩
    · rcases Int.lt_or_le most n with h2 | h2
      · refine ⟨0, 40, ?_, .inr (.inl ⟨h, h2, rfl, rfl⟩)⟩
        rw [Nm.itoa_pos n h, Nm.num_dec, if_neg (by omega)]
      · refine ⟨n, 0, ?_, .inl ⟨h, h2, rfl, rfl⟩⟩
        rw [Nm.itoa_pos n h, Nm.num_dec, if_pos (by omega)]
        congr 1; omega
  have hxn := fun W => num_b ⟨(Lib.itoa n).toArray⟩ (itoa_size n n0 n1) most m0 m1 W x e1 hx
  obtain ⟨y, f, hy, hyc⟩ : ∃ y f : Int, Nm.num s.data.toList most = (y, f) ∧ ((f = 0 ∧ 0 ≤ y ∧ y ≤ most ∧ Lib.itoa y = s.data.toList) ∨ (y = 0 ∧ f = 4) ∨ (y = 0 ∧ f = 40)) := by
    rcases Nm.num_err (l := s.data.toList) (most := most) with h | ⟨h1, h2 | h2⟩
    · obtain ⟨g1, g2, g3⟩ := Nm.num_ok h
      refine ⟨(Nm.num s.data.toList most).1, (Nm.num s.data.toList most).2, rfl, .inl ⟨h, by omega, by omega, ?_⟩⟩
      rw [g1, Nm.itoa_pos _ (by omega), Int.toNat_natCast, g3]
    · exact ⟨(Nm.num s.data.toList most).1, (Nm.num s.data.toList most).2, rfl, .inr (.inl ⟨h1, h2⟩)⟩
    · exact ⟨(Nm.num s.data.toList most).1, (Nm.num s.data.toList most).2, rfl, .inr (.inr ⟨h1, h2⟩)⟩
  have hyn := fun W => num_b s hs most m0 m1 W y f hy
  have HXN := Lib.hid hxn
  have HYN := Lib.hid hyn
  clear hx hy hxn hyn
  unfold maxLen at hs
  rcases hxc with ⟨h1, h2, rfl, rfl⟩ | ⟨h1, h2, rfl, rfl⟩ | ⟨h1, rfl, rfl⟩ <;> rcases hyc with ⟨rfl, h3, h4, h5⟩ | ⟨rfl, rfl⟩ | ⟨rfl, rfl⟩
  all_goals
    go_enter Tryd.func4, Tryd.ntmps4
    go_wp2_with (first
      | (go_at_call 10; refine (works_b w _ (by assumption) HT.out).mono ?_; rintro e w1 ⟨rfl, hb1⟩)
      | (go_at_call 14; refine (show_b _ (by omega) (by omega) w _ (by assumption) HT.out).mono ?_; rintro e w1 ⟨rfl, hb1⟩)
      | (go_at_call 13; (with_reducible refine (HXN.out _).mono ?_); rintro e w' ⟨rfl, rfl⟩)
      | (go_at_call 13; (with_reducible refine (HYN.out _).mono ?_); rintro e w' ⟨rfl, rfl⟩))
  all_goals go_ret
  all_goals exact ⟨rfl, by assumption⟩
end Go.Proofs.YthmkmffehbdniaaDoor

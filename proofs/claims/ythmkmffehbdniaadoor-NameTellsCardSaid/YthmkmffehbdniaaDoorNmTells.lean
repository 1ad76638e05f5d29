/- NameTells answers true for all bytes, texts and numbers. Conditions: the texts are Go's; the library's table lies as laid. -/
import Derived.Test.YthmkmffehbdniaaDoorNmBack
import Derived.Test.YthmkmffehbdniaaDoorNmR
import Derived.Test.YthmkmffehbdniaaDoorNmS
namespace Go.Proofs.YthmkmffehbdniaaDoor
open Go.RowKit

theorem rnum_b (s : ByteArray) (hs : s.size ≤ maxLen) (most : Int) (hm0 : -9223372036854775808 ≤ most) (hm1 : most ≤ 9223372036854775807) (w : World) (x y : Int) (h : Nm.num s.data.toList most = (x, y)) :
    Calls Tryd.prog 20 #[.string s, .int .i64 most] w fun e w' => e = .returned (.tuple #[.int .i64 x, .int .i64 y]) ∧ w = w' :=
  (rnum_any s hs most hm0 hm1 w).mono fun _ _ hp => ⟨by rw [hp.1, h], hp.2⟩
theorem rcompare_b (a b : ByteArray) (hsa : a.size ≤ maxLen) (hsb : b.size ≤ maxLen) (w0 w : World) (hb : Below w0.heap.size w0 w) : Calls Tryd.prog 25 #[.string a, .string b] w fun e w' => e = .returned (.int .i64 (cmpB a b)) ∧ Below w0.heap.size w0 w' :=
  (rcompare_any a b hsa hsb w).mono fun _ _ h => ⟨h.1, hb.trans (h.2.mono hb.size)⟩

set_option maxHeartbeats 2000000 in
theorem tells_any (b : Int) (s t : ByteArray) (n most : Int) (hb : (Lit.int .u8 b).wf = true) (hs : s.size ≤ maxLen) (hs2 : t.size ≤ maxLen) (hn : (Lit.int .i64 n).wf = true) (hm : (Lit.int .i64 most).wf = true) (w : World) (ht : Tab w) :
    Calls Tryd.prog 8 #[.int .u8 b, .string s, .string t, .int .i64 n, .int .i64 most] w (TruePost w) := by
  have h0 : Below w.heap.size w w := Below.refl _ _
  obtain ⟨n0, n1⟩ := bounds_i64 hn
  obtain ⟨m0, m1⟩ := bounds_i64 hm
  obtain ⟨c, rfl⟩ : ∃ c : UInt8, b = (c.toNat : Int) := by
    obtain ⟨b0, b1⟩ := bounds_u8 hb
    refine ⟨UInt8.ofNat b.toNat, ?_⟩
    rw [UInt8.toNat_ofNat']; omega
  have HT := Lib.hid ht
  clear ht hn hm hb
  have Hs := Lib.hid hs
  have Hs2 := Lib.hid hs2
  unfold maxLen at hs hs2
  by_cases hl : 5000 < s.size ∨ 5000 < t.size
  · by_cases h1 : 5000 < s.size
    rotate_left
    have h2 : 5000 < t.size := by omega
    all_goals
      clear hl
      go_enter Tryd.func8, Tryd.ntmps8
      go_wp2_with (go_at_call 10; refine (works_b w _ (by assumption) HT.out).mono ?_; rintro e w1 ⟨rfl, hb1⟩)
      go_ret
      exact ⟨rfl, by assumption⟩
  · obtain ⟨x, y, hxy⟩ : ∃ x y : Int, Nm.num s.data.toList most = (x, y) := ⟨_, _, rfl⟩
    have hn1 := fun W => num_b s Hs.out most m0 m1 W x y hxy
    have hn2 := fun W => rnum_b s Hs.out most m0 m1 W x y hxy
    obtain ⟨tk, htk⟩ : ∃ tk : ByteArray, tk = ⟨(s.data.toList.take (Nm.nmLen s.data.toList)).toArray⟩ := ⟨_, rfl⟩
    have ht1 := fun W => take_any s Hs.out W
    have ht2 := fun W => rtake_any s Hs.out W
    rw [← htk] at ht1 ht2
    obtain ⟨sh, hsh⟩ : ∃ sh : ByteArray, sh = ⟨(Lib.itoa n).toArray⟩ := ⟨_, rfl⟩
    have hs1 := fun W hb => show_b n n0 n1 w W hb HT.out
    have hs3 := fun W hb => rshow_b n n0 n1 w W hb
    rw [← hsh] at hs1 hs3
    have HN1 := Lib.hid hn1
    have HN2 := Lib.hid hn2
    have HT1 := Lib.hid ht1
    have HT2 := Lib.hid ht2
    have HS1 := Lib.hid hs1
    have HS3 := Lib.hid hs3
    clear hn1 hn2 ht1 ht2 hs1 hs3 hxy htk hsh
    go_enter Tryd.func8, Tryd.ntmps8
    go_wp2_with (first
      | (go_at_call 10; refine (works_b w _ (by assumption) HT.out).mono ?_; rintro e w1 ⟨rfl, hb1⟩)
      | (go_at_call 13; refine (HN1.out _).mono ?_; rintro e w' ⟨rfl, rfl⟩)
      | (go_at_call 20; refine (HN2.out _).mono ?_; rintro e w' ⟨rfl, rfl⟩)
      | (go_at_call 17; refine (letter_any _ _).mono ?_; rintro e w' ⟨rfl, rfl⟩)
      | (go_at_call 21; refine (rletter_any _ _).mono ?_; rintro e w' ⟨rfl, rfl⟩)
      | (go_at_call 16; refine (may_any _ Hs.out _).mono ?_; rintro e w' ⟨rfl, rfl⟩)
      | (go_at_call 22; refine (rmay_any _ Hs.out _).mono ?_; rintro e w' ⟨rfl, rfl⟩)
      | (go_at_call 15; refine (HT1.out _).mono ?_; rintro e w' ⟨rfl, rfl⟩)
      | (go_at_call 23; refine (HT2.out _).mono ?_; rintro e w' ⟨rfl, rfl⟩)
      | (go_at_call 14; refine (HS1.out _ (by assumption)).mono ?_; rintro e w1 ⟨rfl, hb1⟩)
      | (go_at_call 24; refine (HS3.out _ (by assumption)).mono ?_; rintro e w1 ⟨rfl, hb1⟩)
      | (go_at_call 19; refine (compare_b _ _ w _ (by assumption)).mono ?_; rintro e w1 ⟨rfl, hb1⟩)
      | (go_at_call 25; refine (rcompare_b _ _ Hs.out Hs2.out w _ (by assumption)).mono ?_; rintro e w1 ⟨rfl, hb1⟩))
    go_ways
    all_goals go_ret
    all_goals exact ⟨rfl, by assumption⟩
end Go.Proofs.YthmkmffehbdniaaDoor

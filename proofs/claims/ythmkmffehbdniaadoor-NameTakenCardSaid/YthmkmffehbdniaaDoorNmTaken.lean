/- NameTaken answers true for every text. Conditions: the text is one of Go's; the library's table lies as laid. -/
import Derived.Test.YthmkmffehbdniaaDoorNmG
namespace Go.Proofs.YthmkmffehbdniaaDoor
open Go.RowKit

set_option maxHeartbeats 1000000 in
theorem taken_any (s : ByteArray) (hs : s.size ≤ maxLen) (w : World) (ht : Tab w) : Calls Tryd.prog 5 #[.string s] w (TruePost w) := by
  have HT := Lib.hid ht
  clear ht
  have hw := works_any w HT.out
  have HW := Lib.hid hw
  clear hw
  unfold maxLen at hs
  by_cases h5 : 5000 < s.size
  · go_enter Tryd.func5, Tryd.ntmps5
    go_wp2_with fail
    refine HW.out.mono ?_
    rintro e w1 ⟨rfl, hb1⟩
    go_wp2_with fail
    refine (works_any w1 (HT.out.below hb1)).mono ?_
    rintro e w2 ⟨rfl, hb2⟩
    go_wp2_with fail
    go_ret
    exact ⟨rfl, hb1.trans (hb2.mono hb1.size)⟩
  · obtain ⟨t, ht⟩ : ∃ t : ByteArray, t = ⟨(s.data.toList.take (Nm.nmLen s.data.toList)).toArray⟩ := ⟨_, rfl⟩
    obtain ⟨k, hk⟩ : ∃ k, k = Nm.nmLen s.data.toList := ⟨_, rfl⟩
    have hkl : k ≤ s.size := by rw [hk]; simpa using Nm.nmLen_le s.data.toList
    have hts : t.size = k := by rw [ht, hk]; exact take_len _
    have hmt : Nm.may t.data.toList = (decide (0 < k) && decide (k ≤ 32)) := by rw [ht, hk]; exact Nm.may_take _
    have hex : s.extract 0 k = t := by rw [ht, hk, str_take]
    have hstop : k < s.size → Nm.isLet (s.data.toList.getD k 0) = false ∧ (0 < k → Nm.isDig (s.data.toList.getD k 0) = false) := fun h => by rw [hk] at h ⊢; exact Nm.nm_stop (by simpa using h)
    have htk := fun W => take_any s (by unfold maxLen; exact hs) W
    rw [← ht] at htk
    have HTK := Lib.hid htk
    have hte : t.toList.isEmpty = decide (k = 0) := by
      rw [Bool.eq_iff_iff]
      simp only [List.isEmpty_iff, decide_eq_true_eq, Lib.toList_data, ← hts, Lib.size_eq, List.length_eq_zero_iff]
    have hse : s.toList.isEmpty = decide (s.size = 0) := by
      rw [Bool.eq_iff_iff]
      simp only [List.isEmpty_iff, decide_eq_true_eq, Lib.toList_data, Lib.size_eq, List.length_eq_zero_iff]
    have hat : ∀ h : k < s.size, s.data.toList.getD k 0 = s[k] := fun h => by rw [Nm.getD_lt _ _ (by simpa using h)]; rfl
    clear htk ht hk
    have hcase : (t.toList.isEmpty = true ∧ k = 0 ∧ s.toList = []) ∨ (t.toList.isEmpty = true ∧ k = 0 ∧ s.toList.isEmpty = false ∧ ∃ h : 0 < s.size, Nm.isLet s[0] = false) ∨ (t.toList.isEmpty = false ∧ 0 < k ∧ k = s.size) ∨
        (t.toList.isEmpty = false ∧ 0 < k ∧ ((k : Int) == (s.size : Int)) = false ∧ ∃ h : k < s.size, Nm.isLet s[k] = false ∧ ((s[k].toNat : Int) < 48 ∨ 57 < (s[k].toNat : Int))) := by
      rcases Nat.eq_zero_or_pos k with h0 | h0
      · subst h0
        rcases Nat.eq_zero_or_pos s.size with h1 | h1
        · exact .inl ⟨by simp [hte], rfl, by simpa [h1] using hse⟩
        · refine .inr (.inl ⟨by simp [hte], rfl, by rw [hse, decide_eq_false_iff_not]; omega, h1, ?_⟩)
          have := (hstop h1).1
          rwa [hat h1] at this
      · rcases Nat.lt_or_ge k s.size with h1 | h1
        · refine .inr (.inr (.inr ⟨by rw [hte, decide_eq_false_iff_not]; omega, h0, by rw [beq_eq_false_iff_ne]; omega, h1, ?_⟩))
          have := hstop h1
          rw [hat h1] at this
          refine ⟨this.1, ?_⟩
          have h2 := this.2 h0
          rw [Nm.isDig_nat] at h2
          simp at h2
          omega
        · exact .inr (.inr (.inl ⟨by rw [hte, decide_eq_false_iff_not]; omega, h0, by omega⟩))
    clear hstop hse hte hat
    have HM := fun W => may_any t (by unfold maxLen; omega) W
    rw [hmt] at HM
    have HMay := Lib.hid HM
    clear HM hmt
    have hk32 : decide ((k : Int) ≤ 32) = decide (k ≤ 32) := by rw [Bool.eq_iff_iff]; simp; omega
    generalize decide (k ≤ 32) = c32 at hk32 HMay
    rcases hcase with ⟨h1, rfl, h3⟩ | ⟨h1, rfl, h3, h4, h5⟩ | ⟨h1, h2, rfl⟩ | ⟨h1, h2, h3, h4, h5, h6⟩
    rotate_right
    rcases h6 with h6 | h6
    all_goals
      go_enter Tryd.func5, Tryd.ntmps5
      go_wp2_with (first
        | (go_at_call 10; refine HW.out.mono ?_; rintro e w1 ⟨rfl, hb1⟩)
        | (go_at_call 15; refine (HTK.out _).mono ?_; rintro e w' ⟨rfl, rfl⟩)
        | (go_at_call 16; refine (HMay.out _).mono ?_; rintro e w' ⟨rfl, rfl⟩)
        | (go_at_call 17; refine (letter_any _ _).mono ?_; rintro e w' ⟨rfl, rfl⟩))
    all_goals go_ret
    all_goals exact ⟨rfl, hb1⟩
end Go.Proofs.YthmkmffehbdniaaDoor

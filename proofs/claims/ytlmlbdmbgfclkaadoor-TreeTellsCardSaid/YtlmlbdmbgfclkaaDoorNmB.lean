/- Contracts of package name: what is taken of a text; is it a name. Condition: the text's length is a Go length. -/
import Derived.Test.YtlmlbdmbgfclkaaDoorNmA
import Derived.Lib.Strings
namespace Go.Proofs.YtlmlbdmbgfclkaaDoor
open Go.RowKit

theorem str_eq {a : ByteArray} {l : List UInt8} (h : a.data.toList = l) : a = ⟨l.toArray⟩ := by
  obtain ⟨⟨x⟩⟩ := a
  simp at h
  rw [h]
theorem str_take (s : ByteArray) (k : Nat) : s.extract 0 k = ⟨(s.data.toList.take k).toArray⟩ := by
  apply str_eq
  rw [Lib.extract_data]
  simp
theorem ok_at (s : ByteArray) (k : Nat) (h : k < s.size) : Nm.ok s.data.toList k = (Nm.isLet s[k] || (decide (0 < k) && Nm.isDig s[k])) := by
  have h' : k < s.data.toList.length := by simpa using h
  have e : s.data.toList.getD k 0 = s[k] := by rw [Nm.getD_lt _ _ h']; rfl
  unfold Nm.ok
  rw [e]
theorem ok_step {l : List UInt8} {k : Nat} (h : ∀ j, j < k → Nm.ok l j = true) (hk : Nm.ok l k = true) : ∀ j, j < k + 1 → Nm.ok l j = true := fun j hj => by
  by_cases e : j = k
  · rw [e]; exact hk
  · exact h j (by omega)
theorem take_end (s : ByteArray) {k : Nat} (hk : k ≤ s.size) (h : ∀ j, j < k → Nm.ok s.data.toList j = true) (hn : k < s.size → Nm.ok s.data.toList k = false) :
    s.extract 0 k = ⟨(s.data.toList.take (Nm.nmLen s.data.toList)).toArray⟩ := by
  have : Nm.IsTake s.data.toList k := ⟨by simpa using hk, h, fun hl => hn (by simpa using hl)⟩
  rw [str_take, ← this.eq]
theorem ret_string {a b : ByteArray} (h : a = b) : Ending.returned (.string a) = .returned (.string b) := by rw [h]

set_option maxHeartbeats 400000 in
theorem take_any (s : ByteArray) (hs : s.size ≤ maxLen) (w : World) :
    Calls Tryd.prog 56 #[.string s] w fun e w' => e = .returned (.string ⟨(s.data.toList.take (Nm.nmLen s.data.toList)).toArray⟩) ∧ w = w' := by
  unfold maxLen at hs
  go_enter Tryd.func56, Tryd.ntmps56
  go_wp2
  go_loop [3] (fun i => ∃ k : Nat, k ≤ s.size ∧ i = .int .i64 k ∧ ∀ j, j < k → Nm.ok s.data.toList j = true) (fun i => s.size - (intOf i).toNat)
  case atStart => exact ⟨0, Nat.zero_le _, rfl, fun j hj => by omega⟩
  case round =>
    obtain ⟨k, hk, rfl, hok⟩ := hrel
    by_cases hlt : k < s.size
    · go_wp2_with (first | (go_at_call 58; refine (letter_any _ _).mono ?_; rintro e w' ⟨rfl, rfl⟩) | (go_at_call 59; refine (digit_any _ _).mono ?_; rintro e w' ⟨rfl, rfl⟩))
      all_goals have ho := ok_at s k hlt
      · go_round
        case rel => exact ⟨k + 1, by omega, by go_num, ok_step hok (by rw [ho]; simp [*])⟩
        case measure => simp [intOf]; omega
      · go_round
        case rel => exact ⟨k + 1, by omega, by go_num, ok_step hok (by rw [ho]; simp [*])⟩
        case measure => simp [intOf]; omega
      · go_ret
        exact ⟨ret_string (take_end s hk hok fun _ => by rw [ho]; simp [*]), rfl⟩
      · go_ret
        exact ⟨ret_string (take_end s hk hok fun _ => by rw [ho]; simp [*]), rfl⟩
    · go_wp2
      go_ret
      exact ⟨ret_string (take_end s hk hok fun h => absurd h hlt), rfl⟩

theorem take_len (l : List UInt8) : (⟨(l.take (Nm.nmLen l)).toArray⟩ : ByteArray).size = Nm.nmLen l := by
  have := Nm.nmLen_le l
  show (l.take (Nm.nmLen l)).toArray.size = _
  simp [this]
set_option maxHeartbeats 400000 in
theorem may_any (s : ByteArray) (hs : s.size ≤ maxLen) (w : World) :
    Calls Tryd.prog 51 #[.string s] w fun e w' => e = .returned (.bool (Nm.may s.data.toList)) ∧ w = w' := by
  obtain ⟨M, hM⟩ : ∃ M, M = Nm.may s.data.toList := ⟨_, rfl⟩
  rw [← hM]
  have HM := Lib.hid hM
  clear hM
  obtain ⟨t, ht⟩ : ∃ t : ByteArray, t = ⟨(s.data.toList.take (Nm.nmLen s.data.toList)).toArray⟩ := ⟨_, rfl⟩
  have hl := take_len s.data.toList
  have htake := fun wx => take_any s hs wx
  rw [← ht] at hl htake
  have Hl := Lib.hid hl
  have Ht := Lib.hid htake
  clear ht hl htake
  go_enter Tryd.func51, Tryd.ntmps51
  go_wp2_with (go_at_call 56; refine (Ht.out _).mono ?_; rintro e w' ⟨rfl, rfl⟩)
  all_goals go_ret
  all_goals refine ⟨ret_bool ?_, rfl⟩
  all_goals rw [HM.out, Nm.may, ← Hl.out]
  all_goals have hz : s.data.toList.length = s.size := by simp
  all_goals rw [hz, ← Lib.toList_data]
  all_goals rw [Bool.eq_iff_iff]
  all_goals simp [*] <;> omega
end Go.Proofs.YtlmlbdmbgfclkaaDoor

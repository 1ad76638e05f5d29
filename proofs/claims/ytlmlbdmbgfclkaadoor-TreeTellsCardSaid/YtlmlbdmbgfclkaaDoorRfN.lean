/- Contracts of the document's answers on names (bonsairef02): letters, digits, what is taken, names. Conditions: lengths as Go has them. -/
import Derived.Test.YtlmlbdmbgfclkaaDoorNmB
import Derived.IntWalk
import Derived.Lib.Bytealg
namespace Go.Proofs.YtlmlbdmbgfclkaaDoor
open Go.RowKit

set_option maxHeartbeats 400000 in
theorem rletter_any (c : UInt8) (w : World) : Calls Tryd.prog 61 #[.int .u8 c.toNat] w fun e w' => e = .returned (.bool (Nm.isLet c)) ∧ w = w' := by
  rw [Nm.isLet_nat]
  obtain ⟨b, hb⟩ : ∃ b : Nat, b = c.toNat := ⟨_, rfl⟩
  rw [← hb]; clear hb
  go_enter Tryd.func61, Tryd.ntmps61
  go_wp2
  all_goals go_ret
  all_goals refine ⟨ret_bool ?_, rfl⟩
  all_goals rw [Bool.eq_iff_iff]
  all_goals simp
  all_goals omega
set_option maxHeartbeats 400000 in
theorem rdigit_any (c : UInt8) (w : World) : Calls Tryd.prog 62 #[.int .u8 c.toNat] w fun e w' => e = .returned (.bool (Nm.isDig c)) ∧ w = w' := by
  rw [Nm.isDig_nat]
  obtain ⟨b, hb⟩ : ∃ b : Nat, b = c.toNat := ⟨_, rfl⟩
  rw [← hb]; clear hb
  go_enter Tryd.func62, Tryd.ntmps62
  go_wp2
  all_goals go_ret
  all_goals refine ⟨ret_bool ?_, rfl⟩
  all_goals rw [Bool.eq_iff_iff]
  all_goals simp
  all_goals omega

theorem nm_zero {s : ByteArray} (h : s.toList = []) : Nm.nmLen s.data.toList = 0 := by rw [← Lib.toList_data, h]; rfl
theorem nm_zero' {s : ByteArray} (h0 : 0 < s.size) (h : Nm.isLet s[0] = false) : Nm.nmLen s.data.toList = 0 := by
  have ho := ok_at s 0 h0
  rw [h] at ho
  have : Nm.IsTake s.data.toList 0 := ⟨Nat.zero_le _, fun j hj => by omega, fun _ => by simpa using ho⟩
  exact this.eq.symm
theorem ok_first {s : ByteArray} (h0 : 0 < s.size) (h : Nm.isLet s[0] = true) (k : Nat) (hk : k < s.size) : Nm.ok s.data.toList k = (Nm.isLet s[k] || Nm.isDig s[k]) := by
  rw [ok_at s k hk]
  rcases Nat.eq_zero_or_pos k with e | e
  · subst e; rw [h]; simp
  · simp [e]
theorem take_zero {s : ByteArray} (h : Nm.nmLen s.data.toList = 0) : (⟨#[]⟩ : ByteArray) = ⟨(s.data.toList.take (Nm.nmLen s.data.toList)).toArray⟩ := by rw [h]; rfl

set_option maxHeartbeats 1000000 in
theorem rtake_any (s : ByteArray) (hs : s.size ≤ maxLen) (w : World) :
    Calls Tryd.prog 60 #[.string s] w fun e w' => e = .returned (.string ⟨(s.data.toList.take (Nm.nmLen s.data.toList)).toArray⟩) ∧ w = w' := by
  unfold maxLen at hs
  by_cases hz : s.toList = []
  · go_enter Tryd.func60, Tryd.ntmps60
    go_wp2
    go_ret
    exact ⟨ret_string (take_zero (nm_zero hz)), rfl⟩
  have h0 : 0 < s.size := by
    rcases Nat.eq_zero_or_pos s.size with h | h
    · exfalso; apply hz; rw [Lib.toList_data]; exact List.eq_nil_of_length_eq_zero (by simpa using h)
    · exact h
  have hse : s.toList.isEmpty = false := by simpa using hz
  clear hz
  cases hl : Nm.isLet s[0]
  · go_enter Tryd.func60, Tryd.ntmps60
    go_wp2_with (go_at_call 61; refine (rletter_any _ _).mono ?_; rintro e w' ⟨rfl, rfl⟩)
    go_ret
    exact ⟨ret_string (take_zero (nm_zero' h0 hl)), rfl⟩
  · have Hok := Lib.hid (ok_first h0 hl)
    go_enter Tryd.func60, Tryd.ntmps60
    go_wp2_with (go_at_call 61; refine (rletter_any _ _).mono ?_; rintro e w' ⟨rfl, rfl⟩)
    go_loop [3] (fun i => ∃ k : Nat, k ≤ s.size ∧ i = .int .i64 k ∧ ∀ j, j < k → Nm.ok s.data.toList j = true) (fun i => s.size - (intOf i).toNat)
    case atStart => exact ⟨0, Nat.zero_le _, rfl, fun j hj => by omega⟩
    case round =>
      obtain ⟨k, hk, rfl, hok⟩ := hrel
      by_cases hlt : k < s.size
      · go_wp2_with (first | (go_at_call 61; refine (rletter_any _ _).mono ?_; rintro e w' ⟨rfl, rfl⟩) | (go_at_call 62; refine (rdigit_any _ _).mono ?_; rintro e w' ⟨rfl, rfl⟩))
        all_goals have ho := Hok.out k hlt
        all_goals first
          | (go_round
             case rel => exact ⟨k + 1, by omega, by go_num, ok_step hok (by rw [ho]; simp [*])⟩
             case measure => simp [intOf]; omega)
          | (go_ret
             exact ⟨ret_string (take_end s hk hok fun _ => by rw [ho]; simp [*]), rfl⟩)
      · go_wp2
        go_ret
        exact ⟨ret_string (take_end s hk hok fun h => absurd h hlt), rfl⟩

set_option maxHeartbeats 400000 in
theorem rmay_any (s : ByteArray) (hs : s.size ≤ maxLen) (w : World) :
    Calls Tryd.prog 57 #[.string s] w fun e w' => e = .returned (.bool (Nm.may s.data.toList)) ∧ w = w' := by
  obtain ⟨M, hM⟩ : ∃ M, M = Nm.may s.data.toList := ⟨_, rfl⟩
  rw [← hM]
  obtain ⟨t, ht⟩ : ∃ t : ByteArray, t = ⟨(s.data.toList.take (Nm.nmLen s.data.toList)).toArray⟩ := ⟨_, rfl⟩
  have hts : (t.toList == s.toList) = decide (Nm.nmLen s.data.toList = s.data.toList.length) := by
    have hle := Nm.nmLen_le s.data.toList
    rw [ht, Bool.eq_iff_iff, beq_iff_eq, decide_eq_true_eq, Lib.toList_data, Lib.toList_data]
    constructor
    · intro h
      have := congrArg List.length h
      simp only [List.length_take] at this
      omega
    · intro h
      exact List.take_of_length_le (by omega)
  have htake := fun wx => rtake_any s hs wx
  rw [← ht] at htake
  have Ht := Lib.hid htake
  have HM : Hid (M = (decide (s.toList ≠ []) && decide (s.size ≤ 32) && (t.toList == s.toList))) := by
    rw [hM, hts, Lib.toList_data]
    simp [Nm.may, Hid]
  clear ht htake hts hM
  go_enter Tryd.func57, Tryd.ntmps57
  go_wp2_with (go_at_call 60; refine (Ht.out _).mono ?_; rintro e w' ⟨rfl, rfl⟩)
  all_goals go_ret
  all_goals refine ⟨ret_bool ?_, rfl⟩
  all_goals rw [HM.out, Bool.eq_iff_iff]
  all_goals simp [*] <;> omega
end Go.Proofs.YtlmlbdmbgfclkaaDoor

/- The contract of the document's Num (bonsairef02). Conditions: lengths as Go has them. -/
import Derived.Test.YthmkmffehbdniaaDoorNmQ
namespace Go.Proofs.YthmkmffehbdniaaDoor
open Go.RowKit

theorem num_big {s : ByteArray} {most : Int} {k : Nat} (_hk : k < s.size) (hg : Nm.badNum s.data.toList = false) (h : most < (Nm.val (s.data.toList.take (k + 1)) : Int)) : Nm.num s.data.toList most = (0, 40) := by
  have := Nm.val_take_le s.data.toList (k + 1)
  unfold Nm.num
  rw [hg]
  simp only [Bool.false_eq_true, if_false]
  rw [if_neg (by omega)]
theorem num_fit {s : ByteArray} {most : Int} {k : Nat} (hk : s.size ≤ k) (hg : Nm.badNum s.data.toList = false) (h : (Nm.val (s.data.toList.take k) : Int) ≤ most) : Nm.num s.data.toList most = ((Nm.val (s.data.toList.take k) : Int), 0) := by
  have ht : s.data.toList.take k = s.data.toList := List.take_of_length_le (by simpa using hk)
  unfold Nm.num
  rw [hg]
  rw [ht] at h ⊢
  simp only [Bool.false_eq_true, if_false]
  rw [if_pos h]

set_option maxHeartbeats 1000000 in
theorem rnum_any (s : ByteArray) (hs : s.size ≤ maxLen) (most : Int) (hm0 : -9223372036854775808 ≤ most) (hm1 : most ≤ 9223372036854775807) (w : World) :
    Calls Tryd.prog 20 #[.string s, .int .i64 most] w (NumPost s most w) := by
  unfold maxLen at hs
  by_cases hz : s.toList = []
  · have hb := bad_nil hz
    have HB := Lib.hid hb
    clear hb
    go_enter Tryd.func20, Tryd.ntmps20
    go_wp2
    go_ret2
    exact ⟨ret_num (by rw [Nm.num, HB.out]; rfl), rfl⟩
  have h0 : 0 < s.size := by
    rcases Nat.eq_zero_or_pos s.size with h | h
    · exfalso; apply hz; rw [Lib.toList_data]; exact List.eq_nil_of_length_eq_zero (by simpa using h)
    · exact h
  have hse : s.toList.isEmpty = false := by simpa using hz
  have H0 := Lib.hid hz
  clear hz
  by_cases hlead : 1 < (s.size : Int) ∧ ((s[0].toNat : Int) == 48) = true
  · obtain ⟨h1, h2⟩ := hlead
    have hb := bad_zero h1 h0 (.inr h2)
    have HB := Lib.hid hb
    clear hb
    go_enter Tryd.func20, Tryd.ntmps20
    go_wp2
    go_ret2
    exact ⟨ret_num (by rw [Nm.num, HB.out]; rfl), rfl⟩
  have HZ : Hid (1 < (s.size : Int) → (h : 0 < s.size) → ((s[0].toNat : Int) == 48) = false) := fun h1 _ => by
    cases h : ((s[0].toNat : Int) == 48)
    · rfl
    · exact absurd ⟨h1, h⟩ hlead
  have hcase : ((s[0].toNat : Int) == 48) = false ∨ (((s[0].toNat : Int) == 48) = true ∧ (s.size : Int) ≤ 1) := by
    cases h : ((s[0].toNat : Int) == 48)
    · exact .inl rfl
    · refine .inr ⟨rfl, ?_⟩
      rcases Int.lt_or_le 1 (s.size : Int) with h1 | h1
      · exact absurd ⟨h1, h⟩ hlead
      · exact h1
  clear hlead
  rcases hcase with hc | ⟨hc, hc1⟩
  all_goals
    go_enter Tryd.func20, Tryd.ntmps20
    go_wp2
    clear hc
    go_loop [6] (fun i => ∃ k : Nat, k ≤ s.size ∧ i = .int .i64 k ∧ ∀ j (h : j < s.size), j < k → Nm.isDig s[j] = true) (fun i => s.size - (intOf i).toNat)
    case atStart => exact ⟨0, Nat.zero_le _, rfl, fun j _ hj => by omega⟩
    case round =>
      obtain ⟨k, hk, rfl, hd⟩ := hrel
      have HD := Lib.hid hd
      clear hd
      by_cases hlt : k < s.size
      · cases hdk : Nm.isDig s[k]
        · have hb := bad_dig hlt hdk
          have HB := Lib.hid hb
          clear hb
          go_wp2_with (go_at_call 32; refine (rdigit_any _ _).mono ?_; rintro e w' ⟨rfl, rfl⟩)
          go_ret2
          exact ⟨ret_num (by rw [Nm.num, HB.out]; rfl), rfl⟩
        · go_wp2_with (go_at_call 32; refine (rdigit_any _ _).mono ?_; rintro e w' ⟨rfl, rfl⟩)
          go_round
          case rel => exact ⟨k + 1, by omega, by go_num, fun j hj hjk => by
            by_cases e : j = k
            · subst e; exact hdk
            · exact HD.out j hj (by omega)⟩
          case measure => simp [intOf]; omega
      · have hall : ∀ j (h : j < s.size), Nm.isDig s[j] = true := fun j h => HD.out j h (by omega)
        have hg := good_num H0.out HZ.out hall
        have HG := Lib.hid hg
        have HA := Lib.hid hall
        clear hg hall
        go_wp2
        go_loop [7, 8] (fun n i => ∃ k : Nat, k ≤ s.size ∧ i = .int .i64 k ∧ n = .int .i64 (Nm.val (s.data.toList.take k) : Int) ∧ (k = 0 ∨ (Nm.val (s.data.toList.take k) : Int) ≤ most)) (fun _ i => s.size - (intOf i).toNat)
        case atStart => exact ⟨0, Nat.zero_le _, rfl, by simp [Nm.val], .inl rfl⟩
        case round =>
          obtain ⟨k, hk, rfl, rfl, hv⟩ := hrel
          by_cases hlt2 : k < s.size
          · have hdk := HA.out k hlt2
            have hvk := val_at s k hlt2 hdk
            obtain ⟨hb1, hb2⟩ := dig_bd hdk
            have HVK := Lib.hid hvk
            have h00 : k = 0 → (Nm.val (s.data.toList.take k) : Int) = 0 := fun e => by subst e; simp [Nm.val]
            have hsub : IntKind.u8.wrap ((s[k].toNat : Int) - 48) = (s[k].toNat : Int) - 48 := by rw [IntKind.wrap_u8]; omega
            generalize hq : (Nm.val (s.data.toList.take k) : Int) = q at *
            have hq0 : 0 ≤ q := by omega
            clear hq hvk hdk
            by_cases hm : most < 0
            · clear hv h00
              go_wp2
              go_ret2
              exact ⟨ret_num (num_big hlt2 HG.out (by rw [HVK.out]; omega)).symm, rfl⟩
            · have hq1 : q ≤ most := by rcases hv with h | h <;> first | omega | (have := h00 h; omega)
              clear hv h00
              by_cases hdm : (s[k].toNat : Int) - 48 ≤ most
              · by_cases hbig : most < 10 * q + ((s[k].toNat : Int) - 48)
                · have hdiv : (most - ((s[k].toNat : Int) - 48)) / 10 < q := by omega
                  go_wp2
                  go_ret2
                  exact ⟨ret_num (num_big hlt2 HG.out (by rw [HVK.out]; omega)).symm, rfl⟩
                · have hdiv : q ≤ (most - ((s[k].toNat : Int) - 48)) / 10 := by omega
                  go_wp2
                  go_round
                  case rel => exact ⟨k + 1, by omega, by go_num, by rw [HVK.out], .inr (by rw [HVK.out]; omega)⟩
                  case measure => simp [intOf]; omega
              · go_wp2
                all_goals go_ret2
                all_goals exact ⟨ret_num (num_big hlt2 HG.out (by rw [HVK.out]; omega)).symm, rfl⟩
          · have hv2 : (Nm.val (s.data.toList.take k) : Int) ≤ most := by rcases hv with h | h <;> omega
            go_wp2
            go_ret2
            exact ⟨ret_num (num_fit (by omega) HG.out hv2).symm, rfl⟩
end Go.Proofs.YthmkmffehbdniaaDoor

/- The contract of Num: a text's number. Condition: the text's length is a Go length, the limit an int. -/
import Derived.Test.YthmkmffehbdniaaDoorNmB
import Derived.IntWalk
import Derived.WalkMore
import Derived.ScopeJumps
namespace Go.Proofs.YthmkmffehbdniaaDoor
open Go.RowKit

theorem dig_at (s : ByteArray) (k : Nat) (h : k < s.size) : s.data.toList.take (k + 1) = s.data.toList.take k ++ [s[k]] := by
  have h' : k < s.data.toList.length := by simpa using h
  rw [List.take_succ_eq_append_getElem h']; rfl
theorem dig_bd {c : UInt8} (h : Nm.isDig c = true) : 48 ≤ (c.toNat : Int) ∧ (c.toNat : Int) ≤ 57 := by
  rw [Nm.isDig_nat] at h; simp at h; omega
theorem val_at (s : ByteArray) (k : Nat) (h : k < s.size) (hd : Nm.isDig s[k] = true) : (Nm.val (s.data.toList.take (k + 1)) : Int) = 10 * (Nm.val (s.data.toList.take k) : Int) + ((s[k].toNat : Int) - 48) := by
  rw [dig_at s k h, Nm.val_snoc]
  have := dig_bd hd
  omega
theorem ret_num {a b c d : Int} (h : (a, b) = (c, d)) : Ending.returned (.tuple #[.int .i64 a, .int .i64 b]) = .returned (.tuple #[.int .i64 c, .int .i64 d]) := by
  simp only [Prod.mk.injEq] at h; rw [h.1, h.2]

def NumPost (s : ByteArray) (most : Int) (w : World) (e : Ending) (w' : World) : Prop := e = .returned (.tuple #[.int .i64 (Nm.num s.data.toList most).1, .int .i64 (Nm.num s.data.toList most).2]) ∧ w = w'

theorem bad_nil {s : ByteArray} (h : s.toList = []) : Nm.badNum s.data.toList = true := by
  rw [← Lib.toList_data, h]; rfl
theorem bad_empty {s : ByteArray} (h : s.toList.isEmpty = true) : Nm.badNum s.data.toList = true := bad_nil (by simpa using h)
theorem bad_zero {s : ByteArray} (h1 : 1 < (s.size : Int)) (h0 : 0 < s.size) (h : s.toList.isEmpty = true ∨ ((s[0].toNat : Int) == 48) = true) : Nm.badNum s.data.toList = true := by
  rcases h with h | h
  · exact bad_nil (by simpa using h)
  · have e : s.data.toList.getD 0 0 = s[0] := by rw [Nm.getD_lt _ _ (by simpa using h0)]; rfl
    have h2 : s[0] = 48 := by
      apply UInt8.toNat_inj.1
      simp at h
      show s[0].toNat = 48
      omega
    have h3 : 1 < s.data.toList.length := by simp; omega
    unfold Nm.badNum
    rw [e, h2]
    have h4 : (48 : UInt8) == 48 := rfl
    simp only [h3, decide_true, h4, Bool.and_self, Bool.or_true, Bool.true_or]
theorem bad_dig {s : ByteArray} {k : Nat} (h : k < s.size) (hd : Nm.isDig s[k] = false) : Nm.badNum s.data.toList = true := by
  have h' : k < s.data.toList.length := by simpa using h
  have e : s.data.toList[k] = s[k] := rfl
  have h2 : Nm.allDig s.data.toList = false := by
    unfold Nm.allDig
    rw [List.all_eq_false]
    exact ⟨s.data.toList[k], List.getElem_mem h', by rw [e, hd]; simp⟩
  unfold Nm.badNum
  rw [h2]; simp
theorem good_num {s : ByteArray} (h0 : ¬ s.toList = []) (hz : 1 < (s.size : Int) → (h : 0 < s.size) → ((s[0].toNat : Int) == 48) = false) (hd : ∀ j (h : j < s.size), Nm.isDig s[j] = true) : Nm.badNum s.data.toList = false := by
  have hne : s.data.toList ≠ [] := by rw [← Lib.toList_data]; exact h0
  have hl : 0 < s.size := by
    have := List.length_pos_iff.2 hne
    simpa using this
  have e : s.data.toList.getD 0 0 = s[0] := by rw [Nm.getD_lt _ _ (by simpa using hl)]; rfl
  have hA : Nm.allDig s.data.toList = true := by
    unfold Nm.allDig
    rw [List.all_eq_true]
    intro x hx
    obtain ⟨j, hj, rfl⟩ := List.mem_iff_getElem.1 hx
    exact hd j (by simpa using hj)
  unfold Nm.badNum
  rw [e, hA]
  by_cases h1 : 1 < (s.size : Int)
  · have := hz h1 hl
    have h2 : (s[0] == 48) = false := by
      rw [beq_eq_false_iff_ne]
      intro h2
      rw [h2] at this
      exact absurd this (by decide)
    rw [h2]; simpa using hne
  · have h2 : ¬ 1 < s.data.toList.length := by simp; omega
    simp only [h2]; simpa using hne

/-- What holds of n, large when k bytes have been read. -/
def NumRel (s : ByteArray) (most : Int) (k : Nat) (n : Int) (lg : Bool) : Prop :=
  (∀ j (h : j < s.size), j < k → Nm.isDig s[j] = true) ∧ (lg = false → n = Nm.val (s.data.toList.take k)) ∧ (lg = true ↔ most < (Nm.val (s.data.toList.take k) : Int))
theorem numRel_zero (s : ByteArray) (most : Int) : NumRel s most 0 0 (decide (most < 0)) := by
  refine ⟨fun j _ h => by omega, fun _ => by simp [Nm.val], ?_⟩
  simp [Nm.val]
theorem numRel_large {s : ByteArray} {most : Int} {k : Nat} {n : Int} (h : NumRel s most k n true) (hk : k < s.size) (hd : Nm.isDig s[k] = true) (n' : Int) : NumRel s most (k + 1) n' true := by
  refine ⟨fun j hj hlt => ?_, fun h => by simp at h, ?_⟩
  · by_cases e : j = k
    · subst e; exact hd
    · exact h.1 j hj (by omega)
  · have := val_at s k hk hd
    have h2 := h.2.2.1 rfl
    have := dig_bd hd
    simp
    omega
theorem numRel_step {s : ByteArray} {most : Int} {k : Nat} {n : Int} (h : NumRel s most k n false) (hk : k < s.size) (hd : Nm.isDig s[k] = true) (lg : Bool) (n' : Int) (hlg : lg = true ↔ most < 10 * n + ((s[k].toNat : Int) - 48)) (hn : lg = false → n' = 10 * n + ((s[k].toNat : Int) - 48)) : NumRel s most (k + 1) n' lg := by
  have hv := val_at s k hk hd
  rw [← h.2.1 rfl] at hv
  refine ⟨fun j hj hlt => ?_, fun h => by rw [hv]; exact hn h, by rw [hv]; exact hlg⟩
  by_cases e : j = k
  · subst e; exact hd
  · exact h.1 j hj (by omega)
theorem numRel_end {s : ByteArray} {most : Int} {k : Nat} {n : Int} {lg : Bool} (h : NumRel s most k n lg) (hk : s.size ≤ k) (h0 : ¬ s.toList = []) (hz : 1 < (s.size : Int) → (h : 0 < s.size) → ((s[0].toNat : Int) == 48) = false) :
    (if lg = true then (0, 40) else (n, 0) : Int × Int) = Nm.num s.data.toList most := by
  have hg := good_num h0 hz fun j hj => h.1 j hj (by omega)
  have ht : s.data.toList.take k = s.data.toList := List.take_of_length_le (by simpa using hk)
  unfold Nm.num
  rw [hg]
  have h1 := h.2.1; have h2 := h.2.2
  rw [ht] at h1 h2
  cases lg
  · have := h1 rfl
    have h3 : ¬ most < (Nm.val s.data.toList : Int) := fun h => by simpa using h2.2 h
    simp only [Bool.false_eq_true, if_false]
    rw [if_pos (by omega), this]
  · have := h2.1 rfl
    simp only [if_true, Bool.false_eq_true, if_false]
    rw [if_neg (by omega)]

theorem lg_iff (most m c : Int) (_h1 : 48 ≤ c) (_h2 : c ≤ 57) (h3 : 0 ≤ m) : (decide (most < c - 48) || decide ((most - (c - 48)) / 10 < m)) = true ↔ most < 10 * m + (c - 48) := by
  simp; omega
theorem lg_val (most m c : Int) (h1 : 48 ≤ c) (h2 : c ≤ 57) (h3 : 0 ≤ m) (h4 : most ≤ 9223372036854775807) : (decide (most < c - 48) || decide ((most - (c - 48)) / 10 < m)) = false → wrap64 (wrap64 (10 * m) + (c - 48)) = 10 * m + (c - 48) := fun h => by
  have h5 : ¬ most < 10 * m + (c - 48) := fun h6 => by rw [(lg_iff most m c h1 h2 h3).2 h6] at h; cases h
  rw [IntWalk.wrap64_in (10 * m) ⟨by omega, by omega⟩, IntWalk.wrap64_in _ ⟨by omega, by omega⟩]
theorem lg_no {n : Int} (most m c : Int) (h : (!decide (most < c - 48)) = false ∨ (!decide ((most - (c - 48)) / 10 < m)) = false) : (decide (most < c - 48) || decide ((most - (c - 48)) / 10 < m)) = false → m = n := fun h2 => by
  rw [Bool.or_eq_false_iff] at h2
  rw [h2.1, h2.2] at h
  simp at h

set_option maxHeartbeats 1000000 in
theorem num_any (s : ByteArray) (hs : s.size ≤ maxLen) (most : Int) (hm0 : -9223372036854775808 ≤ most) (hm1 : most ≤ 9223372036854775807) (w : World) :
    Calls Tryd.prog 13 #[.string s, .int .i64 most] w (NumPost s most w) := by
  unfold maxLen at hs
  go_enter Tryd.func13, Tryd.ntmps13
  go_wp2
  refine wp_scope_jumps 0 (fun a' w' => w = w' ∧ a'.defers = [] ∧ 5 < a'.tmps.size ∧ Nm.badNum s.data.toList = true) (fun _ _ => 0) rfl ?_ ?_
  · go_wp2
    any_goals (go_step3; first | exact ⟨rfl, rfl, rfl, by simp, bad_nil ‹_›⟩ | exact ⟨rfl, rfl, rfl, by simp, bad_zero ‹_› ‹_› ‹_›⟩ | exact ⟨rfl, rfl, rfl, by simp, bad_empty ‹_›⟩)
    all_goals
      rename ¬ s.toList = [] => g0
      have H0 := Lib.hid g0
      have HZ : Hid (1 < (s.size : Int) → (h : 0 < s.size) → ((s[0].toNat : Int) == 48) = false) := by
        intro h1 h2
        first | omega | exact (‹_ ∧ _›).2
      clear g0
      try (rename s.toList.isEmpty = false ∧ _ => g1; clear g1)
      try (rename s.toList.isEmpty = false => g2; clear g2)
      go_loop [6, 7, 8] (fun n L i => ∃ (k : Nat) (m : Int) (lg : Bool), k ≤ s.size ∧ i = .int .i64 k ∧ n = .int .i64 m ∧ L = .bool lg ∧ NumRel s most k m lg) (fun _ _ i => s.size - (intOf i).toNat)
      case atStart => exact ⟨0, 0, _, Nat.zero_le _, rfl, rfl, rfl, numRel_zero s most⟩
      case round =>
        obtain ⟨k, m, lg, hk, rfl, rfl, rfl, hR⟩ := hrel
        have HR := Lib.hid hR
        clear hR
        by_cases hlt : k < s.size
        · cases hd : Nm.isDig s[k]
          · go_wp2_with (go_at_call 28; refine (digit_any _ _).mono ?_; rintro e w' ⟨rfl, rfl⟩)
            go_step3
            exact ⟨rfl, rfl, rfl, by simp, bad_dig hlt hd⟩
          · have hb := dig_bd hd
            obtain ⟨hb1, hb2⟩ := hb
            have hsub : IntKind.u8.wrap ((s[k].toNat : Int) - 48) = (s[k].toNat : Int) - 48 := by rw [IntKind.wrap_u8]; omega
            cases lg
            · have hm : m ≤ most ∧ 0 ≤ m := by
                have h1 := HR.out.2.1 rfl
                have h2 := HR.out.2.2
                have h3 : ¬ most < (Nm.val (s.data.toList.take k) : Int) := fun h => by simpa using h2.2 h
                omega
              obtain ⟨hm2, hm3⟩ := hm
              go_wp2_with (go_at_call 28; refine (digit_any _ _).mono ?_; rintro e w' ⟨rfl, rfl⟩)
              · go_round
                case rel => exact ⟨k + 1, _, _, by omega, by go_num, rfl, rfl, numRel_step HR.out hlt hd _ _ (lg_iff _ _ _ hb1 hb2 hm3) (lg_val _ _ _ hb1 hb2 hm3 hm1)⟩
                case measure => simp [intOf]; omega
              · go_round
                case rel => exact ⟨k + 1, _, _, by omega, by go_num, rfl, rfl, numRel_step HR.out hlt hd _ _ (lg_iff _ _ _ hb1 hb2 hm3) (lg_no _ _ _ ‹_ ∨ _›)⟩
                case measure => simp [intOf]; omega
              · go_round
                case rel => exact ⟨k + 1, _, true, by omega, by go_num, rfl, rfl, numRel_step HR.out hlt hd _ _ (by simp; omega) (fun h => by cases h)⟩
                case measure => simp [intOf]; omega
            · go_wp2_with (go_at_call 28; refine (digit_any _ _).mono ?_; rintro e w' ⟨rfl, rfl⟩)
              go_round
              case rel => exact ⟨k + 1, _, true, by omega, by go_num, rfl, rfl, numRel_large HR.out hlt hd _⟩
              case measure => simp [intOf]; omega
        · cases lg
          · go_wp2
            simp only [Exit.jump]
            refine bodyPost_ret (results_tmp2 rfl _ _ _) rfl ?_
            refine ⟨ret_num ?_, rfl⟩
            exact numRel_end HR.out (by omega) H0.out HZ.out
          · go_wp2
            simp only [Exit.jump]
            refine bodyPost_ret (results_tmp2 rfl _ _ _) rfl ?_
            refine ⟨ret_num ?_, rfl⟩
            exact numRel_end HR.out (by omega) H0.out HZ.out
  · rintro ⟨tmps, defers⟩ w' ⟨rfl, hd, hsz, hbad⟩
    dsimp only at hd hsz
    subst hd
    go_wp2
    simp only [Exit.jump]
    refine bodyPost_ret (results_tmp2 rfl _ _ _) rfl ?_
    refine ⟨?_, rfl⟩
    have e1 : ((tmps.setIfInBounds 4 (Value.int IntKind.i64 0)).setIfInBounds 5 (Value.int IntKind.i64 4)).getD 4 undef = .int .i64 0 := by
      simp [Array.getD_eq_getD_getElem?, show 4 < tmps.size by omega]
    have e2 : ((tmps.setIfInBounds 4 (Value.int IntKind.i64 0)).setIfInBounds 5 (Value.int IntKind.i64 4)).getD 5 undef = .int .i64 4 := by
      simp [Array.getD_eq_getD_getElem?, hsz]
    dsimp only
    rw [e1, e2]
    exact ret_num (by rw [Nm.num, hbad]; rfl)
end Go.Proofs.YthmkmffehbdniaaDoor

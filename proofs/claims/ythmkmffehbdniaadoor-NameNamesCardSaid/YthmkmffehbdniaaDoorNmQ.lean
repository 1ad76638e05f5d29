/- Contracts of the document's answers (bonsairef02), more: a number's text, how two texts stand. Conditions: lengths as Go has them. -/
import Derived.Test.YthmkmffehbdniaaDoorNmP
import Derived.Test.YthmkmffehbdniaaDoorNmN
import Derived.Test.YthmkmffehbdniaaDoorMem
import Derived.Lib.ItoaLen
namespace Go.Proofs.YthmkmffehbdniaaDoor
open Go.RowKit

namespace Nm
open Lib
theorem cmp_step (a b : List UInt8) (k : Nat) (ha : k < a.length) (hb : k < b.length) :
    compareBytes (a.drop k) (b.drop k) = if a[k] < b[k] then -1 else if b[k] < a[k] then 1 else compareBytes (a.drop (k + 1)) (b.drop (k + 1)) := by
  rw [List.drop_eq_getElem_cons ha, List.drop_eq_getElem_cons hb, compareBytes]
theorem cmp_end (a b : List UInt8) (k : Nat) (h : a.length ≤ k ∨ b.length ≤ k) (ha : k ≤ a.length) (hb : k ≤ b.length) :
    compareBytes (a.drop k) (b.drop k) = if a.length < b.length then -1 else if b.length < a.length then 1 else 0 := by
  by_cases h1 : a.length ≤ k
  · have e : a.drop k = [] := List.drop_eq_nil_of_le h1
    rw [e]
    by_cases h2 : b.length ≤ k
    · have e2 : b.drop k = [] := List.drop_eq_nil_of_le h2
      rw [e2, if_neg (by omega), if_neg (by omega)]; rfl
    · rw [List.drop_eq_getElem_cons (by omega), if_pos (by omega)]; rfl
  · have e2 : b.drop k = [] := List.drop_eq_nil_of_le (by omega)
    rw [e2, List.drop_eq_getElem_cons (by omega), if_neg (by omega), if_pos (by omega)]; rfl
end Nm
theorem ret_i64 {a b : Int} (h : a = b) : Ending.returned (.int .i64 a) = .returned (.int .i64 b) := by rw [h]

theorem cmp_at (a b : ByteArray) (k : Nat) (ha : k < a.size) (hb : k < b.size) :
    Lib.compareBytes (a.data.toList.drop k) (b.data.toList.drop k) = if (a[k].toNat : Int) < (b[k].toNat : Int) then -1 else if (b[k].toNat : Int) < (a[k].toNat : Int) then 1 else Lib.compareBytes (a.data.toList.drop (k + 1)) (b.data.toList.drop (k + 1)) := by
  have h1 := Nm.cmp_step a.data.toList b.data.toList k (by simpa using ha) (by simpa using hb)
  have e1 : a.data.toList[k]'(by simpa using ha) = a[k] := rfl
  have e2 : b.data.toList[k]'(by simpa using hb) = b[k] := rfl
  rw [e1, e2] at h1
  simp only [UInt8.lt_iff_toNat_lt] at h1
  rw [h1]
  simp only [Int.ofNat_lt]

set_option maxHeartbeats 1000000 in
theorem rcompare_any (a b : ByteArray) (hsa : a.size ≤ maxLen) (_hsb : b.size ≤ maxLen) (w : World) :
    Calls Tryd.prog 25 #[.string a, .string b] w fun e w' => e = .returned (.int .i64 (cmpB a b)) ∧ Below w.heap.size w w' := by
  unfold maxLen at hsa _hsb
  go_enter Tryd.func25, Tryd.ntmps25
  go_wp2
  go_loopw [5] (fun i wr => ∃ k : Nat, k ≤ a.size ∧ k ≤ b.size ∧ i = .int .i64 k ∧ Hid (cmpB a b = Lib.compareBytes (a.data.toList.drop k) (b.data.toList.drop k)) ∧ Below w.heap.size w wr) (fun i _ => a.size - (intOf i).toNat)
  case atStart => exact ⟨0, Nat.zero_le _, Nat.zero_le _, rfl, by simp [Hid, cmpB], Below.refl _ _⟩
  case round =>
    obtain ⟨k, hka, hkb, rfl, hC, hB⟩ := hrel
    by_cases hlt : k < a.size ∧ k < b.size
    · obtain ⟨h1, h2⟩ := hlt
      have hat := cmp_at a b k h1 h2
      have Hat := Lib.hid hat
      clear hat
      have i1 : (0 : Int) ≤ (k : Int) := by omega
      have i2 : (k : Int) < (a.size : Int) := by omega
      have i3 : (k : Int) < (b.size : Int) := by omega
      by_cases hc1 : (a[k].toNat : Int) < (b[k].toNat : Int)
      · go_wp2
        go_quiet (fail)
        go_wp2
        go_ret
        exact ⟨ret_i64 (by rw [hC.out, Hat.out, if_pos hc1]), by repeat (first | exact hB | apply below_drewN)⟩
      · by_cases hc2 : (b[k].toNat : Int) < (a[k].toNat : Int)
        · go_wp2
          go_quiet (fail)
          go_wp2
          go_quiet (fail)
          go_wp2
          go_ret
          exact ⟨ret_i64 (by rw [hC.out, Hat.out, if_neg (by omega), if_pos hc2]), by repeat (first | exact hB | apply below_drewN)⟩
        · go_wp2
          go_quiet (fail)
          go_wp2
          go_quiet (fail)
          go_wp2
          go_roundw
          case rel => exact ⟨k + 1, by omega, by omega, by go_num, by show _ = _; rw [hC.out, Hat.out, if_neg (by omega), if_neg (by omega)], by repeat (first | exact hB | apply below_drewN)⟩
          case measure => simp [intOf]; omega
    · have hend := Nm.cmp_end a.data.toList b.data.toList k (by simp; omega) (by simpa using hka) (by simpa using hkb)
      have hz1 : a.data.toList.length = a.size := by simp
      have hz2 : b.data.toList.length = b.size := by simp
      rw [hz1, hz2] at hend
      have Hend := Lib.hid hend
      clear hend hz1 hz2
      go_wp2
      all_goals go_ret
      all_goals exact ⟨ret_i64 (by rw [hC.out, Hend.out]; first | rw [if_pos (by omega)] | rw [if_neg (by omega), if_pos (by omega)] | rw [if_neg (by omega), if_neg (by omega)]), hB⟩

theorem u64_neg (n : Int) (h0 : -9223372036854775808 ≤ n) (h : n < 0) : IntKind.u64.wrap (-(IntKind.u64.wrap n)) = ((n.natAbs : Nat) : Int) := by
  rw [IntKind.wrap_u64, IntKind.wrap_u64]; omega
theorem u64_pos (n : Int) (h1 : n ≤ 9223372036854775807) (h : 0 ≤ n) : IntKind.u64.wrap n = ((n.natAbs : Nat) : Int) := by
  rw [IntKind.wrap_u64]; omega
theorem conv_one (W : World) (x : Int) (h0 : 0 ≤ x) (hx : x < 256) : (convert 35 9 (.slice (some ⟨W.heap.size, 0, none⟩) 1 1)).run Tryd.prog (W.alloc (.cells #[.int .u8 x] 5)) = .ok (.string ⟨[UInt8.ofNat x.toNat].toArray⟩) (W.alloc (.cells #[.int .u8 x] 5)) := by
  refine run_convert_bytes_back (P := Tryd.prog) _ 35 9 5 ⟨W.heap.size, 0, none⟩ 1 [UInt8.ofNat x.toNat] Tryd.underlying35 Tryd.underlying5 Tryd.underlying9 ?_
  intro j hj
  have hj0 : j = 0 := by simpa using hj
  subst hj0
  have hx2 : ((UInt8.ofNat x.toNat).toNat : Int) = x := by rw [UInt8.toNat_ofNat']; omega
  simp only [List.getElem_cons_zero, hx2]
  simp [Addr.add]
theorem dec_cons {m u : Nat} {l : List UInt8} (h : Lib.decDigits m = Lib.decDigits u ++ l) (hu : 9 < u) : Lib.decDigits m = Lib.decDigits (u / 10) ++ UInt8.ofNat (48 + (u : Int) % 10).toNat :: l := by
  have e : (48 + (u : Int) % 10).toNat = 48 + u % 10 := by omega
  rw [h, e, Nm.dec_big (by omega), List.append_assoc]; rfl
theorem dec_last {m u : Nat} {l : List UInt8} (h : Lib.decDigits m = Lib.decDigits u ++ l) (hu : u ≤ 9) : Lib.decDigits m = UInt8.ofNat (48 + (u : Int)).toNat :: l := by
  have e : (48 + (u : Int)).toNat = 48 + u := by omega
  rw [h, e, Nm.dec_small (by omega)]; rfl
theorem cat_l (a b : List UInt8) : (⟨a.toArray⟩ : ByteArray) ++ ⟨b.toArray⟩ = ⟨(a ++ b).toArray⟩ := by
  apply str_eq
  simp
theorem show_neg {n : Int} {m : Nat} {l : List UInt8} {c d : UInt8} (hn : n < 0) (hm : m = n.natAbs) (h : Lib.decDigits m = d :: l) (hc : c = d) : (⟨[45].toArray⟩ : ByteArray) ++ ⟨[c].toArray⟩ ++ ⟨l.toArray⟩ = ⟨(Lib.itoa n).toArray⟩ := by
  rw [cat_l, cat_l, hc]
  unfold Lib.itoa
  rw [if_pos hn, ← hm, h]; rfl
theorem show_pos {n : Int} {m : Nat} {l : List UInt8} {c d : UInt8} (hn : 0 ≤ n) (hm : m = n.natAbs) (h : Lib.decDigits m = d :: l) (hc : c = d) : (⟨[c].toArray⟩ : ByteArray) ++ ⟨l.toArray⟩ = ⟨(Lib.itoa n).toArray⟩ := by
  have e : n.toNat = m := by omega
  rw [cat_l, hc]
  unfold Lib.itoa
  rw [if_neg (by omega), e, h]; rfl
set_option maxHeartbeats 1000000 in
theorem rshow_any (n : Int) (h0 : -9223372036854775808 ≤ n) (h1 : n ≤ 9223372036854775807) (w : World) :
    Calls Tryd.prog 24 #[.int .i64 n] w fun e w' => e = .returned (.string ⟨(Lib.itoa n).toArray⟩) ∧ Below w.heap.size w w' := by
  obtain ⟨m, hm⟩ : ∃ m : Nat, m = n.natAbs := ⟨_, rfl⟩
  have hm8 : m ≤ 9223372036854775808 := by omega
  have hml : (Lib.decDigits m).length ≤ 20 := by rw [Lib.decDigits_length]; exact Lib.nDigits_le20 m (by omega)
  have HML := Lib.hid hml
  have HM := Lib.hid hm
  clear hml
  by_cases hn : n < 0
  · have e1 := u64_neg n h0 hn
    rw [← hm] at e1
    clear hm
    go_enter Tryd.func24, Tryd.ntmps24
    go_wp2
    clear e1
    go_loopw [3, 5] (fun U S wr => ∃ (u : Nat) (l : List UInt8), U = .int .u64 u ∧ S = .string ⟨l.toArray⟩ ∧ u ≤ 9223372036854775808 ∧ Hid (Lib.decDigits m = Lib.decDigits u ++ l) ∧ Below w.heap.size w wr) (fun U _ _ => (intOf U).toNat)
    case atStart => exact ⟨m, [], rfl, rfl, hm8, by simp [Hid], Below.refl _ _⟩
    case round =>
      obtain ⟨u, l, rfl, rfl, hu, hD, hB⟩ := hrel
      have hl : l.length ≤ 20 := by have := HML.out; rw [hD.out] at this; simp at this; omega
      by_cases h9 : 9 < u
      · have hcv := conv_one wr (48 + (u : Int) % 10) (by omega) (by omega)
        obtain ⟨c, hc⟩ : ∃ c, Hid (c = UInt8.ofNat (48 + (u : Int) % 10).toNat) := ⟨_, rfl⟩
        rw [← hc.out] at hcv
        go_wp2
        go_roundw
        case rel => exact ⟨u / 10, c :: l, by go_num, by rw [cat_l]; rfl, by omega, by show _ = _; rw [hc.out]; exact dec_cons hD.out h9, hB.alloc hB.size _⟩
        case measure => simp [intOf]; omega
      · have hcv := conv_one wr (48 + (u : Int)) (by omega) (by omega)
        obtain ⟨c, hc⟩ : ∃ c, Hid (c = UInt8.ofNat (48 + (u : Int)).toNat) := ⟨_, rfl⟩
        rw [← hc.out] at hcv
        go_wp2
        go_ret
        exact ⟨ret_string (show_neg hn HM.out (dec_last hD.out (by omega)) hc.out), hB.alloc hB.size _⟩
  · have e1 := u64_pos n h1 (by omega)
    rw [← hm] at e1
    clear hm
    go_enter Tryd.func24, Tryd.ntmps24
    go_wp2
    clear e1
    go_loopw [3, 5] (fun U S wr => ∃ (u : Nat) (l : List UInt8), U = .int .u64 u ∧ S = .string ⟨l.toArray⟩ ∧ u ≤ 9223372036854775808 ∧ Hid (Lib.decDigits m = Lib.decDigits u ++ l) ∧ Below w.heap.size w wr) (fun U _ _ => (intOf U).toNat)
    case atStart => exact ⟨m, [], rfl, rfl, hm8, by simp [Hid], Below.refl _ _⟩
    case round =>
      obtain ⟨u, l, rfl, rfl, hu, hD, hB⟩ := hrel
      have hl : l.length ≤ 20 := by have := HML.out; rw [hD.out] at this; simp at this; omega
      by_cases h9 : 9 < u
      · have hcv := conv_one wr (48 + (u : Int) % 10) (by omega) (by omega)
        obtain ⟨c, hc⟩ : ∃ c, Hid (c = UInt8.ofNat (48 + (u : Int) % 10).toNat) := ⟨_, rfl⟩
        rw [← hc.out] at hcv
        go_wp2
        go_roundw
        case rel => exact ⟨u / 10, c :: l, by go_num, by rw [cat_l]; rfl, by omega, by show _ = _; rw [hc.out]; exact dec_cons hD.out h9, hB.alloc hB.size _⟩
        case measure => simp [intOf]; omega
      · have hcv := conv_one wr (48 + (u : Int)) (by omega) (by omega)
        obtain ⟨c, hc⟩ : ∃ c, Hid (c = UInt8.ofNat (48 + (u : Int)).toNat) := ⟨_, rfl⟩
        rw [← hc.out] at hcv
        go_wp2
        go_ret
        exact ⟨ret_string (show_pos (by omega) HM.out (dec_last hD.out (by omega)) hc.out), hB.alloc hB.size _⟩
end Go.Proofs.YthmkmffehbdniaaDoor

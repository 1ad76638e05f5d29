/- The contract of the document's Free (bonsairef02). Conditions: lengths as Go has them. -/
import Derived.Test.YthmkmffehbdniaaDoorNmQ
import Derived.Test.YthmkmffehbdniaaDoorNmF
namespace Go.Proofs.YthmkmffehbdniaaDoor
open Go.RowKit

theorem rshow_b (n : Int) (h0 : -9223372036854775808 ≤ n) (h1 : n ≤ 9223372036854775807) (w0 w : World) (hb : Below w0.heap.size w0 w) :
    Calls Tryd.prog 24 #[.int .i64 n] w fun e w' => e = .returned (.string ⟨(Lib.itoa n).toArray⟩) ∧ Below w0.heap.size w0 w' :=
  (rshow_any n h0 h1 w).mono fun _ _ h => ⟨h.1, hb.trans (h.2.mono hb.size)⟩
theorem has_snoc (us : List (List UInt8)) (x : List UInt8) (k : Nat) (h : k < us.length) : has (us.take (k + 1)) x = (has (us.take k) x || (us.getD k [] == x)) := by
  rw [List.take_succ_eq_append_getElem h, Bool.eq_iff_iff]
  simp only [has, decide_eq_true_eq, List.mem_append, List.mem_singleton, Bool.or_eq_true, beq_iff_eq]
  have e : us.getD k [] = us[k] := by simp [h]
  rw [e]
  exact ⟨fun h => h.imp id Eq.symm, fun h => h.imp id Eq.symm⟩
theorem tryAt_maxLen (st : List UInt8) (k : Nat) (h : st.length ≤ 4611686018427387904) : (⟨(Nm.tryAt st k).toArray⟩ : ByteArray).size ≤ maxLen := by
  have := Nm.tryAt_len st k
  show (Nm.tryAt st k).toArray.size ≤ _
  simp [maxLen]; omega
theorem rmay_l (l : List UInt8) (hl : (⟨l.toArray⟩ : ByteArray).size ≤ maxLen) (w : World) :
    Calls Tryd.prog 22 #[.string ⟨l.toArray⟩] w fun e w' => e = .returned (.bool (Nm.may l)) ∧ w = w' := rmay_any ⟨l.toArray⟩ hl w

set_option maxHeartbeats 1000000 in
theorem rfree_pos (st : List UInt8) (hst : st.length ≤ 4611686018427387904) (b off c : Nat) (us : List (List UInt8)) (w : World) (hl : us.length ≤ maxLen) (hb : b < w.heap.size)
    (hc : ∀ j, j < us.length → w.cell? ⟨b, off + j, none⟩ = some (.string ⟨(us.getD j []).toArray⟩)) :
    Calls Tryd.prog 12 #[.string ⟨st.toArray⟩, .slice (some ⟨b, off, none⟩) us.length c] w (FreePost st us w) := by
  unfold maxLen at hl
  have hmay := fun k W => rmay_l (Nm.tryAt st k) (tryAt_maxLen st k hst) W
  have HM := Lib.hid hmay
  have HC := Lib.hid hc
  clear hmay hc
  have hst0 : st = Nm.tryAt st 0 := rfl
  cases hm0 : Nm.may (Nm.tryAt st 0)
  · have HM0 := Lib.hid hm0
    have hcall := HM.out 0 w
    rw [hm0] at hcall
    have HCall := Lib.hid hcall
    clear hm0 hst0 hcall
    go_enter Tryd.func12, Tryd.ntmps12
    go_wp2_with (go_at_call 22; refine HCall.out.mono ?_; rintro e w' ⟨rfl, rfl⟩)
    go_ret
    exact ⟨[], .inr ⟨0, fun i hi => by omega, HM0.out, fun i hi => by omega, rfl⟩, rfl, Below.refl _ _⟩
  · have HM0 := Lib.hid hm0
    have hcall := HM.out 0 w
    rw [hm0] at hcall
    have HCall := Lib.hid hcall
    clear hm0 hst0 hcall
    go_enter Tryd.func12, Tryd.ntmps12
    go_wp2_with (go_at_call 22; refine HCall.out.mono ?_; rintro e w' ⟨rfl, rfl⟩)
    go_loopw [5, 6] (fun s i wr => ∃ k : Nat, k ≤ Nm.lim ∧ s = .string ⟨(Nm.tryAt st k).toArray⟩ ∧ i = .int .i64 (wrap64 ((k : Int) + 2)) ∧ Below w.heap.size w wr ∧ Hid (Tried st k) ∧ Hid (∀ i, i < k → Nm.tryAt st i ∈ us)) (fun _ i _ => Nm.mu i)
    case atStart => exact ⟨0, Nat.zero_le _, rfl, by rw [wrap_two], Below.refl _ _, fun i hi => by omega, fun i hi => by omega⟩
    case round =>
      obtain ⟨k, hk, rfl, rfl, hB, hT, hU⟩ := hrel
      cases hmk : Nm.may (Nm.tryAt st k)
      · have hcall := HM.out k wr
        rw [hmk] at hcall
        have HCall2 := Lib.hid hcall
        have HMK := Lib.hid hmk
        clear hcall hmk
        go_wp2_with (go_at_call 22; refine HCall2.out.mono ?_; rintro e w' ⟨rfl, rfl⟩)
        go_ret
        exact ⟨[], .inr ⟨k, hT.out, HMK.out, hU.out, rfl⟩, rfl, hB⟩
      · have hcall := HM.out k wr
        rw [hmk] at hcall
        have HCall2 := Lib.hid hcall
        have HMK := Lib.hid hmk
        have hk1 : k < Nm.lim := by
          by_cases e : k = Nm.lim
          · rw [e, Nm.lim_not] at hmk; cases hmk
          · omega
        clear hcall hmk
        obtain ⟨x, hx⟩ : ∃ x, Hid (x = Nm.tryAt st k) := ⟨_, rfl⟩
        go_wp2_with (go_at_call 22; refine HCall2.out.mono ?_; rintro e w' ⟨rfl, rfl⟩)
        go_loop [7, 8] (fun h i => ∃ j : Nat, j ≤ us.length ∧ i = .int .i64 j ∧ h = .bool (has (us.take j) (Nm.tryAt st k))) (fun _ i => us.length - (intOf i).toNat)
        case atStart => exact ⟨0, Nat.zero_le _, rfl, by simp [has]⟩
        case round =>
          obtain ⟨j, hj, rfl, rfl⟩ := hrel
          by_cases hlt : j < us.length
          · have hcell : wr.cell? ⟨b, off + j, none⟩ = some (.string ⟨(us.getD j []).toArray⟩) := (hB.cell (p := ⟨b, off + j, none⟩) hb).trans (HC.out j hlt)
            have hsn := has_snoc us (Nm.tryAt st k) j hlt
            have HSN := Lib.hid hsn
            clear hsn
            generalize us.getD j [] = y at *
            cases hh : has (us.take j) (Nm.tryAt st k)
            · go_wp2
              go_round
              case rel => exact ⟨j + 1, by omega, by go_num, by rw [HSN.out, hh]; rfl⟩
              case measure => simp [intOf]; omega
            · go_wp2
              go_round
              case rel => exact ⟨j + 1, by omega, by go_num, by rw [HSN.out, hh]; rfl⟩
              case measure => simp [intOf]; omega
          · have hj' : us.take j = us := List.take_of_length_le (by omega)
            rw [hj']
            clear hj'
            cases hh : has us (Nm.tryAt st k)
            · have HH := Lib.hid hh
              clear hh
              go_wp2
              go_ret
              exact ⟨Nm.tryAt st k, .inl ⟨k, tried_succ hT.out HMK.out, hU.out, of_decide_eq_false HH.out, rfl⟩, rfl, hB⟩
            · have HH := Lib.hid hh
              clear hh
              have hil : (Lib.itoa (wrap64 ((k : Int) + 2))).length ≤ 21 := Lib.itoa_length_le _ (Nm.wrap_bd _).1 (Nm.wrap_bd _).2
              have hshow := rshow_b _ (Nm.wrap_bd ((k : Int) + 2)).1 (Nm.wrap_bd ((k : Int) + 2)).2 w wr hB
              obtain ⟨it, hit⟩ : ∃ it, Hid (it = Lib.itoa (wrap64 ((k : Int) + 2))) := ⟨_, rfl⟩
              rw [← hit.out] at hil hshow
              have HS := Lib.hid hshow
              clear hshow
              go_wp2_with (go_at_call 24; refine HS.out.mono ?_; rintro e w2 ⟨rfl, hb2⟩)
              go_roundw
              case rel => exact ⟨k + 1, by omega, by rw [Nm.tryAt_succ, ← hit.out, cat_l], by rw [Nm.wrap_succ], hb2, tried_succ hT.out HMK.out, fun i hi => by
                by_cases e : i = k
                · rw [e]; exact of_decide_eq_true HH.out
                · exact hU.out i (by omega)⟩
              case measure => exact Nm.mu_step k hk1

set_option maxHeartbeats 1000000 in
theorem rfree_nil (st : List UInt8) (hst : st.length ≤ 4611686018427387904) (A : Option Addr) (c : Nat) (w : World) :
    Calls Tryd.prog 12 #[.string ⟨st.toArray⟩, .slice A 0 c] w (FreePost st [] w) := by
  have hcall := rmay_l (Nm.tryAt st 0) (tryAt_maxLen st 0 hst) w
  have hst0 : Nm.tryAt st 0 = st := rfl
  rw [hst0] at hcall
  cases hm0 : Nm.may st
  · have HM0 := Lib.hid hm0
    rw [hm0] at hcall
    have HCall := Lib.hid hcall
    clear hm0 hst0 hcall
    go_enter Tryd.func12, Tryd.ntmps12
    go_wp2_with (go_at_call 22; refine HCall.out.mono ?_; rintro e w' ⟨rfl, rfl⟩)
    go_ret
    exact ⟨[], .inr ⟨0, fun i hi => by omega, HM0.out, fun i hi => by omega, rfl⟩, rfl, Below.refl _ _⟩
  · have HM0 := Lib.hid hm0
    rw [hm0] at hcall
    have HCall := Lib.hid hcall
    clear hm0 hst0 hcall
    go_enter Tryd.func12, Tryd.ntmps12
    go_wp2_with (go_at_call 22; refine HCall.out.mono ?_; rintro e w' ⟨rfl, rfl⟩)
    refine wp_loop_once ?_
    go_wp2_with (go_at_call 22; refine HCall.out.mono ?_; rintro e w' ⟨rfl, rfl⟩)
    refine wp_loop_once ?_
    go_wp2
    go_ret
    exact ⟨st, .inl ⟨0, fun i hi => by obtain rfl : i = 0 := by omega
                                       exact HM0.out, fun i hi => by omega, by simp, rfl⟩, rfl, Below.refl _ _⟩

theorem rfree_any (st : List UInt8) (hst : st.length ≤ 4611686018427387904) (v : Value) (us : List (List UInt8)) (w : World) (hus : RStrs w w.heap.size v us) :
    Calls Tryd.prog 12 #[.string ⟨st.toArray⟩, v] w (FreePost st us w) := by
  obtain ⟨A, c, rfl, hl, hc⟩ := hus
  rcases Nat.eq_zero_or_pos us.length with h0 | h0
  · obtain rfl : us = [] := List.eq_nil_of_length_eq_zero h0
    exact rfree_nil st hst A c w
  · obtain ⟨b, off, rfl, hb, _⟩ := hc 0 h0
    refine rfree_pos st hst b off c us w hl hb fun j hj => ?_
    obtain ⟨b', off', e, _, h⟩ := hc j hj
    injection e with e
    injection e with e1 e2
    rw [e1, e2]; exact h
end Go.Proofs.YthmkmffehbdniaaDoor

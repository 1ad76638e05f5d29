/- The contract of the iterator over the names of a stem. Conditions: the library's table lies below the block number that a round keeps. -/
import Derived.RangeFuncNested
import Derived.RangeFuncBound
import Derived.RangeFuncCalls
import Derived.RangeFuncLeaves
import Derived.RangeFuncFrom
import Derived.Shelf.Abstract
import Derived.Shelf.RegionOpen
import Derived.Test.YthmkmffehbdniaaDoorNmD
import Derived.OwnWalkIn
import Derived.TacticsInMore
import Derived.LoopNIn
import Derived.LoopIn
import Derived.Lib.ItoaLen
import Derived.Lib.ItoaMem
namespace Go.Proofs.YthmkmffehbdniaaDoor
open Go.RowKit Go.Shelf
attribute [local go_sem] Oper.semAt_some

namespace Nm
/-- The names of a stem that are tried, one behind the other. -/
def tryAt (st : List UInt8) (i : Nat) : List UInt8 := if i = 0 then st else st ++ Lib.itoa (wrap64 ((i : Int) + 1))
def tries (st : List UInt8) (k : Nat) : List (List UInt8) := (List.range k).map (tryAt st)
theorem tries_succ (st : List UInt8) (k : Nat) : tries st (k + 1) = tries st k ++ [tryAt st k] := by simp [tries, List.range_succ]
theorem tries_length (st : List UInt8) (k : Nat) : (tries st k).length = k := by simp [tries]
/-- So many names are tried at most. -/
def lim : Nat := 9223372036854775807
def big : Int := 18446744073709551616
def muI (x : Int) : Nat := if x < 0 then (-x).toNat else (big - x).toNat
def mu (v : Value) : Nat := muI (intOf v)
theorem mu_int (x : Int) : mu (.int .i64 x) = muI x := rfl
theorem mu_core (a b : Int) (h : (0 ≤ a ∧ 0 ≤ b ∧ b = a + 1 ∧ b ≤ big) ∨ (0 ≤ a ∧ b < 0 ∧ -b < big - a) ∨ (a < 0 ∧ b < 0 ∧ b = a + 1)) : muI b < muI a := by
  unfold muI
  generalize big = M at h ⊢
  rcases h with ⟨h1, h2, h3, h4⟩ | ⟨h1, h2, h3⟩ | ⟨h1, h2, h3⟩
  · rw [if_neg (by omega), if_neg (by omega)]; omega
  · rw [if_pos h2, if_neg (by omega)]; omega
  · rw [if_pos h2, if_pos h1]; omega
theorem mu_case (k : Nat) (h : k < lim) (a b : Int) (ha : a = wrap64 ((k : Int) + 2)) (hb : b = wrap64 (a + 1)) : (0 ≤ a ∧ 0 ≤ b ∧ b = a + 1 ∧ b ≤ big) ∨ (0 ≤ a ∧ b < 0 ∧ -b < big - a) ∨ (a < 0 ∧ b < 0 ∧ b = a + 1) := by
  unfold wrap64 at ha hb
  unfold big
  unfold lim at h
  by_cases h1 : (k : Int) < 9223372036854775805
  · left; omega
  · by_cases h2 : (k : Int) = 9223372036854775805
    · right; left; omega
    · right; right; omega
theorem mu_step (k : Nat) (h : k < lim) : mu (.int .i64 (wrap64 (wrap64 ((k : Int) + 2) + 1))) < mu (.int .i64 (wrap64 ((k : Int) + 2))) := by
  obtain ⟨a, ha⟩ : ∃ a, a = wrap64 ((k : Int) + 2) := ⟨_, rfl⟩
  obtain ⟨b, hb⟩ : ∃ b, b = wrap64 (a + 1) := ⟨_, rfl⟩
  rw [← ha, ← hb, mu_int, mu_int]
  exact mu_core a b (mu_case k h a b ha hb)
theorem wrap_succ (k : Nat) : wrap64 (wrap64 ((k : Int) + 2) + 1) = wrap64 (((k + 1 : Nat) : Int) + 2) := by unfold wrap64; omega
theorem tryAt_succ (st : List UInt8) (k : Nat) : tryAt st (k + 1) = st ++ Lib.itoa (wrap64 ((k : Int) + 2)) := by
  unfold tryAt
  rw [if_neg (by omega)]
  congr 3
theorem wrap_bd (n : Int) : -9223372036854775808 ≤ wrap64 n ∧ wrap64 n ≤ 9223372036854775807 := by unfold wrap64; omega
theorem tryAt_len (st : List UInt8) (k : Nat) : (tryAt st k).length ≤ st.length + 21 := by
  unfold tryAt
  split
  · omega
  · have := Lib.itoa_length_le _ (wrap_bd ((k : Int) + 1)).1 (wrap_bd ((k : Int) + 1)).2
    simp; omega
theorem not_may_of (l : List UInt8) (j : Nat) (hj : j < l.length) (h : ok l j = false) : may l = false := by
  have hs := nmLen_spec l
  unfold may
  have : nmLen l ≠ l.length := fun e => by
    have := hs.2.1 j (by omega)
    rw [h] at this; cases this
  simp [this]
theorem lim_not (st : List UInt8) : may (tryAt st lim) = false := by
  have e : tryAt st lim = st ++ 45 :: Lib.decDigits 9223372036854775808 := by
    unfold tryAt lim
    rw [if_neg (by omega)]
    have : wrap64 (((9223372036854775807 : Nat) : Int) + 1) = -((9223372036854775808 : Nat) : Int) := by unfold wrap64; omega
    rw [this, Lib.itoa_neg _ (by omega)]
  rw [e]
  refine not_may_of _ st.length (by simp) ?_
  unfold ok
  have : (st ++ 45 :: Lib.decDigits 9223372036854775808).getD st.length 0 = 45 := by simp
  rw [this]
  have h1 : isLet 45 = false := by decide
  have h2 : isDig 45 = false := by decide
  rw [h1, h2]; simp
theorem may_len {l : List UInt8} (h : may l = true) : l.length ≤ 32 := by
  unfold may at h; simp at h; omega
end Nm

theorem wrap_two : wrap64 (((0 : Nat) : Int) + 2) = 2 := by rw [IntWalk.wrap64_in _ ⟨by omega, by omega⟩]; omega
theorem cat_str (a b : List UInt8) : (⟨a.toArray⟩ : ByteArray) ++ ⟨b.toArray⟩ = ⟨(a ++ b).toArray⟩ := by
  apply str_eq
  simp

set_option maxHeartbeats 400000 in
theorem tries_in (n : Nat) (s : ByteArray) (w : World) :
    CallsIn Fence.wide n Tryd.prog 26 #[.string s] w fun e w' => e = .returned (.func (.func 33) #[] #[.pointer (some ⟨w.heap.size, 0, none⟩)]) ∧ w' = w.alloc (.cells #[.string s] 9) := by
  refine callsIn_of_wp Tryd.func26 rfl trivial ?_ rfl
  simp only [Tryd.ntmps26, List.size_toArray, List.length_cons, List.length_nil, Nat.reduceAdd, Nat.reduceSub, Array.replicate_succ, Array.replicate_zero, List.push_toArray, List.append_toArray, List.nil_append, List.cons_append]
  gi_wp2
  go_ret
  exact ⟨rfl, rfl⟩

theorem Tab.belowN {w w' : World} {B : Nat} (h : Tab w) (hg : 1 < B) (hb : Below B w w') : Tab w' :=
  ⟨var?_below hb gPow hg h.1, Nat.lt_of_lt_of_le h.2 hb.size⟩
def Tried (st : List UInt8) (k : Nat) : Prop := ∀ i, i < k → Nm.may (Nm.tryAt st i) = true
theorem tried_succ {st : List UInt8} {k : Nat} (h : Tried st k) (hk : Nm.may (Nm.tryAt st k) = true) : Tried st (k + 1) := fun i hi => by
  by_cases e : i = k
  · rw [e]; exact hk
  · exact h i (by omega)

set_option maxRecDepth 100000 in
set_option maxHeartbeats 1000000 in
theorem tries1_in (n : Nat) (hn : 3 ≤ n) (l Bn n₀ : Nat) (st : List UInt8) (hst : st.length ≤ 4611686018427387904) (J Jx : List (List UInt8) → World → Prop)
    (hY : ∀ pre x W, J pre W → pre.length < Nm.lim → YieldAt Fence.wide (n - 1) Tryd.prog l #[.string ⟨x.toArray⟩] W fun e W' =>
      (e = .returned (.bool true) ∧ J (pre ++ [x]) W' ∧ Below n₀ W W') ∨ (e = .returned (.bool false) ∧ Jx (pre ++ [x]) W'))
    (W : World) (hJ : AbidesFrom W.heap.size J) (hBn : Bn < n₀) (hn₀ : n₀ ≤ W.heap.size) (hg : 1 < n₀) (ht : Tab W) (hc : W.cell? ⟨Bn, 0, none⟩ = some (.string ⟨st.toArray⟩)) (h0 : J [] W) :
    CallsIn Fence.wide n Tryd.prog 33 #[.func (.yield l) #[] #[], .pointer (some ⟨Bn, 0, none⟩)] W fun e W' => (∃ v, e = .returned v) ∧
      ((∃ ys, (∃ k, ys = Nm.tries st k ∧ Tried st k ∧ Nm.may (Nm.tryAt st k) = false) ∧ J ys W') ∨ (∃ pre, (∃ k, pre = Nm.tries st k ∧ Tried st k) ∧ Jx pre W')) := by
  refine callsIn_of_wp Tryd.func33 rfl trivial ?_ rfl
  simp only [Tryd.ntmps33, List.size_toArray, List.length_cons, List.length_nil, Nat.reduceAdd, Nat.reduceSub, Array.replicate_succ, Array.replicate_zero, List.push_toArray, List.append_toArray, List.nil_append, List.cons_append]
  have HT := Lib.hid ht
  have HC := Lib.hid hc
  clear ht
  gi_wp2
  clear hc
  gi_loopw [3, 4] (fun s i wr => ∃ k : Nat, k ≤ Nm.lim ∧ s = .string ⟨(Nm.tryAt st k).toArray⟩ ∧ i = .int .i64 (wrap64 ((k : Int) + 2)) ∧ J (Nm.tries st k) wr ∧ Below n₀ W wr ∧ Tried st k)
    (fun _ i _ => Nm.mu i)
  case atStart => exact ⟨0, Nat.zero_le _, rfl, by rw [wrap_two], h0, Below.refl _ _, fun i hi => by omega⟩
  case round =>
    obtain ⟨k, hk, rfl, rfl, hJs, hnx, htr⟩ := hrel
    have hmay := fun (W' : World) => may_any ⟨(Nm.tryAt st k).toArray⟩ (by have := Nm.tryAt_len st k; show (Nm.tryAt st k).toArray.size ≤ _; simp [maxLen]; omega) W'
    cases cm : Nm.may (Nm.tryAt st k)
    · gi_wp2_with (first | (refine ⟨trivial, fun _ => (by omega), ?_⟩; gi_at_call 16; refine (callsIn_wide.2 (hmay _)).mono ?_; rintro e w' ⟨rfl, rfl⟩))
      refine ⟨fun _ h => (by cases h), ?_⟩
      gi_wp2
      go_end0
      exact ⟨⟨_, rfl⟩, .inl ⟨_, ⟨k, rfl, htr, cm⟩, hJs⟩⟩
    · have hk1 : k < Nm.lim := by
        by_cases e : k = Nm.lim
        · rw [e, Nm.lim_not] at cm; cases cm
        · omega
      obtain ⟨fn, tmps, assign, body, hy, hR⟩ := hY _ (Nm.tryAt st k) wr hJs (by rw [Nm.tries_length]; exact hk1)
      gi_wp2_with (first | (refine ⟨trivial, fun _ => (by omega), ?_⟩; gi_at_call 16; refine (callsIn_wide.2 (hmay _)).mono ?_; rintro e w' ⟨rfl, rfl⟩))
      refine ⟨fun _ => (by omega), hR.mono ?_⟩
      rintro e W3 (⟨rfl, hJ3, hk3⟩ | ⟨rfl, hJx3⟩)
      · have hcb : W3.cell? ⟨Bn, 0, none⟩ = some (.string ⟨st.toArray⟩) := ((hnx.trans hk3).cell (p := ⟨Bn, 0, none⟩) hBn).trans HC.out
        have hlt3 : Bn < W3.heap.size := Nat.lt_of_lt_of_le hBn (Nat.le_trans hn₀ (hnx.trans hk3).size)
        have ht3 := HT.out.belowN hg (hnx.trans hk3)
        have HT3 := Lib.hid ht3
        obtain ⟨it, hit⟩ : ∃ it, it = Lib.itoa (wrap64 ((k : Int) + 2)) := ⟨_, rfl⟩
        have hil : it.length ≤ 21 := by rw [hit]; exact Lib.itoa_length_le _ (Nm.wrap_bd _).1 (Nm.wrap_bd _).2
        have hshow : ∀ W' : World, Tab W' → Calls Tryd.prog 14 #[.int .i64 (wrap64 ((k : Int) + 2))] W' (StrPost it W') := fun W' h => by rw [hit]; exact show_any _ (Nm.wrap_bd _).1 (Nm.wrap_bd _).2 W' h
        have HI := Lib.hid hit
        have HS := Lib.hid hshow
        clear ht3 hit hshow
        gi_wp2
        have hmx : Tryd.prog.follows .mixedOrders = true := by kernel_rfl
        gi_region_with_o ((refine ⟨trivial, fun _ => (by omega), ?_⟩; gi_at_call 14; refine (callsIn_wide.2 (HS.out _ (by exact HT3.out))).mono ?_; rintro e w' ⟨rfl, hb4⟩; have hcb4 := (hb4.cell (p := ⟨Bn, 0, none⟩) hlt3).trans hcb))
        all_goals
          have hb5 : Below W3.heap.size W3 w' := ⟨hb4.os, hb4.tape, hb4.output, hb4.size, hb4.block⟩
          have hJ4 := hJ _ W3 w' none hJ3 ⟨hb5.os, hb5.tape, hb5.output, hb5.size, fun i hi _ => hb5.block i hi⟩ (fun r e => by cases e)
          have hb6 := (hnx.trans hk3).trans (hb5.mono (Nat.le_trans hn₀ (hnx.trans hk3).size))
          gi_wp2
          go_roundw
          case rel => exact ⟨k + 1, by omega, by rw [Nm.tryAt_succ, ← HI.out, cat_str], by rw [Nm.wrap_succ], by rw [Nm.tries_succ]; exact hJ4, hb6, tried_succ htr cm⟩
          case measure => exact Nm.mu_step k hk1
      · gi_wp2
        go_end0
        exact ⟨⟨_, rfl⟩, .inr ⟨_, ⟨k + 1, (Nm.tries_succ st k).symm, tried_succ htr cm⟩, hJx3⟩⟩

def TriedAll (st : List UInt8) (ys : List (List UInt8)) : Prop := ∃ k, ys = Nm.tries st k ∧ Tried st k ∧ Nm.may (Nm.tryAt st k) = false
def TriedSome (st : List UInt8) (ys : List (List UInt8)) : Prop := ∃ k, ys = Nm.tries st k ∧ Tried st k
theorem tries_stops (n : Nat) (hn : 3 ≤ n) (Bn n₀ : Nat) (st : List UInt8) (hst : st.length ≤ 4611686018427387904) (w : World) (hBn : Bn < n₀) (hn₀ : n₀ ≤ w.heap.size) (hg : 1 < n₀) (ht : Tab w) (hc : w.cell? ⟨Bn, 0, none⟩ = some (.string ⟨st.toArray⟩)) :
    SeqStopsK Fence.wide n Tryd.prog 33 #[.pointer (some ⟨Bn, 0, none⟩)] (fun x : List UInt8 => #[Value.string ⟨x.toArray⟩]) (Below n₀) (TriedAll st) (TriedSome st) Nm.lim w :=
  fun l J Jx W hW hJ _ hY h0 =>
    tries1_in n hn l Bn n₀ st hst J Jx hY W hJ hBn (Nat.le_trans hn₀ hW.size) hg (ht.below hW) ((hW.cell (p := ⟨Bn, 0, none⟩) (Nat.lt_of_lt_of_le hBn hn₀)).trans hc) h0
end Go.Proofs.YthmkmffehbdniaaDoor

/- Contracts of Show, Compare, copies. Conditions: the numbers are ints; the table of the library's powers of ten lies in memory as its text lays it. -/
import Derived.Test.YthmkmffehbdniaaDoorNmC
import Derived.Test.YthmkmffehbdniaaDoorShelf
import Derived.Below
import Derived.WalkSmall
namespace Go.Proofs.YthmkmffehbdniaaDoor
open Go.RowKit Go.Sort

/-- The library's table lies as it was laid. -/
def Tab (w : World) : Prop := Lib.TabIs Tryd.prog w "internal/strconv.uint64pow10" .u64 Lib.pow10Tab ∧ 1 < w.heap.size
theorem gPow : Tryd.prog.globalNamed "internal/strconv.uint64pow10" = some 1 := by kernel_rfl
theorem Tab.below {w w' : World} (h : Tab w) (hb : Below w.heap.size w w') : Tab w' :=
  ⟨var?_below hb gPow h.2 h.1, Nat.lt_of_lt_of_le h.2 hb.size⟩
theorem below_grow (w : World) (k : Nat) (os : Array Obj) : Below w.heap.size w (grow (w.drewN k) os) :=
  ⟨rfl, rfl, rfl, by rw [size_grow]; exact Nat.le_add_right _ _, fun i hi => heap_grow_old _ _ hi⟩

/-- What a call that makes a text leaves: the text; nothing that was there has turned. -/
def StrPost (l : List UInt8) (w : World) (e : Ending) (w' : World) : Prop := e = .returned (.string ⟨l.toArray⟩) ∧ Below w.heap.size w w'

theorem show_any (n : Int) (h0 : -9223372036854775808 ≤ n) (h1 : n ≤ 9223372036854775807) (w : World) (ht : Tab w) :
    Calls Tryd.prog 14 #[.int .i64 n] w (StrPost (Lib.itoa n) w) := by
  have hc : Calls Tryd.prog 29 #[.int .i64 n] w (StrPost (Lib.itoa n) w) :=
    (Tryd.strconv_Itoa n h0 h1 w ht.1).mono fun e w' ⟨he, k, os, hw⟩ => ⟨he, by rw [hw]; exact below_grow w k os⟩
  have Hc := Lib.hid hc
  clear hc ht
  obtain ⟨l, hl⟩ : ∃ l, l = Lib.itoa n := ⟨_, rfl⟩
  rw [← hl] at Hc ⊢
  clear hl
  go_enter Tryd.func14, Tryd.ntmps14
  go_wp2_with (go_at_call 29; refine Hc.out.mono ?_; rintro e w' ⟨rfl, hb⟩)
  go_ret
  exact ⟨rfl, hb⟩

set_option maxHeartbeats 400000 in
theorem or_any (a : Int) (w : World) (b : Nat) (h0 : w.cell? ⟨b, 0, none⟩ = some (.int .i64 a)) (h1 : w.cell? ⟨b, 1, none⟩ = some (.int .i64 0)) :
    Calls Tryd.prog 30 #[.slice (some ⟨b, 0, none⟩) 2 2] w fun e w' => e = .returned (.int .i64 a) ∧ w = w' := by
  by_cases ha : a = 0
  · subst ha
    go_enter Tryd.func30, Tryd.ntmps30
    go_wp2
    refine wp_loop_rounds 3 ?_
    rw [rounds_succ]
    go_wp2
    rw [rounds_succ]
    go_wp2
    rw [rounds_succ]
    go_wp2
    go_ret
    exact ⟨rfl, rfl⟩
  · have hne : (a != 0) = true := by rw [bne_iff_ne]; exact ha
    clear ha
    go_enter Tryd.func30, Tryd.ntmps30
    go_wp2
    refine wp_loop_rounds 1 ?_
    rw [rounds_succ]
    go_wp2
    go_ret
    exact ⟨rfl, rfl⟩

/-- What a call that makes memory leaves: the number; nothing that was there has turned. -/
def IntPost (n : Int) (w : World) (e : Ending) (w' : World) : Prop := e = .returned (.int .i64 n) ∧ Below w.heap.size w w'
def cmpB (a b : ByteArray) : Int := Lib.compareBytes a.data.toList b.data.toList
set_option maxHeartbeats 400000 in
theorem compare_any (a b : ByteArray) (w : World) : Calls Tryd.prog 19 #[.string a, .string b] w (IntPost (cmpB a b) w) := by
  have hc : Calls Tryd.prog 31 #[.string a, .string b] w fun e w' => e = .returned (.int .i64 (cmpB a b)) ∧ w = w' :=
    (Tryd.strings_Compare a b w).mono fun e w' ⟨he, hw⟩ => ⟨he, hw.symm⟩
  have Hc := Lib.hid hc
  clear hc
  obtain ⟨n, hn⟩ : ∃ n, n = cmpB a b := ⟨_, rfl⟩
  rw [← hn] at Hc ⊢
  clear hn
  go_enter Tryd.func19, Tryd.ntmps19
  go_wp2_with (first | (go_at_call 31; refine Hc.out.mono ?_; rintro e w' ⟨rfl, rfl⟩) | (go_at_call 30; refine (or_any n _ _ (by simp) (by simp)).mono ?_; rintro e w' ⟨rfl, rfl⟩))
  go_ret
  exact ⟨rfl, (Below.refl _ _).alloc (Nat.le_refl _) _⟩
end Go.Proofs.YthmkmffehbdniaaDoor

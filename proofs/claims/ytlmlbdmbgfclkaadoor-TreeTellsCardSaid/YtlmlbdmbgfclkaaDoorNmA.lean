/- Contracts of the smallest functions of package name: a byte is a letter, a digit; what is taken of a text; is it a name. No conditions. -/
import Derived.Test.YtlmlbdmbgfclkaaDoorChecked
import Derived.Test.YtlmlbdmbgfclkaaDoorNmM
import Derived.WalkKit
import Derived.WalkSpells
import Derived.WalkLawsBesides
import Derived.Lib.Hide
namespace Go.Proofs.YtlmlbdmbgfclkaaDoor
open Go.RowKit

theorem ret_bool {a b : Bool} (h : a = b) : Ending.returned (.bool a) = .returned (.bool b) := by rw [h]
theorem ret_str {a b : List UInt8} (h : a = b) : Ending.returned (.string ⟨a.toArray⟩) = .returned (.string ⟨b.toArray⟩) := by rw [h]

theorem let_table : ∀ n : Fin 256, (decide (n.val = 95) || (decide (97 ≤ n.val) && decide (n.val ≤ 122)) || (decide (65 ≤ n.val) && decide (n.val ≤ 90))) = (decide (n.val = 95) || (decide (97 ≤ n.val ||| 32) && decide (n.val ||| 32 ≤ 122))) := by decide +kernel
theorem isLet_or (c : UInt8) : Nm.isLet c = (decide ((c.toNat : Int) = 95) || (decide (97 ≤ bits .or .u8 (c.toNat : Int) 32) && decide (bits .or .u8 (c.toNat : Int) 32 ≤ 122))) := by
  have h := let_table ⟨c.toNat, c.toNat_lt⟩
  rw [Nm.isLet_nat, h]
  have e : bits .or .u8 (c.toNat : Int) 32 = ((c.toNat ||| 32 : Nat) : Int) := u8_or_nat c.toNat 32 c.toNat_lt (by omega)
  rw [e, Bool.eq_iff_iff]
  simp
  omega
set_option maxHeartbeats 400000 in
theorem letter_any (c : UInt8) (w : World) : Calls Tryd.prog 58 #[.int .u8 c.toNat] w fun e w' => e = .returned (.bool (Nm.isLet c)) ∧ w = w' := by
  obtain ⟨m, hm⟩ : ∃ m, m = bits .or .u8 (c.toNat : Int) 32 := ⟨_, rfl⟩
  have key := isLet_or c
  rw [← hm] at key
  rw [key]; clear key
  obtain ⟨b, hb⟩ : ∃ b : Int, b = (c.toNat : Int) := ⟨_, rfl⟩
  rw [← hb] at hm ⊢
  have Hm := Lib.hid hm.symm
  clear hm hb
  go_enter Tryd.func58, Tryd.ntmps58
  go_wp2_with (rw [Hm.out])
  all_goals go_ret
  all_goals refine ⟨ret_bool ?_, rfl⟩
  all_goals rw [Bool.eq_iff_iff]
  all_goals simp
  all_goals omega
set_option maxHeartbeats 400000 in
theorem digit_any (c : UInt8) (w : World) : Calls Tryd.prog 59 #[.int .u8 c.toNat] w fun e w' => e = .returned (.bool (Nm.isDig c)) ∧ w = w' := by
  have key : Nm.isDig c = decide (((c.toNat : Int) - 48) % 256 < 10) := by
    rw [Nm.isDig_nat]
    have := c.toNat_lt
    rw [Bool.eq_iff_iff]; simp; omega
  rw [key]; clear key
  obtain ⟨b, hb⟩ : ∃ b : Int, b = (c.toNat : Int) := ⟨_, rfl⟩
  rw [← hb]; clear hb
  go_enter Tryd.func59, Tryd.ntmps59
  go_wp2
  go_ret
  exact ⟨rfl, rfl⟩
end Go.Proofs.YtlmlbdmbgfclkaaDoor

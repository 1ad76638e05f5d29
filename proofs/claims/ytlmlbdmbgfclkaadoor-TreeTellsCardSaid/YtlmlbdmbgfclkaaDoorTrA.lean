/- The contract of tree.Fits. Conditions: the table of kids lies as laid; a node's fields as Go has them. -/
import Derived.Test.YtlmlbdmbgfclkaaDoorRow
import Derived.Test.YtlmlbdmbgfclkaaDoorNmB
import Derived.Test.YtlmlbdmbgfclkaaDoorLift
import Derived.Test.YtlmlbdmbgfclkaaDoorSetEq
namespace Go.Proofs.YtlmlbdmbgfclkaaDoor
open Go.RowKit

def kidsTab : List Int := [0, 0, 0, 0, 0, 0, 0, 0, 2, -1, 2, -1, 1, 1, 1, 1, 1, 1, 1, 1]
def KTab (W : World) : Prop := W.var? Tryd.prog "bonsai/tree.kids" = some (kidsTab.map (Value.int .i64)).toArray
theorem gKids : Tryd.prog.globalNamed "bonsai/tree.kids" = some 0 := by kernel_rfl
theorem KTab.cell {W : World} (h : KTab W) (i : Nat) (hi : i < 20) : W.cell? ⟨0, i, none⟩ = some (.int .i64 (kidsTab.getD i 0)) := by
  have := World.var?_cell gKids h i
  have hl : kidsTab.length = 20 := rfl
  simpa [List.getD, hl, hi] using this
theorem KTab.lt {W : World} (h : KTab W) : 0 < W.heap.size := var_lt gKids h
theorem KTab.below {W W' : World} (h : KTab W) (hb : Below W.heap.size W W') : KTab W' := by
  unfold KTab at h ⊢
  rw [← h]
  unfold World.var?
  rw [gKids]
  simp only [Option.bind_some]
  rw [hb.block _ (KTab.lt h)]

def noSet (d : Dt) : Prop := d.s0 = 0 ∧ d.s1 = 0 ∧ d.s2 = 0 ∧ d.s3 = 0
instance (d : Dt) : Decidable (noSet d) := by unfold noSet; infer_instance
def noNum (d : Dt) : Prop := d.min = 0 ∧ d.max = 0
instance (d : Dt) : Decidable (noNum d) := by unfold noNum; infer_instance
/-- What a kind asks of its fields. -/
def fitsD (d : Dt) : Prop :=
  (d.kind = 0 ∧ noSet d ∧ d.text = [] ∧ noNum d) ∨ (d.kind = 1 ∧ d.text = [] ∧ noNum d) ∨ (d.kind = 2 ∧ noSet d ∧ d.text ≠ [] ∧ d.text.length ≤ 255 ∧ noNum d) ∨ (d.kind = 3 ∧ noSet d ∧ Nm.may d.text = true ∧ noNum d) ∨
  (d.kind = 4 ∧ noSet d ∧ d.text = [] ∧ noNum d) ∨ (d.kind = 5 ∧ noSet d ∧ d.text = [] ∧ noNum d) ∨
  (d.kind = 6 ∧ noSet d ∧ d.text = [] ∧ 0 ≤ d.min ∧ d.min ≤ 99 ∧ (d.max = -1 ∨ d.min ≤ d.max ∧ d.max ≤ 99)) ∨
  (d.kind = 7 ∧ noSet d ∧ d.text = [] ∧ noNum d) ∨ (d.kind = 8 ∧ noSet d ∧ d.text = [] ∧ noNum d) ∨ (d.kind = 9 ∧ noSet d ∧ Nm.may d.text = true ∧ noNum d)
instance (d : Dt) : Decidable (fitsD d) := by unfold fitsD; infer_instance
/-- What a kind asks of the number of kids. -/
def fitsK (kind k : Int) : Prop := (kind ≤ 3 ∧ k = 0) ∨ ((kind = 4 ∨ kind = 5) ∧ 2 ≤ k) ∨ (6 ≤ kind ∧ k = 1)
instance (a b : Int) : Decidable (fitsK a b) := by unfold fitsK; infer_instance
def fits (d : Dt) (k : Int) : Bool := decide (fitsD d ∧ fitsK d.kind k)

theorem list_mk (l : List UInt8) : (⟨l.toArray⟩ : ByteArray).toList = l := by rw [ByteArray.toList_eq]
theorem size_mk (l : List UInt8) : (⟨l.toArray⟩ : ByteArray).size = l.length := by simp [ByteArray.size]
theorem KTab.near {W : World} (ht : KTab W) (o : Obj) (i : Nat) (z : Int) (hi : i < 20) (hz : kidsTab.getD i 0 = z) : (W.alloc o).cell? ⟨0, i, none⟩ = some (.int .i64 z) := by
  rw [World.cell?_alloc_lt W o _ ht.lt, ht.cell i hi, hz]
set_option maxHeartbeats 2000000 in
theorem fits_any (n : Nd) (hn : n.d.Ok) (kv : Value) (k : Int) (W : World) (ht : KTab W) :
    Calls Tryd.prog 23 #[.agg (nodeCells n kv).toArray, .int .i64 k] W fun e w' => e = .returned (.bool (fits n.d k)) ∧ Below W.heap.size W w' := by
  obtain ⟨⟨kind, s0, s1, s2, s3, text, mn, mx⟩, kids⟩ := n
  obtain ⟨⟨k1, k2⟩, hset, htx, hmn, hmx⟩ := hn
  have htx' : (⟨text.toArray⟩ : ByteArray).size ≤ maxLen := by rw [size_mk]; exact htx
  have HM := Lib.hid (fun wx => may_any ⟨text.toArray⟩ htx' wx)
  clear hmn hmx hset htx htx'
  have c0 : ∀ o : Obj, (W.alloc o).cell? ⟨0, 0, none⟩ = some (.int .i64 0) := fun o => ht.near o 0 _ (by omega) rfl
  have c1 : ∀ o : Obj, (W.alloc o).cell? ⟨0, 1, none⟩ = some (.int .i64 0) := fun o => ht.near o 1 _ (by omega) rfl
  have c2 : ∀ o : Obj, (W.alloc o).cell? ⟨0, 2, none⟩ = some (.int .i64 0) := fun o => ht.near o 2 _ (by omega) rfl
  have c3 : ∀ o : Obj, (W.alloc o).cell? ⟨0, 3, none⟩ = some (.int .i64 0) := fun o => ht.near o 3 _ (by omega) rfl
  have c4 : ∀ o : Obj, (W.alloc o).cell? ⟨0, 4, none⟩ = some (.int .i64 0) := fun o => ht.near o 4 _ (by omega) rfl
  have c5 : ∀ o : Obj, (W.alloc o).cell? ⟨0, 5, none⟩ = some (.int .i64 0) := fun o => ht.near o 5 _ (by omega) rfl
  have c6 : ∀ o : Obj, (W.alloc o).cell? ⟨0, 6, none⟩ = some (.int .i64 0) := fun o => ht.near o 6 _ (by omega) rfl
  have c7 : ∀ o : Obj, (W.alloc o).cell? ⟨0, 7, none⟩ = some (.int .i64 0) := fun o => ht.near o 7 _ (by omega) rfl
  have c8 : ∀ o : Obj, (W.alloc o).cell? ⟨0, 8, none⟩ = some (.int .i64 2) := fun o => ht.near o 8 _ (by omega) rfl
  have c9 : ∀ o : Obj, (W.alloc o).cell? ⟨0, 9, none⟩ = some (.int .i64 (-1)) := fun o => ht.near o 9 _ (by omega) rfl
  have c10 : ∀ o : Obj, (W.alloc o).cell? ⟨0, 10, none⟩ = some (.int .i64 2) := fun o => ht.near o 10 _ (by omega) rfl
  have c11 : ∀ o : Obj, (W.alloc o).cell? ⟨0, 11, none⟩ = some (.int .i64 (-1)) := fun o => ht.near o 11 _ (by omega) rfl
  have c12 : ∀ o : Obj, (W.alloc o).cell? ⟨0, 12, none⟩ = some (.int .i64 1) := fun o => ht.near o 12 _ (by omega) rfl
  have c13 : ∀ o : Obj, (W.alloc o).cell? ⟨0, 13, none⟩ = some (.int .i64 1) := fun o => ht.near o 13 _ (by omega) rfl
  have c14 : ∀ o : Obj, (W.alloc o).cell? ⟨0, 14, none⟩ = some (.int .i64 1) := fun o => ht.near o 14 _ (by omega) rfl
  have c15 : ∀ o : Obj, (W.alloc o).cell? ⟨0, 15, none⟩ = some (.int .i64 1) := fun o => ht.near o 15 _ (by omega) rfl
  have c16 : ∀ o : Obj, (W.alloc o).cell? ⟨0, 16, none⟩ = some (.int .i64 1) := fun o => ht.near o 16 _ (by omega) rfl
  have c17 : ∀ o : Obj, (W.alloc o).cell? ⟨0, 17, none⟩ = some (.int .i64 1) := fun o => ht.near o 17 _ (by omega) rfl
  have c18 : ∀ o : Obj, (W.alloc o).cell? ⟨0, 18, none⟩ = some (.int .i64 1) := fun o => ht.near o 18 _ (by omega) rfl
  have c19 : ∀ o : Obj, (W.alloc o).cell? ⟨0, 19, none⟩ = some (.int .i64 1) := fun o => ht.near o 19 _ (by omega) rfl
  clear ht
  simp only [nodeCells] at *
  have hk : kind = 0 ∨ kind = 1 ∨ kind = 2 ∨ kind = 3 ∨ kind = 4 ∨ kind = 5 ∨ kind = 6 ∨ kind = 7 ∨ kind = 8 ∨ kind = 9 ∨ 10 ≤ kind := by omega
  rcases hk with rfl | rfl | rfl | rfl | rfl | rfl | rfl | rfl | rfl | rfl | hk
  all_goals go_enter Tryd.func23, Tryd.ntmps23
  all_goals go_wp2_with (go_at_call 51; refine (HM.out _).mono ?_; rintro e w' ⟨rfl, rfl⟩)
  all_goals go_ret
  all_goals refine ⟨ret_bool ?_, (Below.refl _ _).alloc (Nat.le_refl _) _⟩
  all_goals clear HM c0 c1 c2 c3 c4 c5 c6 c7 c8 c9 c10 c11 c12 c13 c14 c15 c16 c17 c18 c19
  all_goals rw [Bool.eq_iff_iff, fits, decide_eq_true_eq, fitsD, fitsK, noSet, noNum]
  all_goals simp [*]
  all_goals omega
end Go.Proofs.YtlmlbdmbgfclkaaDoor

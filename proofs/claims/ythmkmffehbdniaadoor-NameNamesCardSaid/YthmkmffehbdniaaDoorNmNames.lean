/- NameNames answers true (a closed law). Condition: the library's table lies as laid. -/
import Derived.Test.YthmkmffehbdniaaDoorNmOwn
import Derived.Test.YthmkmffehbdniaaDoorNmBack
import Derived.Test.YthmkmffehbdniaaDoorNmQ
import Derived.Lib.SmallJoins
namespace Go.Proofs.YthmkmffehbdniaaDoor
open Go.RowKit

def rep (l : List UInt8) (n : Nat) : List UInt8 := (List.replicate n l).flatten
theorem rep_succ (l : List UInt8) (n : Nat) : rep l (n + 1) = rep l n ++ l := by
  unfold rep
  rw [List.replicate_succ', List.flatten_append]; simp
theorem rep_len (l : List UInt8) (n : Nat) : (rep l n).length = n * l.length := by
  induction n with
  | zero => simp [rep]
  | succ n ih => rw [rep_succ, List.length_append, ih, Nat.succ_mul]
set_option maxHeartbeats 400000 in
theorem copies_any (l : List UInt8) (n : Nat) (hl : l.length ≤ 1000) (hn : n ≤ 1000) (w : World) :
    Calls Tryd.prog 18 #[.string ⟨l.toArray⟩, .int .i64 n] w fun e w' => e = .returned (.string ⟨(rep l n).toArray⟩) ∧ w = w' := by
  go_enter Tryd.func18, Tryd.ntmps18
  go_wp2
  go_loop [5, 6] (fun s i => ∃ k : Nat, k ≤ n ∧ i = .int .i64 k ∧ s = .string ⟨(rep l k).toArray⟩) (fun _ i => n - (intOf i).toNat)
  case atStart => exact ⟨0, Nat.zero_le _, rfl, rfl⟩
  case round =>
    obtain ⟨k, hk, rfl, rfl⟩ := hrel
    have hrl := rep_len l k
    have hm : k * l.length ≤ 1000 * 1000 := Nat.mul_le_mul (by omega) hl
    have hb : (rep l k).length ≤ 1000000 := by omega
    have HS := Lib.hid (rep_succ l k)
    clear hrl hm
    obtain ⟨r, hr⟩ : ∃ r, Hid (r = rep l k) := ⟨_, rfl⟩
    rw [← hr.out] at hb HS ⊢
    by_cases hlt : k < n
    · go_wp2
      go_round
      case rel => exact ⟨k + 1, by omega, by go_num, by rw [cat_l, HS.out]⟩
      case measure => simp [intOf]; omega
    · obtain rfl : k = n := by omega
      go_wp2
      go_ret
      exact ⟨ret_string (by rw [hr.out]), rfl⟩
theorem rep_one (c : UInt8) (n : Nat) : rep [c] n = List.replicate n c := by
  induction n with
  | zero => rfl
  | succ n ih => rw [rep_succ, ih, List.replicate_succ']

theorem copies_z (l : List UInt8) (n : Int) (hl : l.length ≤ 1000) (h0 : 0 ≤ n) (hn : n ≤ 1000) (w : World) :
    Calls Tryd.prog 18 #[.string ⟨l.toArray⟩, .int .i64 n] w fun e w' => e = .returned (.string ⟨(rep l n.toNat).toArray⟩) ∧ w = w' := by
  have h := copies_any l n.toNat hl (by omega) w
  rwa [Int.toNat_of_nonneg h0] at h
theorem may_z (s : ByteArray) (h : s.size ≤ 1000) (w : World) : Calls Tryd.prog 16 #[.string s] w fun e w' => e = .returned (.bool (Nm.may s.data.toList)) ∧ w = w' := may_any s (by unfold maxLen; omega) w

theorem conv_at (W : World) (n : Nat) (x : Int) (hn : W.heap.size = n) (h0 : 0 ≤ x) (hx : x < 256) : (convert 35 9 (.slice (some ⟨n, 0, none⟩) 1 1)).run Tryd.prog (W.alloc (.cells #[.int .u8 x] 5)) = .ok (.string ⟨[UInt8.ofNat x.toNat].toArray⟩) (W.alloc (.cells #[.int .u8 x] 5)) := by
  subst hn; exact conv_one W x h0 hx
theorem letter_z (n : Int) (h0 : 0 ≤ n) (h1 : n ≤ 255) (b : Bool) (h : Nm.isLet (UInt8.ofNat n.toNat) = b) (w : World) : Calls Tryd.prog 17 #[.int .u8 n] w fun e w' => e = .returned (.bool b) ∧ w = w' := by
  have e : ((UInt8.ofNat n.toNat).toNat : Int) = n := by rw [UInt8.toNat_ofNat']; omega
  have h2 := letter_any (UInt8.ofNat n.toNat) w
  rwa [e, h] at h2
def bs : List UInt8 := [64, 91, 96, 123, 47, 58, 94, 0, 128, 255, 45, 48, 57]
theorem bs_all : ∀ j, j < 13 → Nm.isLet (bs.getD j 0) = false ∧ Nm.may [bs.getD j 0] = false := by decide
def bsCells : Array Value := (bs.map fun c => Value.int .u8 (c.toNat : Int)).toArray
theorem bsCells_at (j : Nat) (h : j < 13) : bsCells[j]? = some (.int .u8 ((bs.getD j 0).toNat : Int)) := by
  have h2 : j < bs.length := h
  simp [bsCells, h2]
theorem letter_f (c : UInt8) (h : Nm.isLet c = false) (w : World) : Calls Tryd.prog 17 #[.int .u8 c.toNat] w fun e w' => e = .returned (.bool false) ∧ w = w' := by
  have := letter_any c w
  rwa [h] at this

structure Row where
  s : List UInt8
  most : Int
  n : Int
  e : Int
def tbl : List Row := [⟨[48], 0, 0, 0⟩, ⟨[48], -1, 0, 40⟩, ⟨[], 5, 0, 4⟩, ⟨[48, 48], 5, 0, 4⟩, ⟨[45, 49], 5, 0, 4⟩, ⟨[49, 32], 5, 0, 4⟩, ⟨[57, 50, 50, 51, 51, 55, 50, 48, 51, 54, 56, 53, 52, 55, 55, 53, 56, 48, 55], 9223372036854775807, 9223372036854775807, 0⟩, ⟨[57, 50, 50, 51, 51, 55, 50, 48, 51, 54, 56, 53, 52, 55, 55, 53, 56, 48, 56], 9223372036854775807, 0, 40⟩, ⟨[57, 57, 57, 57, 57, 57, 57, 57, 57, 57, 57, 57, 57, 57, 57, 57, 57, 57, 57, 57, 120], 9, 0, 4⟩, ⟨[57, 57], 99, 99, 0⟩, ⟨[49, 48, 48], 99, 0, 40⟩]
def rowOf (j : Nat) : Row := tbl.getD j ⟨[], 0, 0, 4⟩
theorem tbl_all : ∀ j, j < 11 → Nm.num (rowOf j).s (rowOf j).most = ((rowOf j).n, (rowOf j).e) ∧ (rowOf j).s.length ≤ 100 ∧ -9223372036854775808 ≤ (rowOf j).most ∧ (rowOf j).most ≤ 9223372036854775807 := by decide
def rowCells (r : Row) : List Value := [.string ⟨r.s.toArray⟩, .int .i64 r.most, .int .i64 r.n, .int .i64 r.e]
def tblCells : Array Value := (tbl.flatMap rowCells).toArray

theorem tbl_at : ∀ j, j < 11 → tblCells[j * 4]? = some (.string ⟨(rowOf j).s.toArray⟩) ∧ tblCells[j * 4 + 1]? = some (.int .i64 (rowOf j).most) ∧ tblCells[j * 4 + 2]? = some (.int .i64 (rowOf j).n) ∧ tblCells[j * 4 + 3]? = some (.int .i64 (rowOf j).e) := by
  intro j hj
  match j, hj with
  | 0, _ => exact ⟨rfl, rfl, rfl, rfl⟩
  | 1, _ => exact ⟨rfl, rfl, rfl, rfl⟩
  | 2, _ => exact ⟨rfl, rfl, rfl, rfl⟩
  | 3, _ => exact ⟨rfl, rfl, rfl, rfl⟩
  | 4, _ => exact ⟨rfl, rfl, rfl, rfl⟩
  | 5, _ => exact ⟨rfl, rfl, rfl, rfl⟩
  | 6, _ => exact ⟨rfl, rfl, rfl, rfl⟩
  | 7, _ => exact ⟨rfl, rfl, rfl, rfl⟩
  | 8, _ => exact ⟨rfl, rfl, rfl, rfl⟩
  | 9, _ => exact ⟨rfl, rfl, rfl, rfl⟩
  | 10, _ => exact ⟨rfl, rfl, rfl, rfl⟩
theorem may_one (c : UInt8) (h : Nm.may [c] = false) (w : World) : Calls Tryd.prog 16 #[.string ⟨#[c]⟩] w fun e w' => e = .returned (.bool false) ∧ w = w' :=
  may_b [c] (by rw [size_l]; simp [maxLen]) false h w
theorem not_may_long {l : List UInt8} (h : 32 < l.length) : Nm.may l = false := by
  cases hm : Nm.may l
  · rfl
  · have := Nm.may_len hm; omega
theorem f_long : FreeIs (rep [98] 32) [rep [98] 32] [] := by
  refine .inr ⟨1, fun i hi => ?_, ?_, fun i hi => ?_, rfl⟩
  · obtain rfl : i = 0 := by omega
    show Nm.may (rep [98] 32) = true
    decide
  · refine not_may_long ?_
    rw [Nm.tryAt_small _ 1 (by omega) (by omega)]
    decide
  · obtain rfl : i = 0 := by omega
    exact List.mem_singleton.2 rfl
theorem f_one : FreeIs [49] [] [] := .inr ⟨0, fun i hi => by omega, by decide, fun i hi => by omega, rfl⟩
theorem f_c : FreeIs (rep [99] 31) [rep [99] 31] (rep [99] 31 ++ [50]) := by
  refine .inl ⟨1, fun i hi => ?_, fun i hi => ?_, ?_, ?_⟩
  · rcases i with _ | _ | i
    · show Nm.may (rep [99] 31) = true
      decide
    · show Nm.may (Nm.tryAt (rep [99] 31) 1) = true
      rw [Nm.tryAt_small _ 1 (by omega) (by omega)]
      decide
    · omega
  · obtain rfl : i = 0 := by omega
    exact List.mem_singleton.2 rfl
  · rw [Nm.tryAt_small _ 1 (by omega) (by omega)]
    decide
  · rw [Nm.tryAt_small _ 1 (by omega) (by omega)]; rfl
theorem f_x : FreeIs [120] [] [120] := .inl ⟨0, fun i hi => by obtain rfl : i = 0 := by omega
                                                               decide, fun i hi => by omega, by simp, rfl⟩
def minL : List UInt8 := [57, 50, 50, 51, 51, 55, 50, 48, 51, 54, 56, 53, 52, 55, 55, 53, 56, 48, 56]
theorem minL_val : Nm.val minL = 9223372036854775808 := by decide
theorem itoa_min : Lib.itoa (-9223372036854775808) = 45 :: minL := by
  have h := Nm.dec_val 18 minL rfl ⟨by decide, fun _ => by decide, by decide⟩
  rw [minL_val] at h
  have h2 := Lib.itoa_neg 9223372036854775808 (by omega)
  rw [h] at h2
  exact h2
theorem show_min (w0 w : World) (hb : Below w0.heap.size w0 w) (ht : Tab w0) : Calls Tryd.prog 14 #[.int .i64 (-9223372036854775808)] w fun e w' => e = .returned (.string ⟨#[45, 57, 50, 50, 51, 51, 55, 50, 48, 51, 54, 56, 53, 52, 55, 55, 53, 56, 48, 56]⟩) ∧ Below w0.heap.size w0 w' := by
  have h := show_b (-9223372036854775808) (by omega) (by omega) w0 w hb ht
  rw [itoa_min] at h
  exact h
theorem show_zero (w0 w : World) (hb : Below w0.heap.size w0 w) (ht : Tab w0) : Calls Tryd.prog 14 #[.int .i64 0] w fun e w' => e = .returned (.string ⟨#[48]⟩) ∧ Below w0.heap.size w0 w' := by
  have h := show_b 0 (by omega) (by omega) w0 w hb ht
  rw [show (0 : Int) = ((0 : Nat) : Int) from rfl, Nm.itoa_small 0 (by omega)] at h
  exact h
theorem rstrs_one (w : World) (l : List UInt8) (t : TypeId) (B : Nat) (hB : w.heap.size < B) : RStrs (w.alloc (.cells #[.string ⟨l.toArray⟩] t)) B (.slice (some ⟨w.heap.size, 0, none⟩) 1 1) [l] := by
  refine ⟨_, 1, rfl, by simp [maxLen], fun j hj => ⟨_, _, rfl, hB, ?_⟩⟩
  obtain rfl : j = 0 := by simpa using hj
  simp
theorem rstrs_nil (w : World) (B : Nat) : RStrs w B (.slice none 0 0) [] := ⟨_, 0, rfl, by simp [maxLen], fun j hj => by simp at hj⟩
theorem free_to (st : List UInt8) (hst : st.length ≤ 1000) (v : Value) (us : List (List UInt8)) (r : List UInt8) (hr : FreeIs st us r) (w0 w : World) (hb : Below w0.heap.size w0 w) (ht : Tab w0) (hus : RStrs w w.heap.size v us) :
    Calls Tryd.prog 11 #[.string ⟨st.toArray⟩, v] w fun e w' => e = .returned (.string ⟨r.toArray⟩) ∧ Below w0.heap.size w0 w' :=
  (free_b st (by omega) v us w0 w hb ht hus).mono fun _ _ ⟨r', h1, h2, _, h4⟩ => ⟨by rw [h2, free_unique h1 hr], h4⟩

set_option maxHeartbeats 1000000 in
set_option maxRecDepth 100000 in
theorem lnames_any (w : World) (ht : Tab w) : Calls Tryd.prog 7 #[] w (TruePost w) := by
  have HT := Lib.hid ht
  clear ht
  have h0 : Below w.heap.size w w := Below.refl _ _
  have m1 : Nm.may (rep [97] 32) = true := by decide
  have m2 : Nm.may (rep [97] 33) = false := by decide
  have t0 : Nm.nmLen [] = 0 := by decide
  have t1 : Nm.nmLen [57, 97] = 0 := by decide
  have t2 : Nm.nmLen [97, 57, 128] = 2 := by decide
  have z1 : (rep [97] 32).length ≤ 1000 := by decide
  have hcs := fun (W : World) (C : Array Value) (n c g : Nat) (hg : g = W.heap.size) => Joins.run_convert_bytes_const_at (P := Tryd.prog) W 35 5 C n c g hg Tryd.underlying35 Tryd.underlying5
  have z2 : (rep [97] 33).length ≤ 1000 := by decide
  go_enter Tryd.func7, Tryd.ntmps7
  go_wp2_with (first
    | (go_at_call 10; refine (works_b w _ (by assumption) HT.out).mono ?_; rintro e w1 ⟨rfl, hb1⟩)
    | (go_at_call 18; refine (copies_z [97] _ (by decide) (by omega) (by omega) _).mono ?_; rintro e w' ⟨rfl, rfl⟩)
    | (go_at_call 16; refine (may_z _ (by rw [size_l]; assumption) _).mono ?_; rintro e w' ⟨rfl, rfl⟩)
    | (go_at_call 15; refine (take_any _ (by decide) _).mono ?_; rintro e w' ⟨rfl, rfl⟩))
  clear hcs m1 m2 t0 t1 t2 z1 z2
  go_loopw [36] (fun i wr => ∃ k : Nat, k ≤ 13 ∧ i = .int .i64 k ∧ Hid (∀ j, j < 13 → wr.cell? ⟨w1.heap.size, j, none⟩ = some (.int .u8 ((bs.getD j 0).toNat : Int))) ∧ Below w.heap.size w wr) (fun i _ => 13 - (intOf i).toNat)
  case atStart =>
    refine ⟨0, Nat.zero_le _, rfl, fun j hj => ?_, hb1.alloc hb1.size _⟩
    exact (World.cell?_alloc_mark w1 bsCells 5 (13, 14) j).trans (bsCells_at j hj)
  case round =>
    obtain ⟨k, hk, rfl, hC, hB⟩ := hrel
    by_cases hlt : k < 13
    · have hc := hC.out k hlt
      obtain ⟨hl, hm⟩ := bs_all k hlt
      have hcv := conv_at wr wr.heap.size ((bs.getD k 0).toNat : Int) rfl (by omega) (by have := (bs.getD k 0).toNat_lt; omega)
      have eq1 : UInt8.ofNat ((bs.getD k 0).toNat : Int).toNat = bs.getD k 0 := by rw [Int.toNat_natCast]; exact UInt8.ofNat_toNat
      rw [eq1] at hcv
      clear eq1
      generalize bs.getD k 0 = c at *
      have HL := Lib.hid hl
      have HM := Lib.hid hm
      clear hl hm
      go_wp2_with (first
        | (go_at_call 17; refine (letter_f c HL.out _).mono ?_; rintro e w' ⟨rfl, rfl⟩)
        | (go_at_call 16; refine (may_one c HM.out _).mono ?_; rintro e w' ⟨rfl, rfl⟩))
      go_roundw
      case rel =>
        exact ⟨k + 1, by omega, by go_num, fun j hj => (World.cell?_alloc_lt wr _ ⟨w1.heap.size, j, none⟩ (cell_lt (hC.out j hj))).trans (hC.out j hj), hB.alloc hB.size _⟩
      case measure => simp [intOf]; omega
    · clear hC
      go_wp2_with fail
      go_loopw [62] (fun i w2 => ∃ k : Nat, k ≤ 11 ∧ i = .int .i64 k ∧ Hid (∀ j, j < 11 → w2.cell? ⟨wr.heap.size, j * 4, none⟩ = some (.string ⟨(rowOf j).s.toArray⟩) ∧ w2.cell? ⟨wr.heap.size, j * 4 + 1, none⟩ = some (.int .i64 (rowOf j).most) ∧ w2.cell? ⟨wr.heap.size, j * 4 + 2, none⟩ = some (.int .i64 (rowOf j).n) ∧ w2.cell? ⟨wr.heap.size, j * 4 + 3, none⟩ = some (.int .i64 (rowOf j).e)) ∧ Below w.heap.size w w2) (fun i _ => 11 - (intOf i).toNat)
      case atStart =>
        refine ⟨0, Nat.zero_le _, rfl, fun j hj => ?_, hB.alloc hB.size _⟩
        obtain ⟨g1, g2, g3, g4⟩ := tbl_at j hj
        exact ⟨(World.cell?_alloc_mark wr tblCells _ (0, 0) _).trans g1, (World.cell?_alloc_mark wr tblCells _ (0, 0) _).trans g2, (World.cell?_alloc_mark wr tblCells _ (0, 0) _).trans g3, (World.cell?_alloc_mark wr tblCells _ (0, 0) _).trans g4⟩
      case round =>
        obtain ⟨k, hk, rfl, hC, hB⟩ := hrel
        by_cases hlt : k < 11
        · obtain ⟨g1, g2, g3, g4⟩ := hC.out k hlt
          obtain ⟨hn, hl, hm0, hm1⟩ := tbl_all k hlt
          have hnum := fun W => num_b ⟨(rowOf k).s.toArray⟩ (by rw [size_l]; unfold maxLen; omega) (rowOf k).most hm0 hm1 W _ _ hn
          have HN := Lib.hid hnum
          clear hn hnum hm0 hm1 hl
          generalize rowOf k = r at *
          go_wp2_with (go_at_call 13; refine (HN.out _).mono ?_; rintro e w' ⟨rfl, rfl⟩)
          go_roundw
          case rel =>
            refine ⟨k + 1, by omega, by go_num, fun j hj => ?_, hB.alloc hB.size _⟩
            obtain ⟨d1, d2, d3, d4⟩ := hC.out j hj
            exact ⟨(World.cell?_alloc_lt _ _ _ (cell_lt d1)).trans d1, (World.cell?_alloc_lt _ _ _ (cell_lt d2)).trans d2, (World.cell?_alloc_lt _ _ _ (cell_lt d3)).trans d3, (World.cell?_alloc_lt _ _ _ (cell_lt d4)).trans d4⟩
          case measure => simp [intOf]; omega
        · clear hC
          have c1 : cmpB ⟨#[97]⟩ ⟨#[97, 98]⟩ = -1 := by decide
          have c2 : cmpB ⟨#[98]⟩ ⟨#[97, 98]⟩ = 1 := by decide
          have c3 : cmpB ⟨#[]⟩ ⟨#[]⟩ = 0 := by decide
          go_wp2_with (go_at_call 18; refine (copies_z [98] _ (by decide) (by omega) (by omega) _).mono ?_; rintro e w' ⟨rfl, rfl⟩)
          refine (show_zero w _ hB HT.out).mono ?_
          rintro e w3 ⟨rfl, hb3⟩
          go_wp2_with fail
          refine (show_min w _ hb3 HT.out).mono ?_
          rintro e w4 ⟨rfl, hb4⟩
          go_wp2_with (go_at_call 19; refine (compare_b _ _ w _ (by assumption)).mono ?_; rintro e w5 ⟨rfl, hb5⟩)
          clear c1 c2 c3
          refine (free_to (rep [98] 32) (by decide) _ [rep [98] 32] [] f_long w _ ((show Below _ w w5 by assumption).alloc (show Below _ w w5 by assumption).size _) HT.out (rstrs_one _ _ _ _ (by simp))).mono ?_
          rintro e w6 ⟨rfl, hb6⟩
          go_wp2_with fail
          refine (free_to [49] (by decide) _ [] [] f_one w _ hb6 HT.out (rstrs_nil _ _)).mono ?_
          rintro e w7 ⟨rfl, hb7⟩
          go_wp2_with (go_at_call 18; refine (copies_z [99] _ (by decide) (by omega) (by omega) _).mono ?_; rintro e w' ⟨rfl, rfl⟩)
          refine (free_to (rep [99] 31) (by decide) _ [rep [99] 31] (rep [99] 31 ++ [50]) f_c w _ (hb7.alloc hb7.size _) HT.out (rstrs_one _ _ _ _ (by simp))).mono ?_
          rintro e w8 ⟨rfl, hb8⟩
          have z9 : (rep [99] 31).length ≤ 100 := by decide
          have hcat : ((⟨(rep [99] 31).toArray⟩ : ByteArray) ++ ⟨#[50]⟩).toList = rep [99] 31 ++ [50] := by
            rw [show (⟨#[50]⟩ : ByteArray) = ⟨[50].toArray⟩ from rfl, cat_l, Lib.toList_data]
          go_wp2_with (go_at_call 18; refine (copies_z [99] _ (by decide) (by omega) (by omega) _).mono ?_; rintro e w' ⟨rfl, rfl⟩)
          refine (free_to [120] (by decide) _ [] [120] f_x w _ hb8 HT.out (rstrs_nil _ _)).mono ?_
          rintro e w10 ⟨rfl, hb10⟩
          go_wp2_with fail
          go_ret
          exact ⟨rfl, hb10⟩
end Go.Proofs.YthmkmffehbdniaaDoor

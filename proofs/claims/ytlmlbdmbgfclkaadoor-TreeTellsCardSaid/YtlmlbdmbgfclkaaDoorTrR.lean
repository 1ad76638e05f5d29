/- The contracts of slices.Contains (of bools) and of tree.Right. -/
import Derived.Test.YtlmlbdmbgfclkaaDoorTrQ
import Derived.Test.YtlmlbdmbgfclkaaDoorOwnN
import Derived.Test.YtlmlbdmbgfclkaaDoorShelf
namespace Go.Proofs.YtlmlbdmbgfclkaaDoor
open Go.RowKit

theorem index_bool (g n c : Nat) (bs : List Bool) (x : Bool) (w : World) (hl : bs.length = n) (hn : n ≤ 1000000) (hc : ∀ (j : Nat) (y : Bool), bs[j]? = some y → w.cell? ⟨g, j, none⟩ = some (.bool y)) :
    Calls Tryd.prog 54 #[.slice (some ⟨g, 0, none⟩) n c, .bool x] w fun e w' => (∃ r : Int, e = .returned (.int .i64 r) ∧ (0 ≤ r ↔ x ∈ bs)) ∧ Below w.heap.size w w' := by
  go_enter Tryd.func54, Tryd.ntmps54
  go_wp2
  go_loopw [8] (fun i wr => ∃ k : Nat, k ≤ n ∧ i = .int .i64 k ∧ x ∉ bs.take k ∧ Below w.heap.size w wr) (fun i _ => n - (intOf i).toNat)
  case atStart => exact ⟨0, Nat.zero_le _, rfl, by simp, Below.refl _ _⟩
  case round =>
    obtain ⟨k, hk, rfl, hno, hb⟩ := hrel
    by_cases hlt : k < n
    · obtain ⟨y, hy⟩ : ∃ y, bs[k]? = some y := ⟨_, List.getElem?_eq_getElem (by omega)⟩
      have hcy := hc k y hy
      have hcy : wr.cell? ⟨g, k, none⟩ = some (.bool y) := (hb.cell (p := ⟨g, k, none⟩) (by have := World.block_lt_of_cell? w ⟨g, k, none⟩ hcy; exact this)).trans hcy
      have hno2 : x ≠ y → x ∉ bs.take (k + 1) := fun hne => by rw [List.take_add_one, hy]; simp [hno, hne]
      have hyes : x = y → x ∈ bs := fun e => e ▸ List.mem_of_getElem? hy
      have HNO := Lib.hid hno2
      have HYES := Lib.hid hyes
      clear hno2 hyes hy hc hno
      by_cases hxy : x = y
      · subst hxy
        go_wp2
        go_ret
        have hin : x ∈ bs := by simpa using HYES.out
        exact ⟨⟨_, rfl, by simp [hin]⟩, hb⟩
      · have hne : (x == y) = false := by simpa using hxy
        go_wp2
        go_roundw
        case rel => exact ⟨k + 1, by omega, by go_num, HNO.out hxy, hb⟩
        case measure => simp [intOf]; omega
    · go_wp2
      go_ret
      exact ⟨⟨_, rfl, by have : bs.take k = bs := List.take_of_length_le (by omega); rw [this] at hno; simp [hno]⟩, hb⟩

theorem contains_bool (g n c : Nat) (bs : List Bool) (x : Bool) (w : World) (hl : bs.length = n) (hn : n ≤ 1000000) (hc : ∀ (j : Nat) (y : Bool), bs[j]? = some y → w.cell? ⟨g, j, none⟩ = some (.bool y)) :
    Calls Tryd.prog 42 #[.slice (some ⟨g, 0, none⟩) n c, .bool x] w fun e w' => e = .returned (.bool (decide (x ∈ bs))) ∧ Below w.heap.size w w' := by
  have HI := Lib.hid (index_bool g n c bs x w hl hn hc)
  clear hc
  go_enter Tryd.func42, Tryd.ntmps42
  go_wp2_with (go_at_call 54; refine HI.out.mono ?_; rintro e w' ⟨⟨r, rfl, hr⟩, hb⟩)
  go_ret
  exact ⟨ret_bool (by simp), hb⟩

theorem make_bools (n : Nat) (hn : n ≤ 1000000) : ∀ wx : World, (Instr.makeSlice 57 (.int .i64 (n : Int)) (.int .i64 (n : Int))).run Tryd.prog wx = .ok (.slice (some ⟨wx.heap.size, 0, none⟩) n n) (wx.alloc (.cells (hadOf n []).toArray 4)) := by
  have hb : (Tryd.prog.info? 4).map (fun i => (i.zero, i.size, i.bytes)) = some (some (.bool false), 1, 1) := by kernel_rfl
  obtain ⟨i0, hi0, hz0, hz1, hz2⟩ := info_parts hb
  intro wx
  have e : (hadOf n []).toArray = madeCells (Value.cells (.bool false)) (n * i0.size) := by
    rw [hz1, hadOf_nil, Nat.mul_one]
    apply Array.ext'
    symm
    simp only [madeCells, Value.cells]
    apply List.ext_getElem <;> simp [Nat.mod_one]
  rw [e]
  exact run_make_rowN _ _ i0 _ Tryd.underlying57 hi0 hz0 _ _ n n (Nat.le_refl _) (by rw [hz2]; omega) (by omega) wx

structure RightRel (ns : List Nd) (root : Int) (n : Nat) (w : World) (B : Nat) (nv : Value) (te : TypeId) (j : Nat) (wr : World) : Prop where
  ok : OkTo ns root j
  box : Blk wr B te #[nv, .int .i64 root]
  had : Blk wr (B + 1) 4 (hadOf n (root :: kidsOf (ns.take j))).toArray
  below : Below B w wr
structure RightIn (ns : List Nd) (root : Int) (n : Nat) (w : World) (B : Nat) (nv : Value) (te : TypeId) (j : Nat) (kids : List Int) (q : Nat) (wr : World) : Prop where
  low : ∀ k ∈ kids.take q, 0 ≤ k ∧ k < (j : Int)
  nodup : (root :: (kidsOf (ns.take j) ++ kids.take q)).Nodup
  box : Blk wr B te #[nv, .int .i64 root]
  had : Blk wr (B + 1) 4 (hadOf n (root :: (kidsOf (ns.take j) ++ kids.take q))).toArray
  below : Below B w wr

open Classical in
set_option maxHeartbeats 1000000 in
theorem right_any (t : Tr) (v : Value) (S : Nat → Prop) (w : World) (ht : RTree w S v t) (hS : ∀ b, S b → b < w.heap.size) (hk : KTab w) (hsz : t.nodes.length ≤ 1000000) :
    Calls Tryd.prog 11 #[v] w fun e w' => e = .returned (.bool (decide (RightT t))) ∧ Below w.heap.size w w' := by
  obtain ⟨nv, rfl, hns, hr1, hr2⟩ := ht
  obtain ⟨A, c, rfl, hc, hs, hcells⟩ := hns.at_
  clear hcells
  have hmk := make_bools t.nodes.length hsz
  by_cases hroot : t.root + 1 = t.nodes.length ∧ 0 ≤ t.root
  · obtain ⟨hr3, hr4⟩ := hroot
    obtain ⟨ns, root⟩ := t
    simp only at *
    obtain ⟨m, hm⟩ : ∃ m, ns.length = m + 1 := ⟨ns.length - 1, by omega⟩
    obtain rfl : root = (m : Int) := by omega
    obtain ⟨A', c', hv, _, _, hcells⟩ := hns.at_
    injection hv with h1 _ h3
    subst h1
    subst h3
    obtain ⟨b, off, rfl, hbS, _⟩ := hcells (by omega)
    have hbB := hS b hbS
    clear hcells
    obtain ⟨Z, hZ⟩ : ∃ Z, Z = (hadOf ns.length []).toArray := ⟨_, rfl⟩
    rw [← hZ] at hmk
    have HZ := Lib.hid hZ
    have hcz : ∀ o : Obj, ((w.alloc o).alloc (.cells Z 4)).cell? ⟨w.heap.size + 1, m, none⟩ = some (.bool false) := fun o => by
      rw [(Blk.new1 w o 4 Z).cell, hZ, List.getElem?_toArray]
      have := hadOf_at (n := ns.length) (M := []) (k := (m : Int)) (by omega) (by simp; omega)
      simpa using this
    have hfz : ∀ o : Obj, ((w.alloc o).alloc (.cells Z 4)).frozen? ⟨w.heap.size + 1, m, none⟩ = false := fun o => (Blk.new1 w o 4 Z).frozen m
    have HNS := Lib.hid hns
    rw [hm] at hmk hsz hc hs HNS
    have HM := Lib.hid hm
    rw [show ((m + 1 : Nat) : Int) = (m : Int) + 1 by omega] at hmk
    clear hZ hr3 hns
    go_enter Tryd.func11, Tryd.ntmps11
    go_wp2
    go_loopw [31] (fun i wr => ∃ j : Nat, j ≤ m + 1 ∧ i = .int .i64 j ∧ Hid (RightRel ns m (m + 1) w w.heap.size (.slice (some ⟨b, off, none⟩) (m + 1) c) 24 j wr)) (fun i _ => m + 1 - (intOf i).toNat)
    case atStart =>
      refine ⟨0, Nat.zero_le _, rfl, Lib.hid ⟨OkTo.zero _ _, ?_, ?_, ((Below.refl _ _).alloc (Nat.le_refl _) _).alloc (by simp) _⟩⟩
      · exact (Blk.new w _ _).alloc _
      · have h1 : Z.setIfInBounds m (.bool true) = (hadOf (m + 1) ((m : Int) :: kidsOf (ns.take 0))).toArray := by
          rw [HZ.out, HM.out, List.setIfInBounds_toArray]
          have := hadOf_set (n := m + 1) (M := []) (k := (m : Int)) (by omega)
          rw [Int.toNat_natCast] at this
          rw [this]; rfl
        rw [h1]
        exact Blk.new1 _ _ _ _
    case round =>
      obtain ⟨wo, rfl⟩ : ∃ wo, wo = wr := ⟨_, rfl⟩
      obtain ⟨j, hj, rfl, HR⟩ := hrel
      by_cases hlt : j < m + 1
      · obtain ⟨N, hN⟩ : ∃ N, ns[j]? = some N := ⟨_, List.getElem?_eq_getElem (by rw [HM.out]; exact hlt)⟩
        have hns2 : RNodes wo S (.slice (some ⟨b, off, none⟩) ns.length c) ns := by
          rw [HM.out]; exact HNS.out.below HR.out.below hS
        obtain ⟨_, Ak, ck, hki, hdo, hck, hkc⟩ := hns2.known j N hN
        have c0 : wo.cell? ⟨b, off + j * 9, none⟩ = some (.int .u8 N.d.kind) := hkc 0 _ rfl
        have c1 : wo.cell? ⟨b, off + j * 9 + 1, none⟩ = some (.int .u64 N.d.s0) := hkc 1 _ rfl
        have c2 : wo.cell? ⟨b, off + j * 9 + 2, none⟩ = some (.int .u64 N.d.s1) := hkc 2 _ rfl
        have c3 : wo.cell? ⟨b, off + j * 9 + 3, none⟩ = some (.int .u64 N.d.s2) := hkc 3 _ rfl
        have c4 : wo.cell? ⟨b, off + j * 9 + 4, none⟩ = some (.int .u64 N.d.s3) := hkc 4 _ rfl
        have c5 : wo.cell? ⟨b, off + j * 9 + 5, none⟩ = some (.string ⟨N.d.text.toArray⟩) := hkc 5 _ rfl
        have c6 : wo.cell? ⟨b, off + j * 9 + 6, none⟩ = some (.int .i64 N.d.min) := hkc 6 _ rfl
        have c7 : wo.cell? ⟨b, off + j * 9 + 7, none⟩ = some (.int .i64 N.d.max) := hkc 7 _ rfl
        have c8 : wo.cell? ⟨b, off + j * 9 + 8, none⟩ = some (.slice Ak N.kids.length ck) := hkc 8 _ rfl
        have hF := fun (o : Obj) => fits_any N hdo (.slice Ak N.kids.length ck) (N.kids.length : Int) (wo.alloc o) (hk.below (HR.out.below.alloc HR.out.below.size o))
        have hbs := HR.out.below.size
        have HN := Lib.hid hN
        have HKI := Lib.hid hki
        have hkl : N.kids.length ≤ maxLen := hki.small
        unfold maxLen at hkl
        clear hkc hns2 hki hN
        cases hf : fits N.d (N.kids.length : Int)
        · rw [hf] at hF
          have HF := Lib.hid hF
          have HNR := Lib.hid (not_right_fit (t := ⟨ns, (m : Int)⟩) HN.out hf)
          clear hF hf
          go_wp2_with (go_at_call 23; refine (HF.out _).mono ?_; rintro e w5 ⟨rfl, hb5⟩)
          go_ret
          exact ⟨ret_bool (by simp [HNR.out]), (HR.out.below.alloc HR.out.below.size _).trans (hb5.mono (by simp; omega))⟩
        · rw [hf] at hF
          have HF := Lib.hid hF
          have HFT := Lib.hid hf
          clear hF hf
          go_wp2_with (first
            | (go_at_call 23
               refine (HF.out _).mono ?_
               rintro e w5 ⟨rfl, hb5⟩
               have hc5 : w5.cell? ⟨wo.heap.size, 8, none⟩ = some (.slice Ak N.kids.length ck) := (hb5.cell (p := ⟨wo.heap.size, 8, none⟩) (by simp)).trans ((Blk.new wo _ _).cell 8))
            | fail)
          obtain ⟨w5', hw5'⟩ : ∃ w5', w5' = w5 := ⟨_, rfl⟩
          have hb50 : Below w.heap.size w w5 := (HR.out.below.alloc HR.out.below.size _).trans (hb5.mono (by simp; omega))
          have HB5 := Lib.hid (hb5.mono (B' := wo.heap.size) (by simp))
          go_loopw [45] (fun i wr => ∃ q : Nat, q ≤ N.kids.length ∧ i = .int .i64 q ∧ Hid (RightIn ns m (m + 1) w w.heap.size (.slice (some ⟨b, off, none⟩) (m + 1) c) 24 j N.kids q wr) ∧ Hid (RInts wr S (.slice Ak N.kids.length ck) N.kids)) (fun i _ => N.kids.length - (intOf i).toNat)
          case atStart =>
            refine ⟨0, Nat.zero_le _, rfl, Lib.hid ⟨by simp, by simpa using HR.out.ok.nodup, ?_, ?_, hb50⟩, Lib.hid ?_⟩
            · exact (HR.out.box.alloc _).below hb5 (by have := HR.out.box.lt; simp; omega)
            · simpa using (HR.out.had.alloc _).below hb5 (by have := HR.out.had.lt; simp; omega)
            · exact (HKI.out.keep fun p hp => World.cell?_alloc_lt _ _ _ (by have := hS _ hp; omega)).below hb5 (fun b hb => by have := hS _ hb; simp; omega)
          case round =>
            obtain ⟨q, hq, rfl, HI, HK⟩ := hrel
            by_cases hql : q < N.kids.length
            · obtain ⟨k, hkq⟩ : ∃ k, N.kids[q]? = some k := ⟨_, List.getElem?_eq_getElem hql⟩
              obtain ⟨bk, ok, rfl, hbk, hkc⟩ := HK.out.get q k hkq
              have hkm : k ∈ N.kids := List.mem_of_getElem? hkq
              by_cases hkr : 0 ≤ k ∧ k < (j : Int)
              · obtain ⟨hk0, hk1⟩ := hkr
                have hck : wr.cell? ⟨w.heap.size + 1, k.toNat, none⟩ = some (.bool (decide (k ∈ (m : Int) :: (kidsOf (ns.take j) ++ N.kids.take q)))) := by
                  rw [HI.out.had.cell, List.getElem?_toArray, hadOf_at hk0 (by omega)]
                have hfk := HI.out.had.frozen k.toNat
                have hkM : k < (m : Int) + 1 := by omega
                by_cases hin : k ∈ (m : Int) :: (kidsOf (ns.take j) ++ N.kids.take q)
                · rw [decide_eq_true hin] at hck
                  have HNR := Lib.hid (not_right_had (t := ⟨ns, (m : Int)⟩) HN.out hkq hin)
                  clear hin hkq hkm
                  go_wp2
                  go_ret
                  exact ⟨ret_bool (by simp [HNR.out]), HI.out.below⟩
                · rw [decide_eq_false hin] at hck
                  have HIN := Lib.hid hin
                  have HKQ := Lib.hid hkq
                  have HKM := Lib.hid hkm
                  clear hin hkq hkm
                  go_wp2
                  go_roundw
                  case measure => simp [intOf]; omega
                  case rel =>
                    have et : N.kids.take (q + 1) = N.kids.take q ++ [k] := by rw [List.take_add_one, HKQ.out]; rfl
                    refine ⟨q + 1, by omega, by go_num, Lib.hid ⟨fun z hz => ?_, ?_, ?_, ?_, ?_⟩, Lib.hid (HK.out.keep fun p hp => World.cell?_setCell_other _ _ _ _ (fun e => by have := hS _ hp; rw [← e] at this; simp at this; omega))⟩
                    · rw [et] at hz
                      rcases List.mem_append.1 hz with hz | hz
                      · exact HI.out.low z hz
                      · simp at hz; subst hz; exact ⟨hk0, hk1⟩
                    · rw [et, ← List.append_assoc, ← List.cons_append, List.nodup_append]
                      exact ⟨HI.out.nodup, by simp, fun a ha b hb e => HIN.out (by simp at hb; rw [← hb, ← e]; exact ha)⟩
                    · exact HI.out.box.far (by simp) _
                    · have h1 := HI.out.had.set_ k.toNat (.bool true)
                      rw [List.setIfInBounds_toArray, hadOf_set hk0] at h1
                      rw [et]
                      simpa using h1
                    · exact HI.out.below.setCell (by simp) _
              · have HNR := Lib.hid (not_right_low (t := ⟨ns, (m : Int)⟩) HN.out hkm hkr)
                clear hkq hkm
                rcases Int.lt_or_le k 0 with hk0 | hk0
                · go_wp2
                  go_ret
                  exact ⟨ret_bool (by simp [HNR.out]), HI.out.below⟩
                · have hk1 : (j : Int) ≤ k := by omega
                  clear hkr
                  go_wp2
                  go_ret
                  exact ⟨ret_bool (by simp [HNR.out]), HI.out.below⟩
            · have hqe : q = N.kids.length := by omega
              subst hqe
              have hI := HI.out
              have htl : N.kids.take N.kids.length = N.kids := List.take_length
              go_wp2
              go_roundw
              case measure => simp [intOf]; omega
              case rel =>
                refine ⟨j + 1, by omega, by go_num, Lib.hid ⟨HR.out.ok.next HN.out HFT.out (by have := hI.low; rwa [htl] at this) (by have := hI.nodup; rwa [htl] at this), hI.box, ?_, hI.below⟩⟩
                have := hI.had
                rw [htl] at this
                rw [kidsOf_take HN.out]
                exact this
      · have hje : j = m + 1 := by omega
        subst hje
        have hiff := rightT_iff (t := ⟨ns, (m : Int)⟩) (by simp only; rw [HM.out]; omega) (by simp only; omega) (by simp only; rw [HM.out]; exact HR.out.ok)
        simp only [HM.out] at hiff
        have htk : ns.take (m + 1) = ns := List.take_of_length_le (by rw [HM.out]; exact Nat.le_refl _)
        have hhad := HR.out.had
        rw [htk] at hhad
        have HC := Lib.hid (contains_bool (w.heap.size + 1) (m + 1) (m + 1) ((List.range (m + 1)).map fun (j : Nat) => decide ((j : Int) ∈ (m : Int) :: kidsOf ns)) false wo (by simp) hsz (fun i y hy => by
          rw [hhad.cell, List.getElem?_toArray]
          unfold hadOf
          rw [List.getElem?_map] at hy ⊢
          cases hx : (List.range (m + 1))[i]? with
          | none => rw [hx] at hy; cases hy
          | some x => rw [hx] at hy; simp at hy ⊢; exact hy))
        have hfin : (!decide (false ∈ (List.range (m + 1)).map fun (j : Nat) => decide ((j : Int) ∈ (m : Int) :: kidsOf ns))) = decide (RightT ⟨ns, (m : Int)⟩) := by
          rw [Bool.eq_iff_iff, decide_eq_true_eq, hiff, Bool.not_eq_true', decide_eq_false_iff_not]
          simp only [List.mem_map, List.mem_range, decide_eq_false_iff_not, not_exists, not_and, Decidable.not_not]
        obtain ⟨X, hX⟩ : ∃ X, X = decide (false ∈ (List.range (m + 1)).map fun (j : Nat) => decide ((j : Int) ∈ (m : Int) :: kidsOf ns)) := ⟨_, rfl⟩
        rw [← hX] at HC hfin
        have HFIN := Lib.hid hfin
        clear hiff hfin hX hhad htk
        go_wp2_with (go_at_call 42; refine HC.out.mono ?_; rintro e w5 ⟨rfl, hb5⟩)
        go_ret
        exact ⟨ret_bool HFIN.out, HR.out.below.trans (hb5.mono HR.out.below.size)⟩
  · have hno := not_right_root hroot
    have HNO := Lib.hid hno
    clear hno
    go_enter Tryd.func11, Tryd.ntmps11
    go_wp2
    all_goals go_ret
    all_goals exact ⟨ret_bool (by simp [HNO.out]), (Below.refl _ _).alloc (Nat.le_refl _) _⟩
end Go.Proofs.YtlmlbdmbgfclkaaDoor

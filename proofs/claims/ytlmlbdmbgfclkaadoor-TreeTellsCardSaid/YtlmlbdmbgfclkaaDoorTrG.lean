/- The contract of bonsairef04.Exact: two arenas, node by node. -/
import Derived.Test.YtlmlbdmbgfclkaaDoorTrE
import Derived.Deep.RegionHeld3
import Derived.Deep.CutBlock
import Derived.Deep.Cut
namespace Go.Proofs.YtlmlbdmbgfclkaaDoor
open Go.RowKit
open Classical

theorem nd_eq {x y : Nd} (h1 : x.d = y.d) (h2 : x.kids = y.kids) : x = y := by cases x; cases y; simp_all
instance : DecidableEq Tr := fun a b => decidable_of_iff (a.nodes = b.nodes ∧ a.root = b.root) ⟨fun h => by cases a; cases b; simp_all, fun h => by simp [h]⟩
set_option maxRecDepth 20000 in
set_option maxHeartbeats 8000000 in
theorem exact_g {a b : Tr} {va vb : Value} {S S' : Nat → Prop} {w : World} (ha : RTree w S va a) (hb : RTree w S' vb b) (hS : ∀ b, S b → b < w.heap.size) (hS' : ∀ b, S' b → b < w.heap.size) (hl : a.nodes.length ≤ 1000000) :
    Calls Tryd.prog 13 #[va, vb] w fun e w' => e = .returned (.bool (decide (a = b))) ∧ Below w.heap.size w w' := by
  obtain ⟨nva, rfl, hna, _⟩ := ha
  obtain ⟨nvb, rfl, hnb, _⟩ := hb
  obtain ⟨A, c, rfl, _, _, hA⟩ := hna.at_
  obtain ⟨A', c', rfl, _, _, hB⟩ := hnb.at_
  clear hA hB
  obtain ⟨an, ar⟩ := a
  obtain ⟨bn, br⟩ := b
  simp only at *
  by_cases hlen : an.length = bn.length
  · by_cases hroot : ar = br
    · subst hroot
      have HNA := Lib.hid hna
      have HNB := Lib.hid hnb
      have HL := Lib.hid hlen
      obtain ⟨n, hn⟩ : ∃ n, n = an.length := ⟨_, rfl⟩
      have HN := Lib.hid hn
      rw [← hn] at hl
      rw [← hlen, ← hn]
      clear hna hnb hlen hn
      go_enter Tryd.func13, Tryd.ntmps13
      go_wp2
      go_loopw [5] (fun i wr => ∃ k : Nat, k ≤ n ∧ i = .int .i64 k ∧ Hid (an.take k = bn.take k) ∧ Hid (Blk wr w.heap.size 24 #[.slice A n c, .int .i64 ar]) ∧ Hid (Blk wr (w.heap.size + 1) 24 #[.slice A' n c', .int .i64 ar]) ∧ Hid (Below w.heap.size w wr)) (fun i _ => n - (intOf i).toNat)
      case atStart => exact ⟨0, Nat.zero_le _, rfl, Lib.hid (by simp), Lib.hid ((Blk.new w _ _).alloc _), Lib.hid (Blk.new1 _ _ _ _), Lib.hid (((Below.refl _ _).alloc (Nat.le_refl _) _).alloc (by simp) _)⟩
      case round =>
        obtain ⟨wo, rfl⟩ : ∃ wo, wo = wr := ⟨_, rfl⟩
        obtain ⟨k, hk, rfl, HT, HA, HB, HW⟩ := hrel
        by_cases hlt : k < n
        · obtain ⟨x, hx⟩ : ∃ x, an[k]? = some x := ⟨_, List.getElem?_eq_getElem (by rw [← HN.out]; exact hlt)⟩
          obtain ⟨y, hy⟩ : ∃ y, bn[k]? = some y := ⟨_, List.getElem?_eq_getElem (by rw [← HL.out, ← HN.out]; exact hlt)⟩
          obtain ⟨b, off, Ak, ck, rfl, hbS, hki, hdo, c0, c1, c2, c3, c4, c5, c6, c7, c8⟩ := (HNA.out.below HW.out hS).get k x hx
          obtain ⟨b', off', Ak', ck', rfl, hbS', hki', hdo', e0, e1, e2, e3, e4, e5, e6, e7, e8⟩ := (HNB.out.below HW.out hS').get k y hy
          have d0 := HA.out.cell 0
          have f0 := HB.out.cell 0
          have hbB := hS b hbS
          have hbB' := hS' b' hbS'
          have hbs := HW.out.size
          have hA2 : wo.cell? ⟨w.heap.size, 0, none⟩ = some (.slice (some ⟨b, off, none⟩) n c) := d0
          have hB2 : wo.cell? ⟨w.heap.size + 1, 0, none⟩ = some (.slice (some ⟨b', off', none⟩) n c') := f0
          have hk0 : (0 : Int) ≤ (k : Int) := by omega
          have hkn : (k : Int) < (n : Int) := by omega
          clear d0 f0
          have n0 := World.new_ne wo _ hA2
          have n1 := World.new_ne wo _ hB2
          have n2 := World.new_ne wo _ c0
          have n3 := World.new_ne wo _ c1
          have n4 := World.new_ne wo _ c2
          have n5 := World.new_ne wo _ c3
          have n6 := World.new_ne wo _ c4
          have n7 := World.new_ne wo _ c5
          have n8 := World.new_ne wo _ c6
          have n9 := World.new_ne wo _ c7
          have n10 := World.new_ne wo _ c8
          have n11 := World.new_ne wo _ e0
          have n12 := World.new_ne wo _ e1
          have n13 := World.new_ne wo _ e2
          have n14 := World.new_ne wo _ e3
          have n15 := World.new_ne wo _ e4
          have n16 := World.new_ne wo _ e5
          have n17 := World.new_ne wo _ e6
          have n18 := World.new_ne wo _ e7
          have n19 := World.new_ne wo _ e8
          go_upto_region 6 with fail
          go_cut [6, 7] from 30 to 39 (fun X Y wx => ∃ bx by_ : Nat, X = .pointer (some ⟨bx, 0, none⟩) ∧ Y = .pointer (some ⟨by_, 0, none⟩) ∧ wo.heap.size ≤ bx ∧ wo.heap.size ≤ by_ ∧ Hid (Blk wx bx 34 #[.int .u8 x.d.kind, .int .u64 x.d.s0, .int .u64 x.d.s1, .int .u64 x.d.s2, .int .u64 x.d.s3, .string ⟨x.d.text.toArray⟩, .int .i64 x.d.min, .int .i64 x.d.max, .slice Ak x.kids.length ck]) ∧ Hid (Blk wx by_ 34 #[.int .u8 y.d.kind, .int .u64 y.d.s0, .int .u64 y.d.s1, .int .u64 y.d.s2, .int .u64 y.d.s3, .string ⟨y.d.text.toArray⟩, .int .i64 y.d.min, .int .i64 y.d.max, .slice Ak' y.kids.length ck']) ∧ Hid (Below wo.heap.size wo wx))
          case first =>
            go_region_held3 (fun w' => w'.cell? ⟨w.heap.size, 0, none⟩ = some (.slice (some ⟨b, off, none⟩) n c) ∧ w'.cell? ⟨w.heap.size + 1, 0, none⟩ = some (.slice (some ⟨b', off', none⟩) n c') ∧ w'.cell? ⟨b, off + k * 9, none⟩ = some (.int .u8 x.d.kind) ∧ w'.cell? ⟨b, off + k * 9 + 1, none⟩ = some (.int .u64 x.d.s0) ∧ w'.cell? ⟨b, off + k * 9 + 2, none⟩ = some (.int .u64 x.d.s1) ∧ w'.cell? ⟨b, off + k * 9 + 3, none⟩ = some (.int .u64 x.d.s2) ∧ w'.cell? ⟨b, off + k * 9 + 4, none⟩ = some (.int .u64 x.d.s3) ∧ w'.cell? ⟨b, off + k * 9 + 5, none⟩ = some (.string ⟨x.d.text.toArray⟩) ∧ w'.cell? ⟨b, off + k * 9 + 6, none⟩ = some (.int .i64 x.d.min) ∧ w'.cell? ⟨b, off + k * 9 + 7, none⟩ = some (.int .i64 x.d.max) ∧ w'.cell? ⟨b, off + k * 9 + 8, none⟩ = some (.slice Ak x.kids.length ck) ∧ w'.cell? ⟨b', off' + k * 9, none⟩ = some (.int .u8 y.d.kind) ∧ w'.cell? ⟨b', off' + k * 9 + 1, none⟩ = some (.int .u64 y.d.s0) ∧ w'.cell? ⟨b', off' + k * 9 + 2, none⟩ = some (.int .u64 y.d.s1) ∧ w'.cell? ⟨b', off' + k * 9 + 3, none⟩ = some (.int .u64 y.d.s2) ∧ w'.cell? ⟨b', off' + k * 9 + 4, none⟩ = some (.int .u64 y.d.s3) ∧ w'.cell? ⟨b', off' + k * 9 + 5, none⟩ = some (.string ⟨y.d.text.toArray⟩) ∧ w'.cell? ⟨b', off' + k * 9 + 6, none⟩ = some (.int .i64 y.d.min) ∧ w'.cell? ⟨b', off' + k * 9 + 7, none⟩ = some (.int .i64 y.d.max) ∧ w'.cell? ⟨b', off' + k * 9 + 8, none⟩ = some (.slice Ak' y.kids.length ck')) (go_keep) (fail)
            all_goals (go_wp2_with fail)
            all_goals go_meet
            · exact ⟨wo.heap.size, wo.heap.size + 1, rfl, rfl, Nat.le_refl _, Nat.le_succ _, Lib.hid ((Blk.new wo _ _).alloc _).drew, Lib.hid (Blk.new1 wo _ _ _).drew, Lib.hid (below_drewN (((Below.refl _ _).alloc (Nat.le_refl _) _).alloc (by simp) _) 1)⟩
            · exact ⟨wo.heap.size + 1, wo.heap.size, rfl, rfl, Nat.le_succ _, Nat.le_refl _, Lib.hid (Blk.new1 wo _ _ _).drew, Lib.hid ((Blk.new wo _ _).alloc _).drew, Lib.hid (below_drewN (((Below.refl _ _).alloc (Nat.le_refl _) _).alloc (by simp) _) 1)⟩
          case rest =>
            obtain ⟨bx, by_, rfl, rfl, hbx, hby, HBX, HBY, HBW⟩ := hcut
            have HXY := Lib.hid (show x ≠ y → an ≠ bn from fun hne e => hne (by rw [e, hy] at hx; injection hx with hx; exact hx.symm))
            obtain ⟨p0, p1, p2, p3, p4, p5, p6, p7, p8⟩ := HBX.out.nine
            obtain ⟨q0, q1, q2, q3, q4, q5, q6, q7, q8⟩ := HBY.out.nine
            have HX := Lib.hid hx
            have HY := Lib.hid hy
            have HKI := Lib.hid hki
            have HKI' := Lib.hid hki'
            clear hx hy hki hki' hA2 hB2 c0 c1 c2 c3 c4 c5 c6 c7 c8 e0 e1 e2 e3 e4 e5 e6 e7 e8 n0 n1 n2 n3 n4 n5 n6 n7 n8 n9 n10 n11 n12 n13 n14 n15 n16 n17 n18 n19
            go_wp2
            · rename_i hd
              have hne : x ≠ y := fun e => by rw [e] at hd; simp at hd
              have HNE := Lib.hid (HXY.out hne)
              clear hne
              go_ret
              exact ⟨ret_bool (by simp [HNE.out]), HW.out.trans (HBW.out.mono HW.out.size)⟩
            · rename_i h1 h2 h3 h4 h5 h6
              have hkl : x.kids.length = y.kids.length := by
                have h7 : (x.kids.length : Int) = (y.kids.length : Int) := by simpa using h6
                omega
              have hdd : x.d = y.d := by
                obtain ⟨s1, s2, s3, s4⟩ := h2
                generalize x.d = xd at *
                generalize y.d = yd at *
                cases xd; cases yd
                simp only at *
                subst h1 s1 s2 s3 s4 h3 h4 h5
                rfl
              have HDD := Lib.hid hdd
              have HKL := Lib.hid hkl
              have hbW : Below w.heap.size w wc := HW.out.trans (HBW.out.mono HW.out.size)
              have HA7 := Lib.hid (HA.out.below HBW.out HA.out.lt)
              have HB7 := Lib.hid (HB.out.below HBW.out HB.out.lt)
              have HW7 := Lib.hid hbW
              have HKI7 := Lib.hid (HKI.out.below HBW.out (fun b hb => Nat.lt_of_lt_of_le (hS b hb) HW.out.size))
              have HKI8 := Lib.hid (HKI'.out.below HBW.out (fun b hb => Nat.lt_of_lt_of_le (hS' b hb) HW.out.size))
              have hxs : x.kids.length ≤ maxLen := HKI.out.small
              unfold maxLen at hxs
              clear hdd hkl h1 h2 h3 h4 h5 h6 hbW p0 p1 p2 p3 p4 p5 p6 p7 p8 q0 q1 q2 q3 q4 q5 q6 q7 q8
              go_loopw [8] (fun i wr => ∃ q : Nat, q ≤ x.kids.length ∧ i = .int .i64 q ∧ Hid (x.kids.take q = y.kids.take q) ∧ Hid (Blk wr bx 34 #[.int .u8 x.d.kind, .int .u64 x.d.s0, .int .u64 x.d.s1, .int .u64 x.d.s2, .int .u64 x.d.s3, .string ⟨x.d.text.toArray⟩, .int .i64 x.d.min, .int .i64 x.d.max, .slice Ak x.kids.length ck]) ∧ Hid (Blk wr by_ 34 #[.int .u8 y.d.kind, .int .u64 y.d.s0, .int .u64 y.d.s1, .int .u64 y.d.s2, .int .u64 y.d.s3, .string ⟨y.d.text.toArray⟩, .int .i64 y.d.min, .int .i64 y.d.max, .slice Ak' y.kids.length ck']) ∧ Hid (Blk wr w.heap.size 24 #[.slice (some ⟨b, off, none⟩) n c, .int .i64 ar]) ∧
                Hid (Blk wr (w.heap.size + 1) 24 #[.slice (some ⟨b', off', none⟩) n c', .int .i64 ar]) ∧ Hid (Below w.heap.size w wr) ∧ Hid (RInts wr S (.slice Ak x.kids.length ck) x.kids) ∧ Hid (RInts wr S' (.slice Ak' y.kids.length ck') y.kids)) (fun i _ => x.kids.length - (intOf i).toNat)
              case atStart => exact ⟨0, Nat.zero_le _, rfl, Lib.hid (by simp), HBX, HBY, HA7, HB7, HW7, HKI7, HKI8⟩
              case round =>
                obtain ⟨q, hq, rfl, HQ, HX9, HY9, HA9, HB9, HW9, HK9, HK10⟩ := hrel
                have p8 := HX9.out.cell 8
                have p8 : wr.cell? ⟨bx, 8, none⟩ = some (.slice Ak x.kids.length ck) := p8
                have q8 := HY9.out.cell 8
                have q8 : wr.cell? ⟨by_, 8, none⟩ = some (.slice Ak' y.kids.length ck') := q8
                by_cases hql : q < x.kids.length
                · obtain ⟨z, hz⟩ : ∃ z, x.kids[q]? = some z := ⟨_, List.getElem?_eq_getElem hql⟩
                  obtain ⟨z', hz'⟩ : ∃ z', y.kids[q]? = some z' := ⟨_, List.getElem?_eq_getElem (by rw [← HKL.out]; exact hql)⟩
                  obtain ⟨bk, ok, rfl, _, hkc⟩ := HK9.out.get q z hz
                  obtain ⟨bk', ok', rfl, _, hkc'⟩ := HK10.out.get q z' hz'
                  have hq0 : (0 : Int) ≤ (q : Int) := by omega
                  have hq1 : (q : Int) < (x.kids.length : Int) := by omega
                  have hq2 : (q : Int) < (y.kids.length : Int) := by have := HKL.out; omega
                  have hq3 : q < y.kids.length := by omega
                  have HZ := Lib.hid hz
                  have HZ' := Lib.hid hz'
                  clear hz hz'
                  by_cases hzz : z = z'
                  · subst hzz
                    have htk : x.kids.take (q + 1) = y.kids.take (q + 1) := by rw [List.take_add_one, List.take_add_one, HQ.out, HZ.out, HZ'.out]
                    have HTK := Lib.hid htk
                    clear htk
                    go_wp2
                    go_region
                    go_wp2
                    go_roundw
                    case rel => exact ⟨q + 1, by omega, by go_num, HTK, Lib.hid HX9.out.drew, Lib.hid HY9.out.drew, Lib.hid HA9.out.drew, Lib.hid HB9.out.drew, Lib.hid (below_drewN HW9.out 1), Lib.hid (HK9.out.keep fun _ _ => rfl), Lib.hid (HK10.out.keep fun _ _ => rfl)⟩
                    case measure => simp [intOf]; omega
                  · have hzn : (z == z') = false := by simpa using hzz
                    have hne : x ≠ y := fun e => by
                      have h1 := HZ.out
                      rw [e, HZ'.out] at h1
                      injection h1 with h1
                      exact hzz h1.symm
                    have HNE := Lib.hid (HXY.out hne)
                    clear hzz hne
                    go_wp2
                    go_region
                    go_wp2
                    go_ret
                    exact ⟨ret_bool (by simp [HNE.out]), below_drewN HW9.out 1⟩
                · have hxy : x = y := by
                    have h := HQ.out
                    rw [List.take_of_length_le (by omega), List.take_of_length_le (by rw [← HKL.out]; omega)] at h
                    exact nd_eq HDD.out h
                  have htk : an.take (k + 1) = bn.take (k + 1) := by rw [List.take_add_one, List.take_add_one, HT.out, HX.out, HY.out, hxy]
                  have HTK := Lib.hid htk
                  clear htk hxy
                  have hqe : q = x.kids.length := by omega
                  subst hqe
                  clear hql hq
                  go_wp2
                  go_roundw
                  case rel => exact ⟨k + 1, by omega, by go_num, HTK, HA9, HB9, HW9⟩
                  case measure => simp [intOf]; omega
            · rename_i hd
              have hne : x ≠ y := fun e => by rw [e] at hd; exact hd rfl
              have HNE := Lib.hid (HXY.out hne)
              clear hne
              go_ret
              exact ⟨ret_bool (by simp [HNE.out]), HW.out.trans (HBW.out.mono HW.out.size)⟩
            · rename_i hd
              have hne : x ≠ y := fun e => by rw [e] at hd; exact hd rfl
              have HNE := Lib.hid (HXY.out hne)
              clear hne
              go_ret
              exact ⟨ret_bool (by simp [HNE.out]), HW.out.trans (HBW.out.mono HW.out.size)⟩
            · rename_i hd
              have hne : x ≠ y := fun e => by rw [e] at hd; exact hd rfl
              have HNE := Lib.hid (HXY.out hne)
              clear hne
              go_ret
              exact ⟨ret_bool (by simp [HNE.out]), HW.out.trans (HBW.out.mono HW.out.size)⟩
            · rename_i hd
              have hne : x ≠ y := fun e => by rw [e] at hd; exact hd ⟨rfl, rfl, rfl, rfl⟩
              have HNE := Lib.hid (HXY.out hne)
              clear hne
              go_ret
              exact ⟨ret_bool (by simp [HNE.out]), HW.out.trans (HBW.out.mono HW.out.size)⟩
            · rename_i hd
              have hne : x ≠ y := fun e => by rw [e] at hd; exact hd rfl
              have HNE := Lib.hid (HXY.out hne)
              clear hne
              go_ret
              exact ⟨ret_bool (by simp [HNE.out]), HW.out.trans (HBW.out.mono HW.out.size)⟩
        · have heq : (⟨an, ar⟩ : Tr) = ⟨bn, ar⟩ := by
            have h := HT.out
            rw [List.take_of_length_le (by rw [← HN.out]; omega), List.take_of_length_le (by rw [← HL.out, ← HN.out]; omega)] at h
            rw [h]
          have HEQ := Lib.hid heq
          have hA2 := HA.out.cell 0
          have hA2 : wo.cell? ⟨w.heap.size, 0, none⟩ = some (.slice A n c) := hA2
          clear heq
          go_wp2
          go_ret
          exact ⟨ret_bool (by rw [HEQ.out]; simp), HW.out⟩
    · have hne : (⟨an, ar⟩ : Tr) ≠ ⟨bn, br⟩ := fun e => hroot (by injection e)
      have HNE := Lib.hid hne
      have hrr : (ar == br) = false := by simpa using hroot
      rw [← hlen]
      clear hne hna hnb hlen
      generalize an.length = n at *
      go_enter Tryd.func13, Tryd.ntmps13
      go_wp2
      go_ret
      exact ⟨ret_bool (by simp [HNE.out]), ((Below.refl _ _).alloc (Nat.le_refl _) _).alloc (by simp) _⟩
  · have hne : (⟨an, ar⟩ : Tr) ≠ ⟨bn, br⟩ := fun e => hlen (by injection e with e1 e2; rw [e1])
    have HNE := Lib.hid hne
    have hl2 : ((an.length : Int) == (bn.length : Int)) = false := by simp; omega
    clear hne hna hnb
    generalize an.length = n at *
    generalize bn.length = m at *
    go_enter Tryd.func13, Tryd.ntmps13
    go_wp2
    go_ret
    exact ⟨ret_bool (by simp [HNE.out]), ((Below.refl _ _).alloc (Nat.le_refl _) _).alloc (by simp) _⟩
end Go.Proofs.YtlmlbdmbgfclkaaDoor

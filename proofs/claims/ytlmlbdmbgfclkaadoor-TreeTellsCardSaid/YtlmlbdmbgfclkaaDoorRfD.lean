/- The contracts of bonsairef04.Depth, May. -/
import Derived.Test.YtlmlbdmbgfclkaaDoorRfC
import Derived.Test.YtlmlbdmbgfclkaaDoorTrB
import Derived.StillTailTactics
namespace Go.Proofs.YtlmlbdmbgfclkaaDoor
open Go.RowKit
open Classical

set_option maxRecDepth 20000 in
set_option maxHeartbeats 4000000 in
theorem rDepth_g {t : Tr} {v : Value} {S : Nat → Prop} {w : World} (h : GivenR t v S w) :
    Calls Tryd.prog 31 #[v] w fun e w' => e = .returned (.int .i64 (depthT t)) ∧ Below w.heap.size w w' := by
  have HR := Lib.hid (fun wx (hx : Below w.heap.size w wx) => rright_g (h.below hx))
  have HG := Lib.hid h
  obtain ⟨nv, rfl, hns, hr1, hr2⟩ := h.given.read
  obtain ⟨A, c, rfl, hc, hs, hcells⟩ := hns.at_
  by_cases hr : RightT t
  · have hv : depthT t = (D t.nodes t.root.toNat).depth := if_pos hr
    rw [decide_eq_true hr] at HR
    have hlow := hr.shape.low
    have hn := hr.shape.root_lt
    have h0 := hr.shape.pos
    have hsz := h.given.small
    have hS := h.given.old
    obtain ⟨b, off, rfl, hbS, _⟩ := hcells (by omega)
    have hbB := hS b hbS
    clear hcells
    have hmk := make_zeros t.nodes.length (by omega)
    generalize hZ : (tabOf t.nodes.length fun _ => 0).toArray = Z at hmk
    have HZ := Lib.hid hZ
    have HNS := Lib.hid hns
    have HV := Lib.hid hv
    have HRT := Lib.hid hr
    have hrl : t.root < (t.nodes.length : Int) := by omega
    clear hns hZ h hv hr
    go_enter Tryd.func31, Tryd.ntmps31
    go_wp2_with fail
    refine (HR.out _ ((Below.refl _ _).alloc (Nat.le_refl _) _)).mono ?_
    rintro e w1 ⟨rfl, hb1⟩
    have hb01 : Below w.heap.size w w1 := ((Below.refl _ _).alloc (Nat.le_refl _) _).trans (hb1.mono (by simp <;> omega))
    have hB1 : Blk w1 w.heap.size 24 #[.slice (some ⟨b, off, none⟩) t.nodes.length c, .int .i64 t.root] := (Blk.new w _ _).below hb1 (by simp)
    have d0 : w1.cell? ⟨w.heap.size, 0, none⟩ = some (.slice (some ⟨b, off, none⟩) t.nodes.length c) := hB1.cell 0
    have hw1 : w.heap.size < w1.heap.size := hB1.lt
    have HB1 := Lib.hid hB1
    have Hb01 := Lib.hid hb01
    clear hb1 hB1 hb01
    go_wp2_with fail
    go_loopw [4] (fun i wr => ∃ j : Nat, j ≤ t.nodes.length ∧ i = .int .i64 j ∧ Hid (Blk wr w.heap.size 24 #[.slice (some ⟨b, off, none⟩) t.nodes.length c, .int .i64 t.root]) ∧
      Hid (Blk wr w1.heap.size 3 (tabOf t.nodes.length (dOuter t.nodes j)).toArray) ∧ Hid (Below w.heap.size w wr)) (fun i _ => t.nodes.length - (intOf i).toNat)
    case atStart =>
      refine ⟨0, Nat.zero_le _, rfl, Lib.hid (HB1.out.alloc _), Lib.hid ?_, Lib.hid (Hb01.out.alloc Hb01.out.size _)⟩
      have e : tabOf t.nodes.length (fun _ => 0) = tabOf t.nodes.length (dOuter t.nodes 0) := tabOf_congr fun j _ => by simp [dOuter]
      rw [← HZ.out, ← e]
      exact Blk.new _ _ _
    case round =>
      clear d0
      obtain ⟨wo, rfl⟩ : ∃ wo, wo = wr := ⟨_, rfl⟩
      obtain ⟨j, hj, rfl, HB, HL, HW⟩ := hrel
      by_cases hlt : j < t.nodes.length
      · obtain ⟨N, hN⟩ : ∃ N, t.nodes[j]? = some N := ⟨_, List.getElem?_eq_getElem hlt⟩
        have hnk := HG.out.kids N (List.mem_of_getElem? hN)
        have HN := Lib.hid hN
        clear hN
        have hjl : (j : Int) < (t.nodes.length : Int) := by omega
        have hji : (0 : Int) ≤ (j : Int) := by omega
        have d0 : wo.cell? ⟨w.heap.size, 0, none⟩ = some (.slice (some ⟨b, off, none⟩) t.nodes.length c) := HB.out.cell 0
        go_wp2_with fail
        go_loopw [5] (fun i wr => ∃ q : Nat, q ≤ N.kids.length ∧ i = .int .i64 q ∧ Hid (Blk wr w.heap.size 24 #[.slice (some ⟨b, off, none⟩) t.nodes.length c, .int .i64 t.root]) ∧
          Hid (Blk wr w1.heap.size 3 (tabOf t.nodes.length (dInner t.nodes N.kids j q)).toArray) ∧ Hid (Below w.heap.size w wr)) (fun i _ => N.kids.length - (intOf i).toNat)
        case atStart =>
          refine ⟨0, Nat.zero_le _, rfl, HB, Lib.hid ?_, HW⟩
          have e : tabOf t.nodes.length (dInner t.nodes N.kids j 0) = tabOf t.nodes.length (dOuter t.nodes j) := tabOf_congr fun i _ => by
            unfold dInner dOuter
            simp [depths]
          rw [e]
          exact HL.out
        case round =>
          clear d0
          obtain ⟨q, hq, rfl, HB2, HL2, HW2⟩ := hrel
          obtain ⟨_, Ak, ck, hki, hdo, hck, hkc⟩ := (HNS.out.below HW2.out hS).known j N HN.out
          have c8 : wr.cell? ⟨b, off + j * 9 + 8, none⟩ = some (.slice Ak N.kids.length ck) := hkc 8 _ rfl
          have d0 : wr.cell? ⟨w.heap.size, 0, none⟩ = some (.slice (some ⟨b, off, none⟩) t.nodes.length c) := HB2.out.cell 0
          by_cases hql : q < N.kids.length
          · obtain ⟨k, hkq⟩ : ∃ k, N.kids[q]? = some k := ⟨_, List.getElem?_eq_getElem hql⟩
            obtain ⟨bk, ok, rfl, hbk, hkc⟩ := hki.get q k hkq
            have hkb := hlow j N HN.out k (List.mem_of_getElem? hkq)
            obtain ⟨da, hda⟩ : ∃ da : Nat, da = depths ((N.kids.take q).map fun k => D t.nodes k.toNat) := ⟨_, rfl⟩
            obtain ⟨db, hdb⟩ : ∃ db : Nat, db = (D t.nodes k.toNat).depth := ⟨_, rfl⟩
            have hcj : wr.cell? ⟨w1.heap.size, j, none⟩ = some (.int .i64 da) := by
              rw [HL2.out.cell, List.getElem?_toArray, tabOf_at hlt, hda]
              simp [dInner]
            have hck2 : wr.cell? ⟨w1.heap.size, k.toNat, none⟩ = some (.int .i64 db) := by
              rw [HL2.out.cell, List.getElem?_toArray, tabOf_at (by omega), hdb]
              simp only [dInner]
              rw [if_pos (by omega)]
            have hfj := HL2.out.frozen j
            have hk0 : 0 ≤ k := hkb.1
            have hkl : k < (t.nodes.length : Int) := by omega
            have hq0 : (0 : Int) ≤ (q : Int) := by omega
            have hql' : (q : Int) < (N.kids.length : Int) := by omega
            have HKQ := Lib.hid hkq
            have HDA := Lib.hid hda
            have HDB := Lib.hid hdb
            clear hkq hda hdb hki hdo hkb
            go_wp2_with fail
            go_still_tail 20, (by kernel_rfl)
            all_goals (go_wp2_with fail)
            go_roundw
            case measure => simp [intOf]; omega
            case rel =>
              have h1 := HL2.out.set_ j (.int .i64 (max (da : Int) (db : Int)))
              rw [List.setIfInBounds_toArray, tabOf_set (G := dInner t.nodes N.kids j (q + 1)) _ (fun i _ => by
                unfold dInner
                by_cases h1 : i < j
                · rw [if_pos h1, if_neg (by omega), if_pos h1]
                · rw [if_neg h1]
                  by_cases h2 : i = j
                  · rw [if_pos h2, if_pos h2, List.take_add_one, HKQ.out, List.map_append]
                    simp only [Option.toList_some, List.map_cons, List.map_nil]
                    rw [depths_snoc, ← HDA.out, ← HDB.out]
                    show ((max da db : Nat) : Int) = _
                    omega
                  · rw [if_neg h2, if_neg h2, if_neg h1, if_neg h2])] at h1
              exact ⟨q + 1, by omega, by go_num, Lib.hid ((HB2.out.far (by simp; omega) _).drew), Lib.hid h1.drew, Lib.hid (below_drewN (HW2.out.setCell (by simp; omega) _) 1)⟩
          · have hqe : q = N.kids.length := by omega
            subst hqe
            obtain ⟨da, hda⟩ : ∃ da : Nat, da = depths (N.kids.map fun k => D t.nodes k.toNat) := ⟨_, rfl⟩
            have hcj : wr.cell? ⟨w1.heap.size, j, none⟩ = some (.int .i64 da) := by
              rw [HL2.out.cell, List.getElem?_toArray, tabOf_at hlt, hda]
              simp [dInner]
            have hfj := HL2.out.frozen j
            have hdd : (D t.nodes j).depth = da + 1 := by rw [D_eq hlow HN.out, hda]; simp only [T.depth]; omega
            have hdl := depth_le hlow j hlt
            have hda2 : da ≤ 1000000 := by omega
            have HDD := Lib.hid hdd
            clear hda hdd hdl hki hdo hkc
            go_wp2
            go_roundw
            case measure => simp [intOf]; omega
            case rel =>
              have h1 := HL2.out.set_ j (.int .i64 ((da : Int) + 1))
              rw [List.setIfInBounds_toArray, tabOf_set (G := dOuter t.nodes (j + 1)) _ (fun i _ => by
                unfold dInner dOuter
                by_cases h1 : i < j
                · rw [if_pos (by omega), if_neg (by omega), if_pos h1]
                · by_cases h2 : i = j
                  · rw [if_pos (by omega), if_pos h2, h2, HDD.out]; omega
                  · rw [if_neg (by omega), if_neg h2, if_neg h1, if_neg h2])] at h1
              exact ⟨j + 1, by omega, by go_num, Lib.hid (HB2.out.far (by simp; omega) _), Lib.hid h1, Lib.hid (HW2.out.setCell (by simp; omega) _)⟩
      · have hje : j = t.nodes.length := by omega
        subst hje
        obtain ⟨dr, hdr⟩ : ∃ dr, dr = ((D t.nodes t.root.toNat).depth : Int) := ⟨_, rfl⟩
        have hc1 : wo.cell? ⟨w1.heap.size, t.root.toNat, none⟩ = some (.int .i64 dr) := by
          rw [HL.out.cell, List.getElem?_toArray, tabOf_at hn, hdr]
          simp only [dOuter]
          rw [if_pos hn]
        have d0 : wo.cell? ⟨w.heap.size, 0, none⟩ = some (.slice (some ⟨b, off, none⟩) t.nodes.length c) := HB.out.cell 0
        have d1 : wo.cell? ⟨w.heap.size, 1, none⟩ = some (.int .i64 t.root) := HB.out.cell 1
        have HDR := Lib.hid hdr
        clear hdr
        go_wp2
        go_ret
        refine ⟨?_, HW.out⟩
        rw [HV.out, ← HDR.out]; rfl
  · have hv : depthT t = 0 := if_neg hr
    rw [decide_eq_false hr] at HR
    have HV := Lib.hid hv
    clear h hns hr hv hcells
    go_enter Tryd.func31, Tryd.ntmps31
    go_wp2_with fail
    refine (HR.out _ ((Below.refl _ _).alloc (Nat.le_refl _) _)).mono ?_
    rintro e w1 ⟨rfl, hb1⟩
    have hb01 : Below w.heap.size w w1 := ((Below.refl _ _).alloc (Nat.le_refl _) _).trans (hb1.mono (by simp <;> omega))
    clear hb1
    go_wp2_with fail
    go_ret
    exact ⟨by rw [HV.out]; rfl, hb01⟩

set_option maxHeartbeats 2000000 in
theorem rMay_g {t : Tr} {v : Value} {S : Nat → Prop} {w : World} (h : GivenR t v S w) :
    Calls Tryd.prog 29 #[v] w fun e w' => e = .returned (.bool (decide (MayT t))) ∧ Below w.heap.size w w' := by
  have HR := Lib.hid (fun wx (hx : Below w.heap.size w wx) => rright_g (h.below hx))
  have HD := Lib.hid (fun wx (hx : Below w.heap.size w wx) => rDepth_g (h.below hx))
  obtain ⟨nv, rfl, hns, hr1, hr2⟩ := h.given.read
  obtain ⟨A, c, rfl, hc, hs, _⟩ := hns.at_
  obtain ⟨X, hX⟩ : ∃ X, X = decide (MayT t) := ⟨_, rfl⟩
  have HX := Lib.hid hX
  rw [← hX]
  clear hX
  obtain ⟨n, hn⟩ : ∃ n, n = t.nodes.length := ⟨_, rfl⟩
  have HN := Lib.hid hn
  rw [← hn] at HR HD ⊢
  obtain ⟨dp, hdp⟩ : ∃ dp : Nat, dp = depthT t := ⟨_, rfl⟩
  rw [← hdp] at HD
  have HDP := Lib.hid hdp
  obtain ⟨rt, hrt⟩ : ∃ rt, rt = decide (RightT t) := ⟨_, rfl⟩
  rw [← hrt] at HR
  have HRT := Lib.hid hrt
  have hval : X = (rt && decide (n ≤ 1024) && decide (dp ≤ 32)) := by
    rw [HX.out, hrt, hn, hdp, Bool.eq_iff_iff, decide_eq_true_iff]
    simp only [Bool.and_eq_true, decide_eq_true_eq]
    constructor
    · rintro ⟨h1, h2, h3⟩
      exact ⟨⟨h2, h1⟩, by rw [show depthT t = (treeOf t).depth from if_pos h2]; exact h3⟩
    · rintro ⟨⟨h1, h2⟩, h3⟩
      have e : depthT t = (treeOf t).depth := if_pos h1
      exact ⟨h2, h1, by omega⟩
  have HVAL := Lib.hid hval
  clear h hns hn hdp hrt hval
  go_enter Tryd.func29, Tryd.ntmps29
  go_wp2_with fail
  refine (HR.out _ ((Below.refl _ _).alloc (Nat.le_refl _) _)).mono ?_
  rintro e w1 ⟨rfl, hb1⟩
  have hb01 : Below w.heap.size w w1 := ((Below.refl _ _).alloc (Nat.le_refl _) _).trans (hb1.mono (by simp <;> omega))
  have hB1 : Blk w1 w.heap.size 24 #[.slice A n c, .int .i64 t.root] := (Blk.new w _ _).below hb1 (by simp)
  have d0 : w1.cell? ⟨w.heap.size, 0, none⟩ = some (.slice A n c) := hB1.cell 0
  have d1 : w1.cell? ⟨w.heap.size, 1, none⟩ = some (.int .i64 t.root) := hB1.cell 1
  clear hb1 hB1
  cases rt
  · have HXV := Lib.hid (show X = false by rw [HVAL.out]; simp)
    go_wp2_with fail
    go_ret
    exact ⟨ret_bool (by rw [HXV.out]), hb01⟩
  · by_cases hle : n ≤ 1024
    · have hle' : decide ((n : Int) ≤ 1024) = true := by simp; omega
      go_wp2_with fail
      refine (HD.out _ hb01).mono ?_
      rintro e w2 ⟨rfl, hb2⟩
      have hbb := hb01.trans (hb2.mono hb01.size)
      by_cases hd : dp ≤ 32
      · have hd' : decide ((dp : Int) ≤ 32) = true := by simp; omega
        have HXV := Lib.hid (show X = true by rw [HVAL.out]; simp [hle, hd])
        go_wp2_with fail
        go_ret
        exact ⟨ret_bool (by rw [HXV.out]), hbb⟩
      · have hd' : decide ((dp : Int) ≤ 32) = false := by simp; omega
        have HXV := Lib.hid (show X = false by rw [HVAL.out]; simp [hd])
        go_wp2_with fail
        go_ret
        exact ⟨ret_bool (by rw [HXV.out]), hbb⟩
    · have hle' : decide ((n : Int) ≤ 1024) = false := by simp; omega
      have HXV := Lib.hid (show X = false by rw [HVAL.out]; simp [hle])
      go_wp2_with fail
      go_ret
      exact ⟨ret_bool (by rw [HXV.out]), hb01⟩
end Go.Proofs.YtlmlbdmbgfclkaaDoor

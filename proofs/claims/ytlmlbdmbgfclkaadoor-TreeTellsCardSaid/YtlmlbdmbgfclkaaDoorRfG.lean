/- The contracts of bonsairef04.Clean, Kids. -/
import Derived.Test.YtlmlbdmbgfclkaaDoorRfF
import Derived.Test.YtlmlbdmbgfclkaaDoorBoxG
import Derived.Test.YtlmlbdmbgfclkaaDoorTMore
namespace Go.Proofs.YtlmlbdmbgfclkaaDoor
set_option linter.unusedSimpArgs false
open Go.RowKit
open Classical

set_option maxHeartbeats 2000000 in
theorem rClean_g {t : Tr} {v : Value} {S : Nat → Prop} {w : World} (h : GivenR t v S w) :
    Calls Tryd.prog 36 #[v] w fun e w' => ∃ u, e = .returned u ∧ OwnTree w' w.heap.size u (cleanOf t) ∧ Below w.heap.size w w' := by
  have HS := Lib.hid (fun (wx : World) (hx : Below w.heap.size w wx) => rsub_g (h.below hx) t.root)
  have hcl : ∀ x is, IsSub t t.root x is → x = cleanOf t := by
    intro x is hs
    unfold cleanOf
    by_cases hr : RightT t
    · rw [if_pos hr]
      exact (hs.yes hr hr.shape.pos (by have := hr.shape.top; omega)).2
    · rw [if_neg hr]
      exact (hs.no fun h => hr h.1).2
  have HCL := Lib.hid hcl
  obtain ⟨nv, rfl, hns, hr1, hr2⟩ := h.given.read
  clear h hcl
  go_enter Tryd.func36, Tryd.ntmps36
  go_wp2_with (first
    | (go_at_call 35
       refine (HS.out _ (((Below.refl _ _).alloc (Nat.le_refl _) _).alloc (by simp) _)).mono ?_
       rintro e w1 ⟨u, x, is, rfl, ⟨xv, rfl, kvs, ho0⟩, hsub, hb1⟩
       obtain ⟨A2, c2, rfl, _, _, _⟩ := own_slice ho0.row
       have ho : OwnNodes w1 34 _ (fun _ => True) (.slice A2 x.nodes.length c2) x.nodes := ⟨kvs, ho0⟩
       have hb01 : Below w.heap.size w w1 := (((Below.refl _ _).alloc (Nat.le_refl _) _).alloc (by simp) _).trans (hb1.mono (by simp <;> omega))
       have hB1 : Blk w1 (w.heap.size + 1) 24 #[.slice none 0 0, .int .i64 0] := (Blk.new1 _ _ _ _).below hb1 (by simp)
       have e0 : ∀ o : Obj, (w1.alloc o).cell? ⟨w.heap.size + 1, 0, none⟩ = some (.slice none 0 0) := fun o => (hB1.alloc o).cell 0
       have e1 : ∀ o : Obj, (w1.alloc o).cell? ⟨w.heap.size + 1, 1, none⟩ = some (.int .i64 0) := fun o => (hB1.alloc o).cell 1
       have f0 : ∀ o : Obj, (w1.alloc o).frozen? ⟨w.heap.size + 1, 0, none⟩ = false := fun o => (hB1.alloc o).frozen 0
       have f1 : ∀ o : Obj, (w1.alloc o).frozen? ⟨w.heap.size + 1, 1, none⟩ = false := fun o => (hB1.alloc o).frozen 1
       have HB1 := Lib.hid hB1
       have HO := Lib.hid ho
       have HSUB := Lib.hid hsub
       clear hb1 hB1 ho hsub)
    | fail)
  have hO1 := HO.out
  simp only [World.size_alloc] at hO1
  have hO2 := (hO1.below ((Below.refl _ _).alloc (Nat.le_refl _) (.cells #[.slice A2 x.nodes.length c2, .int .i64 x.root] 24))).low (g := w.heap.size + 1) (grown_set2 _ _ 0 1 (.slice A2 x.nodes.length c2) (.int .i64 x.root)) (by omega)
  have hB2 := (HB1.out.alloc (.cells #[.slice A2 x.nodes.length c2, .int .i64 x.root] 24)).set2 (.slice A2 x.nodes.length c2) (.int .i64 x.root)
  have hb2 := ((hb01.alloc hb01.size (.cells #[.slice A2 x.nodes.length c2, .int .i64 x.root] 24)).setCell (p := ⟨w.heap.size + 1, 0, none⟩) (by simp) (.slice A2 x.nodes.length c2)).setCell (p := ⟨w.heap.size + 1, 1, none⟩) (by simp) (.int .i64 x.root)
  refine bodyPost_ret (results_cell1 rfl _ _ (w.heap.size + 1) _ _ _ rfl hB2 Tryd.underlying24 rfl tree_size) rfl ?_
  rw [← HCL.out x is HSUB.out]
  exact ⟨_, rfl, ⟨.slice A2 x.nodes.length c2, rfl, hO2.base_ (by omega)⟩, hb2⟩


theorem flat_root (x : T) (h : x.size ≤ 1000000) : -9223372036854775808 ≤ (flatT x).root ∧ (flatT x).root ≤ 9223372036854775807 := by
  have : (flatT x).root = (x.size : Int) - 1 := rfl
  omega
set_option maxRecDepth 20000 in
set_option maxHeartbeats 8000000 in
theorem rKids_g {t : Tr} {v : Value} {S : Nat → Prop} {w : World} (h : GivenR t v S w) :
    Calls Tryd.prog 38 #[v] w fun e w' => ∃ u, e = .returned u ∧ OwnList w' w.heap.size w.heap.size u (kidsOfT t) ∧ Below w.heap.size w w' := by
  have HR := Lib.hid (fun wx (hx : Below w.heap.size w wx) => rright_g (h.below hx))
  have HG := Lib.hid h
  obtain ⟨nv, rfl, hns, hr1, hr2⟩ := h.given.read
  obtain ⟨A, c, rfl, hc, hs, _⟩ := hns.at_
  clear h hns
  by_cases hr : RightT t
  · rw [decide_eq_true hr] at HR
    obtain ⟨rn, hrn⟩ : ∃ rn : Nat, t.root = (rn : Int) := ⟨t.root.toNat, by have := hr.shape.pos; omega⟩
    have hrl : rn < t.nodes.length := by have := hr.shape.root_lt; omega
    have hrl' : (rn : Int) < (t.nodes.length : Int) := by omega
    obtain ⟨N, hN⟩ : ∃ N, t.nodes[rn]? = some N := ⟨_, List.getElem?_eq_getElem hrl⟩
    have hK : kidsOfT t = N.kids.map fun k => flatT (D t.nodes k.toNat) := kids_root hr (by rw [hrn]; exact hN)
    have HKD := Lib.hid hK
    have HN := Lib.hid hN
    have HRT := Lib.hid hr
    have HRN := Lib.hid hrn
    have hkl := hr.kids_le N (List.mem_of_getElem? hN)
    have hsm := HG.out.given.small
    obtain ⟨b, off, Ak, ck, rfl, hbS, hki, _, _, _, _, _, _, _, _, _, c8⟩ := (HasT.nodes ((HG.out.given.read).has HG.out.given.old)).get rn N hN
    have HKI := Lib.hid hki
    have HC8 := Lib.hid c8
    rw [hrn] at HR ⊢
    clear hr hN hK hrn hki c8
    go_enter Tryd.func38, Tryd.ntmps38
    go_wp2_with fail
    refine (HR.out _ ((Below.refl _ _).alloc (Nat.le_refl _) _)).mono ?_
    rintro e w1 ⟨rfl, hb1⟩
    have hb01 : Below w.heap.size w w1 := ((Below.refl _ _).alloc (Nat.le_refl _) _).trans (hb1.mono (by simp <;> omega))
    have hB1 : Blk w1 w.heap.size 24 #[.slice (some ⟨b, off, none⟩) t.nodes.length c, .int .i64 rn] := (Blk.new w _ _).below hb1 (by simp)
    have d0 : w1.cell? ⟨w.heap.size, 0, none⟩ = some (.slice (some ⟨b, off, none⟩) t.nodes.length c) := hB1.cell 0
    have d1 : w1.cell? ⟨w.heap.size, 1, none⟩ = some (.int .i64 rn) := hB1.cell 1
    have c8 : w1.cell? ⟨b, off + rn * 9 + 8, none⟩ = some (.slice Ak N.kids.length ck) := (hb01.cell (p := ⟨b, off + rn * 9 + 8, none⟩) hbS).trans HC8.out
    have HB1 := Lib.hid hB1
    have HW1 := Lib.hid hb01
    clear hb1 hB1 hb01
    go_wp2_with fail
    have H0 : Hid (KidsRel t (some ⟨b, off, none⟩) c w.heap.size w (.slice none 0 0) [] w1) := Lib.hid ⟨by rw [HRN.out]; exact HB1.out, OwnList.nil_ _ _ _, HW1.out⟩
    clear d0 d1 c8
    go_loopw [3, 5] (fun vo i wr => ∃ (j : Nat) (Ao : Option Addr) (co : Nat), j ≤ N.kids.length ∧ i = .int .i64 j ∧ vo = .slice Ao j co ∧ Hid (KidsRel t (some ⟨b, off, none⟩) c w.heap.size w (.slice Ao j co) ((N.kids.take j).map fun k => flatT (D t.nodes k.toNat)) wr)) (fun _ i _ => N.kids.length - (intOf i).toNat)
    case atStart => exact ⟨0, none, 0, Nat.zero_le _, rfl, rfl, H0⟩
    case round =>
      obtain ⟨wo, rfl⟩ : ∃ wo, wo = wr := ⟨_, rfl⟩
      obtain ⟨j, Ao, co, hj, rfl, rfl, HREL⟩ := hrel
      by_cases hlt : j < N.kids.length
      · have hlt' : (j : Int) < (N.kids.length : Int) := by omega
        obtain ⟨k, hk⟩ : ∃ k, N.kids[j]? = some k := ⟨_, List.getElem?_eq_getElem hlt⟩
        have hkl2 := HRT.out.shape.low rn N HN.out k (List.mem_of_getElem? hk)
        obtain ⟨y, rfl⟩ : ∃ y : Nat, k = (y : Int) := ⟨k.toNat, by omega⟩
        have hyl : y < t.nodes.length := by omega
        obtain ⟨bk, ok, rfl, hbk, hkc⟩ := HKI.out.get j _ hk
        obtain ⟨X, hX⟩ : ∃ X, X = flatT (D t.nodes y) := ⟨_, rfl⟩
        have hroot : X.root = ((D t.nodes y).size : Int) - 1 := by rw [hX]; rfl
        have hszl : (D t.nodes y).size ≤ 500000 := by have := size_le HRT.out.shape y hyl; omega
        have hXr : -9223372036854775808 ≤ X.root ∧ X.root ≤ 9223372036854775807 := by rw [hX]; exact flat_root _ (by omega)
        have HXR := Lib.hid hXr
        have HSb := Lib.hid (show ∀ wx, Below wo.heap.size wo wx → Calls Tryd.prog 35 #[.agg #[.slice (some ⟨b, off, none⟩) t.nodes.length c, .int .i64 rn], .int .i64 (y : Int)] wx fun e w' => (∃ u, e = .returned (.tuple #[u, .bool true]) ∧ OwnTree w' wx.heap.size u X) ∧ Below wx.heap.size wx w' from fun wx hx => by
          have h1 := rsub_g (HG.out.below (HREL.out.below.trans (hx.mono HREL.out.below.size))) (y : Int)
          rw [HRN.out] at h1
          refine h1.mono ?_
          rintro e w' ⟨u, x, is, rfl, ho, hi, hbb⟩
          obtain ⟨rfl, rfl⟩ := hi.yes HRT.out (by omega) (by omega)
          rw [Int.toNat_natCast, ← hX] at ho
          exact ⟨⟨u, rfl, ho⟩, hbb⟩)
        have HC8R := Lib.hid (show ∀ wx, Below wo.heap.size wo wx → wx.cell? ⟨w.heap.size, 0, none⟩ = some (.slice (some ⟨b, off, none⟩) t.nodes.length c) ∧ wx.cell? ⟨w.heap.size, 1, none⟩ = some (.int .i64 rn) ∧ wx.cell? ⟨bk, ok + j, none⟩ = some (.int .i64 (y : Int)) from fun wx hx => by
          have hb := HREL.out.box.below hx HREL.out.box.lt
          have hlt := HREL.out.box.lt
          refine ⟨hb.cell 0, ?_, ?_⟩
          · have := hb.cell 1
            rw [HRN.out] at this
            exact this
          · exact (hx.cell (p := ⟨bk, ok + j, none⟩) (by show bk < _; have := hbk; omega)).trans ((HREL.out.below.cell (p := ⟨bk, ok + j, none⟩) hbk).trans hkc))
        have HKJ := Lib.hid hk
        have HXE := Lib.hid hX
        have hBw := HREL.out.box.lt
        obtain ⟨i0, hi0, hz0, hz1, hz2⟩ := info_parts tree_info
        clear hk hkc hkl2 hX hroot hXr
        go_wp2_with fail
        /- R8< -/
        refine wp_region_inv (G := BG) BG.none_ (BE TT ZT) (BN [.other, .other, .other, .other, .other, .other, .other, .other, .other, .box, .store 9, .other])
          [fun v _ => v = .agg #[.slice (some ⟨b, off, none⟩) t.nodes.length c, .int .i64 rn], fun v _ => v = .slice (some ⟨bk, ok, none⟩) N.kids.length ck, fun v _ => v = .int .i64 j, fun v _ => v = .pointer (some ⟨bk, ok + j, none⟩), fun v _ => v = .int .i64 (y : Int), fun v s => ∃ u, v = .tuple #[u, .bool true] ∧ RG wo.heap.size X u s, fun v s => ∃ u, v = .tuple #[u, .bool true] ∧ RG wo.heap.size X u s, RG wo.heap.size X, fun v _ => v = .bool true, RBox 9, RFillG 9 wo.heap.size X, fun v _ => v = .bool true]
          (by kernel_rfl) (fun _ _ _ => BE.trans) (BE.refl _) (by kernel_rfl) (by kernel_rfl) (BN.none_ _) ?rstk8 ?rstepsk8 ?rfink8
        case rstk8 =>
          intro R hR v s s' _ h hr
          simp only [List.mem_cons, List.not_mem_nil, or_false] at hR
          rcases hR with rfl | rfl | rfl | rfl | rfl | rfl | rfl | rfl | rfl | rfl | rfl | rfl
          · exact hr
          · exact hr
          · exact hr
          · exact hr
          · exact hr
          · exact hr.imp fun _ h' => ⟨h'.1, h'.2.keep h⟩
          · exact hr.imp fun _ h' => ⟨h'.1, h'.2.keep h⟩
          · exact hr.keep h
          · exact hr
          · exact hr.keep h
          · exact hr.keep h
          · exact hr
        case rstepsk8 =>
          refine ⟨?_, ?_, ?_, ?_, ?_, ?_, ?_, ?_, ?_, ?_, ?_, ?_, trivial⟩
          · intro a γ wx hB hE hN hW K hK
            have hw := hE.below_drew
            have h1 : a.tmps[1]? = some (.pointer (some ⟨w.heap.size, 0, none⟩)) := (hB.at_ 1 (of_decide_eq_true (by kernel_rfl))).trans rfl
            have hc := HC8R.out _ hw
            clear hB hN hE
            go_simp
            exact hK (.agg #[.slice (some ⟨b, off, none⟩) t.nodes.length c, .int .i64 rn]) γ _ (BE.refl _) (fun _ _ h => h) rfl
          · intro a γ wx hB hE hN hW K hK
            have hw := hE.below_drew
            have h4 : a.tmps[4]? = some (.slice (some ⟨bk, ok, none⟩) N.kids.length ck) := (hB.at_ 4 (of_decide_eq_true (by kernel_rfl))).trans rfl
            clear hB hN hE
            go_simp
            exact hK (.slice (some ⟨bk, ok, none⟩) N.kids.length ck) γ _ (BE.refl _) (fun _ _ h => h) rfl
          · intro a γ wx hB hE hN hW K hK
            have hw := hE.below_drew
            have h5 : a.tmps[5]? = some (.int .i64 j) := (hB.at_ 5 (of_decide_eq_true (by kernel_rfl))).trans rfl
            clear hB hN hE
            go_simp
            exact hK (.int .i64 j) γ _ (BE.refl _) (fun _ _ h => h) rfl
          · intro a γ wx hB hE hN hW K hK
            have hw := hE.below_drew
            obtain ⟨⟨_, h26, rfl⟩, ⟨_, h27, rfl⟩, -⟩ := hW
            clear hB hN hE
            go_simp
            exact hK (.pointer (some ⟨bk, ok + j, none⟩)) γ _ (BE.refl _) (fun _ _ h => h) rfl
          · intro a γ wx hB hE hN hW K hK
            have hw := hE.below_drew
            obtain ⟨⟨_, h28, rfl⟩, -⟩ := hW
            have hc := HC8R.out _ hw
            clear hB hN hE
            go_simp
            exact hK (.int .i64 (y : Int)) γ _ (BE.refl _) (fun _ _ h => h) rfl
          · intro a γ wx hB hE hN hW K hK
            have hw := hE.below_drew
            obtain ⟨⟨_, h25, rfl⟩, ⟨_, h29, rfl⟩, -⟩ := hW
            have hok := hE.boxes
            clear hB hN hE
            go_simp
            refine (HSb.out _ hw).mono ?_
            rintro e w' ⟨⟨u, rfl, hu⟩, hbb⟩
            exact hK _ γ _ (BE.call hbb) (fun _ _ h => h) ⟨u, rfl, RG.own hu HXR.out.1 HXR.out.2 hw.size hok⟩
          · intro a γ wx hB hE hN hW K hK
            have hw := hE.below_drew
            obtain ⟨⟨v30, h30, ⟨u30, rfl, r30⟩⟩, -⟩ := hW
            clear hB hN hE
            go_simp
            exact hK (_) γ _ (BE.refl _) (fun _ _ h => h) ⟨u30, rfl, r30⟩
          · intro a γ wx hB hE hN hW K hK
            have hw := hE.below_drew
            obtain ⟨⟨v24, h24, ⟨u24, rfl, r24⟩⟩, -⟩ := hW
            clear hB hN hE
            go_simp
            exact hK (_) γ _ (BE.refl _) (fun _ _ h => h) r24
          · intro a γ wx hB hE hN hW K hK
            have hw := hE.below_drew
            obtain ⟨⟨v24, h24, ⟨u24, rfl, r24⟩⟩, -⟩ := hW
            clear hB hN hE
            go_simp
            exact hK (.bool true) γ _ (BE.refl _) (fun _ _ h => h) rfl
          · intro a γ wx hB hE hN hW K hK
            have hw := hE.below_drew
            clear hB hE
            go_simp
            exact hK _ _ _ (BE.alloc (i := 9) hN) BN.alloc RBox.made
          · intro a γ wx hB hE hN hW K hK
            have hw := hE.below_drew
            obtain ⟨⟨v6, h6, r6⟩, ⟨v31, h31, r31⟩, -⟩ := hW
            obtain ⟨gb, A, n, c, γ', rfl, rfl, c0, c1, f0, f1, hS, hN', hF⟩ := fill_boxG hE hN r6 r31
            clear hB hE
            go_simp
            exact hK undef γ' _ hS (hN' _ _ (by kernel_rfl)) hF
          · intro a γ wx hB hE hN hW K hK
            have hw := hE.below_drew
            obtain ⟨⟨_, h32, rfl⟩, -⟩ := hW
            clear hB hN hE
            go_simp
            exact hK (.bool true) γ _ (BE.refl _) (fun _ _ h => h) rfl
        intro a' γ wx hB hE hK
        obtain ⟨_, h25, rfl⟩ := hK 0 (of_decide_eq_true (by kernel_rfl))
        obtain ⟨_, h26, rfl⟩ := hK 1 (of_decide_eq_true (by kernel_rfl))
        obtain ⟨_, h27, rfl⟩ := hK 2 (of_decide_eq_true (by kernel_rfl))
        obtain ⟨_, h28, rfl⟩ := hK 3 (of_decide_eq_true (by kernel_rfl))
        obtain ⟨_, h29, rfl⟩ := hK 4 (of_decide_eq_true (by kernel_rfl))
        obtain ⟨v30, h30, ⟨u30, rfl, r30⟩⟩ := hK 5 (of_decide_eq_true (by kernel_rfl))
        obtain ⟨v24, h24, ⟨u24, rfl, r24⟩⟩ := hK 6 (of_decide_eq_true (by kernel_rfl))
        obtain ⟨v31, h31, r31⟩ := hK 7 (of_decide_eq_true (by kernel_rfl))
        obtain ⟨_, h32, rfl⟩ := hK 8 (of_decide_eq_true (by kernel_rfl))
        obtain ⟨v6, h6, r6⟩ := hK 9 (of_decide_eq_true (by kernel_rfl))
        obtain ⟨_, r_10⟩ := hK 10 (of_decide_eq_true (by kernel_rfl))
        obtain ⟨_, h7, rfl⟩ := hK 11 (of_decide_eq_true (by kernel_rfl))
        have ha := hB.eq [(25, .agg #[.slice (some ⟨b, off, none⟩) t.nodes.length c, .int .i64 rn]), (26, .slice (some ⟨bk, ok, none⟩) N.kids.length ck), (27, .int .i64 j), (28, .pointer (some ⟨bk, ok + j, none⟩)), (29, .int .i64 (y : Int)), (30, .tuple #[u30, .bool true]), (24, .tuple #[u24, .bool true]), (31, v31), (32, .bool true), (6, v6), (7, .bool true)] rfl (by kernel_rfl) ⟨h25, h26, h27, h28, h29, h30, h24, h31, h32, h6, h7, trivial⟩
        subst ha
        have hw := hE.below_drew
        clear hK hB h25 h26 h27 h28 h29 h30 h24 h31 h32 h6 h7
        simp only [putAll, List.foldl_cons, List.foldl_nil, List.setIfInBounds_toArray, List.set_cons_succ, List.set_cons_zero]
        /- >R8 -/
        have hcont := box_treeG (u := undef) hE r6 r_10
        obtain ⟨gx, Ax, nx, cx, hp6, hbx, htx⟩ := hcont
        subst hp6
        have HREL3 : Hid (KidsRel t (some ⟨b, off, none⟩) c w.heap.size w (.slice Ao j co) ((N.kids.take j).map fun k => flatT (D t.nodes k.toNat)) wx) := Lib.hid ⟨HREL.out.box.below hw HREL.out.box.lt, HREL.out.out.below hw, HREL.out.below.trans (hw.mono HREL.out.below.size)⟩
        obtain ⟨nvs, hnl, hrow, hns⟩ := id HREL3.out.out
        have htl : ((N.kids.take j).map fun k => flatT (D t.nodes k.toNat)).length = j := by simp; omega
        have hrow2 := hrow
        rw [htl] at hrow2
        have HROW := Lib.hid hrow2
        have HNS := Lib.hid hns
        have HNL := Lib.hid hnl
        have HTL := Lib.hid htl
        have HTX := Lib.hid htx
        have hs3 := hw.size
        have e0 : wx.cell? ⟨gx, 0, none⟩ = some (.slice Ax nx cx) := hbx.cell 0
        have e1 : wx.cell? ⟨gx, 1, none⟩ = some (.int .i64 X.root) := hbx.cell 1
        clear hrow hrow2 hns hnl htl htx hbx hE hw
        go_wp2_with (at_builtin
                     go_loud (refine wpList_append1 wx rfl (.tmp 33) (.tmp 35) _ rfl (w.heap.size + 1) 24 i0 _ 2 32 Tryd.underlying40 hi0 hz0 hz1 hz2 rfl (by omega) (.slice Ao j co) j (treesCells ((N.kids.take j).map fun k => flatT (D t.nodes k.toNat)) nvs) rfl HROW.out [_, _] rfl rfl (by simp [Value.oneCell']) (by unfold maxLen; omega) (by omega) (by omega) ?_)
                     intro v4 w4 hown4 hg4 hat4
                     obtain ⟨A4, c4, rfl, _, _, _⟩ := own_slice hown4
                     have HOW4 := Lib.hid hown4
                     have HG4 := Lib.hid hg4
                     have HAT4 := Lib.hid hat4
                     clear hown4 hg4 hat4)
        go_roundw
        case measure => simp [intOf]; omega
        case rel =>
          have hvl : ∀ g, (Value.slice Ao j co).ownBlock = some g → w.heap.size + 1 ≤ g ∧ g < wo.heap.size := fun g e => by
            obtain ⟨_, _, hr0, _⟩ := HREL.out.out
            exact own_blk_lt hr0 e
          refine ⟨j + 1, A4, c4, by omega, by go_num, rfl, Lib.hid ⟨HREL3.out.box.grown HG4.out (fun e => by have := (hvl _ e.symm).1; omega), ?_, HREL3.out.below.trans (below_of_grown HG4.out HREL3.out.below.size fun g e => by have := (hvl g e).1; omega)⟩⟩
          have e1 : (N.kids.take (j + 1)).map (fun k => flatT (D t.nodes k.toNat)) = (N.kids.take j).map (fun k => flatT (D t.nodes k.toNat)) ++ [X] := by
            rw [List.take_add_one, HKJ.out, HXE.out]; simp
          rw [e1]
          obtain ⟨nv', hv', hn', hr1', hr2'⟩ := HTX.out
          have ev : nv' = .slice Ax nx cx := by simp at hv'; exact hv'.symm
          subst ev
          refine OwnList.push HNL.out HNS.out hn' (fun b hb => ⟨by have := hb.1; omega, hb.2.1, fun e => by have := (hvl b e).2; have := hb.1; omega, hb.2.2⟩) hr1' hr2' ?_ HG4.out ?_
          · rw [HTL.out]; exact HOW4.out
          · rcases HAT4.out with h | h
            · exact .inl h
            · exact .inr fun g hg => by rw [h] at hg; injection hg; omega
      · have hje : j = N.kids.length := by omega
        subst hje
        go_wp2_with fail
        go_ret
        refine ⟨_, rfl, ?_, HREL.out.below⟩
        have := HREL.out.out
        rw [List.take_length, ← HKD.out] at this
        exact this.base_ (by omega)
  · rw [decide_eq_false hr] at HR
    go_enter Tryd.func38, Tryd.ntmps38
    go_wp2_with fail
    refine (HR.out _ ((Below.refl _ _).alloc (Nat.le_refl _) _)).mono ?_
    rintro e w1 ⟨rfl, hb1⟩
    have hb01 : Below w.heap.size w w1 := ((Below.refl _ _).alloc (Nat.le_refl _) _).trans (hb1.mono (by simp <;> omega))
    have HV := Lib.hid (show kidsOfT t = [] from if_neg hr)
    have HW1 := Lib.hid hb01
    clear hb1 hb01 hr
    go_wp2_with fail
    go_ret
    exact ⟨_, rfl, by rw [HV.out]; exact OwnList.nil_ _ _ _, HW1.out⟩
end Go.Proofs.YtlmlbdmbgfclkaaDoor

/- The contract of bonsairef04.Same. -/
import Derived.Test.YtlmlbdmbgfclkaaDoorRfG
namespace Go.Proofs.YtlmlbdmbgfclkaaDoor
set_option linter.unusedSimpArgs false
open Go.RowKit
open Classical

theorem clean_sm5 {t : Tr} (h : t.nodes.length ≤ 500000) : (cleanOf t).nodes.length ≤ 500000 ∧ -9223372036854775808 ≤ (cleanOf t).root ∧ (cleanOf t).root ≤ 9223372036854775807 := by
  unfold cleanOf
  by_cases hr : RightT t
  · rw [if_pos hr]
    have h1 := hr.size
    have h2 := flat_root (treeOf t) (by omega)
    refine ⟨?_, h2⟩
    show (flatAt 0 (treeOf t)).length ≤ _
    rw [flatAt_length]; omega
  · rw [if_neg hr]; exact ⟨by simp [zeroT], by simp [zeroT], by simp [zeroT]⟩
theorem rclean_has {t : Tr} {v : Value} {S : Nat → Prop} {w : World} (h : GivenR t v S w) :
    Calls Tryd.prog 36 #[v] w fun e w' => (∃ u, e = .returned u ∧ HasT w' u (cleanOf t)) ∧ Below w.heap.size w w' :=
  (rClean_g h).mono fun e w' ⟨u, he, ho, hb⟩ => ⟨⟨u, he, ho.has (clean_sm5 h.given.small).2.1 (clean_sm5 h.given.small).2.2⟩, hb⟩
theorem clean_inj {p q : Tr} (ha : RightT p) (hb : RightT q) : cleanOf p = cleanOf q ↔ treeOf p = treeOf q := by
  unfold cleanOf
  rw [if_pos ha, if_pos hb]
  constructor
  · intro h
    injection h with h1 _
    exact flat_inj h1
  · intro h; rw [h]
set_option maxRecDepth 20000 in
set_option maxHeartbeats 4000000 in
theorem rSame_g {p q : Tr} {va vb : Value} {S S' : Nat → Prop} {w : World} (ha : GivenR p va S w) (hb : GivenR q vb S' w) :
    Calls Tryd.prog 32 #[va, vb] w fun e w' => e = .returned (.bool (decide (SameT p q))) ∧ Below w.heap.size w w' := by
  obtain ⟨ws, hws⟩ : ∃ ws, ws = (w.alloc (.cells va.cells 24)).alloc (.cells vb.cells 24) := ⟨_, rfl⟩
  have hbs : Below w.heap.size w ws := by rw [hws]; exact ((Below.refl _ _).alloc (Nat.le_refl _) _).alloc (by simp) _
  have HRa := Lib.hid (fun wx (hx : Below ws.heap.size ws wx) => rright_g (ha.below (hbs.trans (hx.mono hbs.size))))
  have HRb := Lib.hid (fun wx (hx : Below ws.heap.size ws wx) => rright_g (hb.below (hbs.trans (hx.mono hbs.size))))
  have HCa := Lib.hid (fun wx (hx : Below ws.heap.size ws wx) => rclean_has (ha.below (hbs.trans (hx.mono hbs.size))))
  have HCb := Lib.hid (fun wx (hx : Below ws.heap.size ws wx) => rclean_has (hb.below (hbs.trans (hx.mono hbs.size))))
  have HEx := Lib.hid (fun wx (_ : Below ws.heap.size ws wx) (u v : Value) (hu : HasT wx u (cleanOf p)) (hv : HasT wx v (cleanOf q)) => exact_g hu hv (fun _ h => h) (fun _ h => h) (by have := (clean_sm5 ha.given.small).1; omega))
  obtain ⟨nv, rfl, hns, hr1, hr2⟩ := ha.given.read
  obtain ⟨A, c, rfl, _, hs, _⟩ := hns.at_
  obtain ⟨nv, rfl, hns2, hr3, hr4⟩ := hb.given.read
  obtain ⟨A2, c2, rfl, _, hs2, _⟩ := hns2.at_
  simp only [Value.cells] at hws
  have hBA : Blk ws w.heap.size 24 #[.slice A p.nodes.length c, .int .i64 p.root] := by rw [hws]; exact (Blk.new w _ _).alloc _
  have hBB : Blk ws (w.heap.size + 1) 24 #[.slice A2 q.nodes.length c2, .int .i64 q.root] := by rw [hws]; exact Blk.new1 _ _ _ _
  have HCL := Lib.hid (show ∀ wx, Below ws.heap.size ws wx → wx.cell? ⟨w.heap.size, 0, none⟩ = some (.slice A p.nodes.length c) ∧ wx.cell? ⟨w.heap.size, 1, none⟩ = some (.int .i64 p.root) ∧ wx.cell? ⟨w.heap.size + 1, 0, none⟩ = some (.slice A2 q.nodes.length c2) ∧ wx.cell? ⟨w.heap.size + 1, 1, none⟩ = some (.int .i64 q.root) from
    fun wx hx => ⟨(hBA.below hx hBA.lt).cell 0, (hBA.below hx hBA.lt).cell 1, (hBB.below hx hBB.lt).cell 0, (hBB.below hx hBB.lt).cell 1⟩)
  have HBS := Lib.hid hbs
  have HSM := Lib.hid (show SameT p q ↔ RightT p ∧ RightT q ∧ treeOf p = treeOf q from Iff.rfl)
  clear ha hb hns hns2 hBA hBB hbs
  by_cases hra : RightT p
  · rw [decide_eq_true hra] at HRa
    by_cases hrb : RightT q
    · rw [decide_eq_true hrb] at HRb
      obtain ⟨X, hX⟩ : ∃ X, X = decide (cleanOf p = cleanOf q) := ⟨_, rfl⟩
      rw [← hX] at HEx
      have HF := Lib.hid (show X = decide (SameT p q) by
        rw [hX, Bool.eq_iff_iff, decide_eq_true_iff, decide_eq_true_iff, clean_inj hra hrb, HSM.out]
        exact ⟨fun h => ⟨hra, hrb, h⟩, fun h => h.2.2⟩)
      clear hra hrb hX HSM
      go_enter Tryd.func32, Tryd.ntmps32
      go_wp2_with fail
      rw [← hws]
      clear hws
      refine wp_region_inv (G := Unit) () UE UN
        [fun v _ => v = .agg #[.slice A p.nodes.length c, .int .i64 p.root], fun v _ => v = .bool true, fun v _ => v = .bool true, fun v _ => v = .agg #[.slice A2 q.nodes.length c2, .int .i64 q.root], fun v _ => v = .bool true, fun v _ => v = .bool true, fun v _ => v = .bool true, fun v _ => v = .agg #[.slice A p.nodes.length c, .int .i64 p.root], fun v s => HasT s.2 v (cleanOf p), fun v _ => v = .agg #[.slice A2 q.nodes.length c2, .int .i64 q.root], fun v s => HasT s.2 v (cleanOf q), fun v _ => v = .bool X, fun v _ => v = .bool X, fun v _ => v = .bool X]
        (by kernel_rfl) UE.trans (UE.refl _) (by kernel_rfl) (by kernel_rfl) (fun _ => trivial) ?rsts3 ?rstepss3 ?rfins3
      case rsts3 =>
        intro R hR v s s' _ h hr
        simp only [List.mem_cons, List.not_mem_nil, or_false] at hR
        rcases hR with rfl | rfl | rfl | rfl | rfl | rfl | rfl | rfl | rfl | rfl | rfl | rfl | rfl | rfl
        · exact hr
        · exact hr
        · exact hr
        · exact hr
        · exact hr
        · exact hr
        · exact hr
        · exact hr
        · exact HasT.below hr h
        · exact hr
        · exact HasT.below hr h
        · exact hr
        · exact hr
        · exact hr
      case rstepss3 =>
        refine ⟨?_, ?_, ?_, ?_, ?_, ?_, ?_, ?_, ?_, ?_, ?_, ?_, ?_, ?_, trivial⟩
        · intro a γ wx hB hE hN hW K hK
          have hw := UE.start hE
          have h2 : a.tmps[2]? = some (.pointer (some ⟨w.heap.size, 0, none⟩)) := (hB.at_ 2 (of_decide_eq_true (by kernel_rfl))).trans rfl
          have hc := HCL.out _ hw
          clear hB hN hE
          go_simp
          exact hK (.agg #[.slice A p.nodes.length c, .int .i64 p.root]) () _ (UE.refl _) (fun _ _ h => h) rfl
        · intro a γ wx hB hE hN hW K hK
          have hw := UE.start hE
          obtain ⟨⟨_, h5, rfl⟩, -⟩ := hW
          clear hB hN hE
          go_simp
          refine (HRa.out _ hw).mono ?_
          rintro e w' ⟨rfl, hbb⟩
          exact hK _ () _ hbb (fun _ _ h => h) rfl
        · intro a γ wx hB hE hN hW K hK
          have hw := UE.start hE
          obtain ⟨⟨_, h6, rfl⟩, -⟩ := hW
          clear hB hN hE
          go_simp
          exact hK (.bool true) () _ (UE.refl _) (fun _ _ h => h) rfl
        · intro a γ wx hB hE hN hW K hK
          have hw := UE.start hE
          obtain ⟨⟨_, h7, rfl⟩, -⟩ := hW
          have h3 : a.tmps[3]? = some (.pointer (some ⟨w.heap.size + 1, 0, none⟩)) := (hB.at_ 3 (of_decide_eq_true (by kernel_rfl))).trans rfl
          have hc := HCL.out _ hw
          clear hB hN hE
          go_simp
          exact hK (.agg #[.slice A2 q.nodes.length c2, .int .i64 q.root]) () _ (UE.refl _) (fun _ _ h => h) rfl
        · intro a γ wx hB hE hN hW K hK
          have hw := UE.start hE
          obtain ⟨⟨_, h8, rfl⟩, ⟨_, h7, rfl⟩, -⟩ := hW
          clear hB hN hE
          go_simp
          refine (HRb.out _ hw).mono ?_
          rintro e w' ⟨rfl, hbb⟩
          exact hK _ () _ hbb (fun _ _ h => h) rfl
        · intro a γ wx hB hE hN hW K hK
          have hw := UE.start hE
          obtain ⟨⟨_, h7, rfl⟩, ⟨_, h9, rfl⟩, -⟩ := hW
          clear hB hN hE
          go_simp
          exact hK (.bool true) () _ (UE.refl _) (fun _ _ h => h) rfl
        · intro a γ wx hB hE hN hW K hK
          have hw := UE.start hE
          obtain ⟨⟨_, h10, rfl⟩, -⟩ := hW
          clear hB hN hE
          go_simp
          exact hK (.bool true) () _ (UE.refl _) (fun _ _ h => h) rfl
        · intro a γ wx hB hE hN hW K hK
          have hw := UE.start hE
          obtain ⟨⟨_, h11, rfl⟩, -⟩ := hW
          have h2 : a.tmps[2]? = some (.pointer (some ⟨w.heap.size, 0, none⟩)) := (hB.at_ 2 (of_decide_eq_true (by kernel_rfl))).trans rfl
          have hc := HCL.out _ hw
          clear hB hN hE
          go_simp
          exact hK (.agg #[.slice A p.nodes.length c, .int .i64 p.root]) () _ (UE.refl _) (fun _ _ h => h) rfl
        · intro a γ wx hB hE hN hW K hK
          have hw := UE.start hE
          obtain ⟨⟨_, h12, rfl⟩, ⟨_, h11, rfl⟩, -⟩ := hW
          clear hB hN hE
          go_simp
          refine (HCa.out _ hw).mono ?_
          rintro e w' ⟨⟨u, rfl, hu⟩, hbb⟩
          exact hK _ () _ hbb (fun _ _ h => h) hu
        · intro a γ wx hB hE hN hW K hK
          have hw := UE.start hE
          obtain ⟨⟨_, h11, rfl⟩, -⟩ := hW
          have h3 : a.tmps[3]? = some (.pointer (some ⟨w.heap.size + 1, 0, none⟩)) := (hB.at_ 3 (of_decide_eq_true (by kernel_rfl))).trans rfl
          have hc := HCL.out _ hw
          clear hB hN hE
          go_simp
          exact hK (.agg #[.slice A2 q.nodes.length c2, .int .i64 q.root]) () _ (UE.refl _) (fun _ _ h => h) rfl
        · intro a γ wx hB hE hN hW K hK
          have hw := UE.start hE
          obtain ⟨⟨_, h14, rfl⟩, -, ⟨_, h11, rfl⟩, -⟩ := hW
          clear hB hN hE
          go_simp
          refine (HCb.out _ hw).mono ?_
          rintro e w' ⟨⟨u, rfl, hu⟩, hbb⟩
          exact hK _ () _ hbb (fun _ _ h => h) hu
        · intro a γ wx hB hE hN hW K hK
          have hw := UE.start hE
          obtain ⟨⟨v13, h13, r13⟩, ⟨v15, h15, r15⟩, -, ⟨_, h11, rfl⟩, -⟩ := hW
          clear hB hN hE
          go_simp
          refine (HEx.out _ hw _ _ r13 r15).mono ?_
          rintro e w' ⟨rfl, hbb⟩
          exact hK _ () _ hbb (fun _ _ h => h) rfl
        · intro a γ wx hB hE hN hW K hK
          have hw := UE.start hE
          obtain ⟨⟨_, h11, rfl⟩, ⟨_, h16, rfl⟩, -⟩ := hW
          clear hB hN hE
          go_simp
          exact hK (.bool X) () _ (UE.refl _) (fun _ _ h => h) rfl
        · intro a γ wx hB hE hN hW K hK
          have hw := UE.start hE
          obtain ⟨⟨_, h17, rfl⟩, -⟩ := hW
          clear hB hN hE
          go_simp
          exact hK (.bool X) () _ (UE.refl _) (fun _ _ h => h) rfl
      intro a' γ wx hB hE hK
      obtain ⟨_, h5, rfl⟩ := hK 0 (of_decide_eq_true (by kernel_rfl))
      obtain ⟨_, h6, rfl⟩ := hK 1 (of_decide_eq_true (by kernel_rfl))
      obtain ⟨_, h7, rfl⟩ := hK 2 (of_decide_eq_true (by kernel_rfl))
      obtain ⟨_, h8, rfl⟩ := hK 3 (of_decide_eq_true (by kernel_rfl))
      obtain ⟨_, h9, rfl⟩ := hK 4 (of_decide_eq_true (by kernel_rfl))
      obtain ⟨_, h10, rfl⟩ := hK 5 (of_decide_eq_true (by kernel_rfl))
      obtain ⟨_, h11, rfl⟩ := hK 6 (of_decide_eq_true (by kernel_rfl))
      obtain ⟨_, h12, rfl⟩ := hK 7 (of_decide_eq_true (by kernel_rfl))
      obtain ⟨v13, h13, r13⟩ := hK 8 (of_decide_eq_true (by kernel_rfl))
      obtain ⟨_, h14, rfl⟩ := hK 9 (of_decide_eq_true (by kernel_rfl))
      obtain ⟨v15, h15, r15⟩ := hK 10 (of_decide_eq_true (by kernel_rfl))
      obtain ⟨_, h16, rfl⟩ := hK 11 (of_decide_eq_true (by kernel_rfl))
      obtain ⟨_, h17, rfl⟩ := hK 12 (of_decide_eq_true (by kernel_rfl))
      obtain ⟨_, h4, rfl⟩ := hK 13 (of_decide_eq_true (by kernel_rfl))
      have ha := hB.eq [(5, .agg #[.slice A p.nodes.length c, .int .i64 p.root]), (6, .bool true), (7, .bool true), (8, .agg #[.slice A2 q.nodes.length c2, .int .i64 q.root]), (9, .bool true), (10, .bool true), (11, .bool true), (12, .agg #[.slice A p.nodes.length c, .int .i64 p.root]), (13, v13), (14, .agg #[.slice A2 q.nodes.length c2, .int .i64 q.root]), (15, v15), (16, .bool X), (17, .bool X), (4, .bool X)] rfl (by kernel_rfl) ⟨h5, h6, h7, h8, h9, h10, h11, h12, h13, h14, h15, h16, h17, h4, trivial⟩
      subst ha
      have hw := UE.start hE
      clear hK hB hE h5 h6 h7 h8 h9 h10 h11 h12 h13 h14 h15 h16 h17 h4
      simp only [putAll, List.foldl_cons, List.foldl_nil, List.setIfInBounds_toArray, List.set_cons_succ, List.set_cons_zero]
      go_wp2_with fail
      go_ret
      exact ⟨ret_bool HF.out, HBS.out.trans (hw.mono HBS.out.size)⟩
    · rw [decide_eq_false hrb] at HRb
      have HF := Lib.hid (show false = decide (SameT p q) from (decide_eq_false fun h => hrb h.2.1).symm)
      clear hra hrb HSM
      go_enter Tryd.func32, Tryd.ntmps32
      go_wp2_with fail
      rw [← hws]
      clear hws
      refine wp_region_inv (G := Unit) () UE UN
        [fun v _ => v = .agg #[.slice A p.nodes.length c, .int .i64 p.root], fun v _ => v = .bool true, fun v _ => v = .bool true, fun v _ => v = .agg #[.slice A2 q.nodes.length c2, .int .i64 q.root], fun v _ => v = .bool false, fun v _ => v = .bool false, fun v _ => v = .bool false, fun v _ => v = undef, fun v _ => v = undef, fun v _ => v = undef, fun v _ => v = undef, fun v _ => v = undef, fun v _ => v = .bool false, fun v _ => v = .bool false]
        (by kernel_rfl) UE.trans (UE.refl _) (by kernel_rfl) (by kernel_rfl) (fun _ => trivial) ?rsts2 ?rstepss2 ?rfins2
      case rsts2 =>
        intro R hR v s s' _ h hr
        simp only [List.mem_cons, List.not_mem_nil, or_false] at hR
        rcases hR with rfl | rfl | rfl | rfl | rfl | rfl | rfl | rfl | rfl | rfl | rfl | rfl | rfl | rfl
        · exact hr
        · exact hr
        · exact hr
        · exact hr
        · exact hr
        · exact hr
        · exact hr
        · exact hr
        · exact hr
        · exact hr
        · exact hr
        · exact hr
        · exact hr
        · exact hr
      case rstepss2 =>
        refine ⟨?_, ?_, ?_, ?_, ?_, ?_, ?_, ?_, ?_, ?_, ?_, ?_, ?_, ?_, trivial⟩
        · intro a γ wx hB hE hN hW K hK
          have hw := UE.start hE
          have h2 : a.tmps[2]? = some (.pointer (some ⟨w.heap.size, 0, none⟩)) := (hB.at_ 2 (of_decide_eq_true (by kernel_rfl))).trans rfl
          have hc := HCL.out _ hw
          clear hB hN hE
          go_simp
          exact hK (.agg #[.slice A p.nodes.length c, .int .i64 p.root]) () _ (UE.refl _) (fun _ _ h => h) rfl
        · intro a γ wx hB hE hN hW K hK
          have hw := UE.start hE
          obtain ⟨⟨_, h5, rfl⟩, -⟩ := hW
          clear hB hN hE
          go_simp
          refine (HRa.out _ hw).mono ?_
          rintro e w' ⟨rfl, hbb⟩
          exact hK _ () _ hbb (fun _ _ h => h) rfl
        · intro a γ wx hB hE hN hW K hK
          have hw := UE.start hE
          obtain ⟨⟨_, h6, rfl⟩, -⟩ := hW
          clear hB hN hE
          go_simp
          exact hK (.bool true) () _ (UE.refl _) (fun _ _ h => h) rfl
        · intro a γ wx hB hE hN hW K hK
          have hw := UE.start hE
          obtain ⟨⟨_, h7, rfl⟩, -⟩ := hW
          have h3 : a.tmps[3]? = some (.pointer (some ⟨w.heap.size + 1, 0, none⟩)) := (hB.at_ 3 (of_decide_eq_true (by kernel_rfl))).trans rfl
          have hc := HCL.out _ hw
          clear hB hN hE
          go_simp
          exact hK (.agg #[.slice A2 q.nodes.length c2, .int .i64 q.root]) () _ (UE.refl _) (fun _ _ h => h) rfl
        · intro a γ wx hB hE hN hW K hK
          have hw := UE.start hE
          obtain ⟨⟨_, h8, rfl⟩, ⟨_, h7, rfl⟩, -⟩ := hW
          clear hB hN hE
          go_simp
          refine (HRb.out _ hw).mono ?_
          rintro e w' ⟨rfl, hbb⟩
          exact hK _ () _ hbb (fun _ _ h => h) rfl
        · intro a γ wx hB hE hN hW K hK
          have hw := UE.start hE
          obtain ⟨⟨_, h7, rfl⟩, ⟨_, h9, rfl⟩, -⟩ := hW
          clear hB hN hE
          go_simp
          exact hK (.bool false) () _ (UE.refl _) (fun _ _ h => h) rfl
        · intro a γ wx hB hE hN hW K hK
          have hw := UE.start hE
          obtain ⟨⟨_, h10, rfl⟩, -⟩ := hW
          clear hB hN hE
          go_simp
          exact hK (.bool false) () _ (UE.refl _) (fun _ _ h => h) rfl
        · intro a γ wx hB hE hN hW K hK
          have hw := UE.start hE
          obtain ⟨⟨_, h11, rfl⟩, -⟩ := hW
          have h2 : a.tmps[2]? = some (.pointer (some ⟨w.heap.size, 0, none⟩)) := (hB.at_ 2 (of_decide_eq_true (by kernel_rfl))).trans rfl
          have hc := HCL.out _ hw
          clear hB hN hE
          go_simp
          exact hK (undef) () _ (UE.refl _) (fun _ _ h => h) rfl
        · intro a γ wx hB hE hN hW K hK
          have hw := UE.start hE
          obtain ⟨⟨_, h12, rfl⟩, ⟨_, h11, rfl⟩, -⟩ := hW
          clear hB hN hE
          go_simp
          exact hK (undef) () _ (UE.refl _) (fun _ _ h => h) rfl
        · intro a γ wx hB hE hN hW K hK
          have hw := UE.start hE
          obtain ⟨⟨_, h11, rfl⟩, -⟩ := hW
          have h3 : a.tmps[3]? = some (.pointer (some ⟨w.heap.size + 1, 0, none⟩)) := (hB.at_ 3 (of_decide_eq_true (by kernel_rfl))).trans rfl
          have hc := HCL.out _ hw
          clear hB hN hE
          go_simp
          exact hK (undef) () _ (UE.refl _) (fun _ _ h => h) rfl
        · intro a γ wx hB hE hN hW K hK
          have hw := UE.start hE
          obtain ⟨⟨_, h14, rfl⟩, -, ⟨_, h11, rfl⟩, -⟩ := hW
          clear hB hN hE
          go_simp
          exact hK (undef) () _ (UE.refl _) (fun _ _ h => h) rfl
        · intro a γ wx hB hE hN hW K hK
          have hw := UE.start hE
          obtain ⟨⟨_, h13, rfl⟩, ⟨_, h15, rfl⟩, -, ⟨_, h11, rfl⟩, -⟩ := hW
          clear hB hN hE
          go_simp
          exact hK (undef) () _ (UE.refl _) (fun _ _ h => h) rfl
        · intro a γ wx hB hE hN hW K hK
          have hw := UE.start hE
          obtain ⟨⟨_, h11, rfl⟩, ⟨_, h16, rfl⟩, -⟩ := hW
          clear hB hN hE
          go_simp
          exact hK (.bool false) () _ (UE.refl _) (fun _ _ h => h) rfl
        · intro a γ wx hB hE hN hW K hK
          have hw := UE.start hE
          obtain ⟨⟨_, h17, rfl⟩, -⟩ := hW
          clear hB hN hE
          go_simp
          exact hK (.bool false) () _ (UE.refl _) (fun _ _ h => h) rfl
      intro a' γ wx hB hE hK
      obtain ⟨_, h5, rfl⟩ := hK 0 (of_decide_eq_true (by kernel_rfl))
      obtain ⟨_, h6, rfl⟩ := hK 1 (of_decide_eq_true (by kernel_rfl))
      obtain ⟨_, h7, rfl⟩ := hK 2 (of_decide_eq_true (by kernel_rfl))
      obtain ⟨_, h8, rfl⟩ := hK 3 (of_decide_eq_true (by kernel_rfl))
      obtain ⟨_, h9, rfl⟩ := hK 4 (of_decide_eq_true (by kernel_rfl))
      obtain ⟨_, h10, rfl⟩ := hK 5 (of_decide_eq_true (by kernel_rfl))
      obtain ⟨_, h11, rfl⟩ := hK 6 (of_decide_eq_true (by kernel_rfl))
      obtain ⟨_, h12, rfl⟩ := hK 7 (of_decide_eq_true (by kernel_rfl))
      obtain ⟨_, h13, rfl⟩ := hK 8 (of_decide_eq_true (by kernel_rfl))
      obtain ⟨_, h14, rfl⟩ := hK 9 (of_decide_eq_true (by kernel_rfl))
      obtain ⟨_, h15, rfl⟩ := hK 10 (of_decide_eq_true (by kernel_rfl))
      obtain ⟨_, h16, rfl⟩ := hK 11 (of_decide_eq_true (by kernel_rfl))
      obtain ⟨_, h17, rfl⟩ := hK 12 (of_decide_eq_true (by kernel_rfl))
      obtain ⟨_, h4, rfl⟩ := hK 13 (of_decide_eq_true (by kernel_rfl))
      have ha := hB.eq [(5, .agg #[.slice A p.nodes.length c, .int .i64 p.root]), (6, .bool true), (7, .bool true), (8, .agg #[.slice A2 q.nodes.length c2, .int .i64 q.root]), (9, .bool false), (10, .bool false), (11, .bool false), (12, undef), (13, undef), (14, undef), (15, undef), (16, undef), (17, .bool false), (4, .bool false)] rfl (by kernel_rfl) ⟨h5, h6, h7, h8, h9, h10, h11, h12, h13, h14, h15, h16, h17, h4, trivial⟩
      subst ha
      have hw := UE.start hE
      clear hK hB hE h5 h6 h7 h8 h9 h10 h11 h12 h13 h14 h15 h16 h17 h4
      simp only [putAll, List.foldl_cons, List.foldl_nil, List.setIfInBounds_toArray, List.set_cons_succ, List.set_cons_zero]
      go_wp2_with fail
      go_ret
      exact ⟨ret_bool HF.out, HBS.out.trans (hw.mono HBS.out.size)⟩
  · rw [decide_eq_false hra] at HRa
    have HF := Lib.hid (show false = decide (SameT p q) from (decide_eq_false fun h => hra h.1).symm)
    clear hra HSM
    go_enter Tryd.func32, Tryd.ntmps32
    go_wp2_with fail
    rw [← hws]
    clear hws
    refine wp_region_inv (G := Unit) () UE UN
      [fun v _ => v = .agg #[.slice A p.nodes.length c, .int .i64 p.root], fun v _ => v = .bool false, fun v _ => v = .bool false, fun v _ => v = undef, fun v _ => v = undef, fun v _ => v = .bool false, fun v _ => v = .bool false, fun v _ => v = undef, fun v _ => v = undef, fun v _ => v = undef, fun v _ => v = undef, fun v _ => v = undef, fun v _ => v = .bool false, fun v _ => v = .bool false]
      (by kernel_rfl) UE.trans (UE.refl _) (by kernel_rfl) (by kernel_rfl) (fun _ => trivial) ?rsts1 ?rstepss1 ?rfins1
    case rsts1 =>
      intro R hR v s s' _ h hr
      simp only [List.mem_cons, List.not_mem_nil, or_false] at hR
      rcases hR with rfl | rfl | rfl | rfl | rfl | rfl | rfl | rfl | rfl | rfl | rfl | rfl | rfl | rfl
      · exact hr
      · exact hr
      · exact hr
      · exact hr
      · exact hr
      · exact hr
      · exact hr
      · exact hr
      · exact hr
      · exact hr
      · exact hr
      · exact hr
      · exact hr
      · exact hr
    case rstepss1 =>
      refine ⟨?_, ?_, ?_, ?_, ?_, ?_, ?_, ?_, ?_, ?_, ?_, ?_, ?_, ?_, trivial⟩
      · intro a γ wx hB hE hN hW K hK
        have hw := UE.start hE
        have h2 : a.tmps[2]? = some (.pointer (some ⟨w.heap.size, 0, none⟩)) := (hB.at_ 2 (of_decide_eq_true (by kernel_rfl))).trans rfl
        have hc := HCL.out _ hw
        clear hB hN hE
        go_simp
        exact hK (.agg #[.slice A p.nodes.length c, .int .i64 p.root]) () _ (UE.refl _) (fun _ _ h => h) rfl
      · intro a γ wx hB hE hN hW K hK
        have hw := UE.start hE
        obtain ⟨⟨_, h5, rfl⟩, -⟩ := hW
        clear hB hN hE
        go_simp
        refine (HRa.out _ hw).mono ?_
        rintro e w' ⟨rfl, hbb⟩
        exact hK _ () _ hbb (fun _ _ h => h) rfl
      · intro a γ wx hB hE hN hW K hK
        have hw := UE.start hE
        obtain ⟨⟨_, h6, rfl⟩, -⟩ := hW
        clear hB hN hE
        go_simp
        exact hK (.bool false) () _ (UE.refl _) (fun _ _ h => h) rfl
      · intro a γ wx hB hE hN hW K hK
        have hw := UE.start hE
        obtain ⟨⟨_, h7, rfl⟩, -⟩ := hW
        have h3 : a.tmps[3]? = some (.pointer (some ⟨w.heap.size + 1, 0, none⟩)) := (hB.at_ 3 (of_decide_eq_true (by kernel_rfl))).trans rfl
        have hc := HCL.out _ hw
        clear hB hN hE
        go_simp
        exact hK (undef) () _ (UE.refl _) (fun _ _ h => h) rfl
      · intro a γ wx hB hE hN hW K hK
        have hw := UE.start hE
        obtain ⟨⟨_, h8, rfl⟩, ⟨_, h7, rfl⟩, -⟩ := hW
        clear hB hN hE
        go_simp
        exact hK (undef) () _ (UE.refl _) (fun _ _ h => h) rfl
      · intro a γ wx hB hE hN hW K hK
        have hw := UE.start hE
        obtain ⟨⟨_, h7, rfl⟩, ⟨_, h9, rfl⟩, -⟩ := hW
        clear hB hN hE
        go_simp
        exact hK (.bool false) () _ (UE.refl _) (fun _ _ h => h) rfl
      · intro a γ wx hB hE hN hW K hK
        have hw := UE.start hE
        obtain ⟨⟨_, h10, rfl⟩, -⟩ := hW
        clear hB hN hE
        go_simp
        exact hK (.bool false) () _ (UE.refl _) (fun _ _ h => h) rfl
      · intro a γ wx hB hE hN hW K hK
        have hw := UE.start hE
        obtain ⟨⟨_, h11, rfl⟩, -⟩ := hW
        have h2 : a.tmps[2]? = some (.pointer (some ⟨w.heap.size, 0, none⟩)) := (hB.at_ 2 (of_decide_eq_true (by kernel_rfl))).trans rfl
        have hc := HCL.out _ hw
        clear hB hN hE
        go_simp
        exact hK (undef) () _ (UE.refl _) (fun _ _ h => h) rfl
      · intro a γ wx hB hE hN hW K hK
        have hw := UE.start hE
        obtain ⟨⟨_, h12, rfl⟩, ⟨_, h11, rfl⟩, -⟩ := hW
        clear hB hN hE
        go_simp
        exact hK (undef) () _ (UE.refl _) (fun _ _ h => h) rfl
      · intro a γ wx hB hE hN hW K hK
        have hw := UE.start hE
        obtain ⟨⟨_, h11, rfl⟩, -⟩ := hW
        have h3 : a.tmps[3]? = some (.pointer (some ⟨w.heap.size + 1, 0, none⟩)) := (hB.at_ 3 (of_decide_eq_true (by kernel_rfl))).trans rfl
        have hc := HCL.out _ hw
        clear hB hN hE
        go_simp
        exact hK (undef) () _ (UE.refl _) (fun _ _ h => h) rfl
      · intro a γ wx hB hE hN hW K hK
        have hw := UE.start hE
        obtain ⟨⟨_, h14, rfl⟩, -, ⟨_, h11, rfl⟩, -⟩ := hW
        clear hB hN hE
        go_simp
        exact hK (undef) () _ (UE.refl _) (fun _ _ h => h) rfl
      · intro a γ wx hB hE hN hW K hK
        have hw := UE.start hE
        obtain ⟨⟨_, h13, rfl⟩, ⟨_, h15, rfl⟩, -, ⟨_, h11, rfl⟩, -⟩ := hW
        clear hB hN hE
        go_simp
        exact hK (undef) () _ (UE.refl _) (fun _ _ h => h) rfl
      · intro a γ wx hB hE hN hW K hK
        have hw := UE.start hE
        obtain ⟨⟨_, h11, rfl⟩, ⟨_, h16, rfl⟩, -⟩ := hW
        clear hB hN hE
        go_simp
        exact hK (.bool false) () _ (UE.refl _) (fun _ _ h => h) rfl
      · intro a γ wx hB hE hN hW K hK
        have hw := UE.start hE
        obtain ⟨⟨_, h17, rfl⟩, -⟩ := hW
        clear hB hN hE
        go_simp
        exact hK (.bool false) () _ (UE.refl _) (fun _ _ h => h) rfl
    intro a' γ wx hB hE hK
    obtain ⟨_, h5, rfl⟩ := hK 0 (of_decide_eq_true (by kernel_rfl))
    obtain ⟨_, h6, rfl⟩ := hK 1 (of_decide_eq_true (by kernel_rfl))
    obtain ⟨_, h7, rfl⟩ := hK 2 (of_decide_eq_true (by kernel_rfl))
    obtain ⟨_, h8, rfl⟩ := hK 3 (of_decide_eq_true (by kernel_rfl))
    obtain ⟨_, h9, rfl⟩ := hK 4 (of_decide_eq_true (by kernel_rfl))
    obtain ⟨_, h10, rfl⟩ := hK 5 (of_decide_eq_true (by kernel_rfl))
    obtain ⟨_, h11, rfl⟩ := hK 6 (of_decide_eq_true (by kernel_rfl))
    obtain ⟨_, h12, rfl⟩ := hK 7 (of_decide_eq_true (by kernel_rfl))
    obtain ⟨_, h13, rfl⟩ := hK 8 (of_decide_eq_true (by kernel_rfl))
    obtain ⟨_, h14, rfl⟩ := hK 9 (of_decide_eq_true (by kernel_rfl))
    obtain ⟨_, h15, rfl⟩ := hK 10 (of_decide_eq_true (by kernel_rfl))
    obtain ⟨_, h16, rfl⟩ := hK 11 (of_decide_eq_true (by kernel_rfl))
    obtain ⟨_, h17, rfl⟩ := hK 12 (of_decide_eq_true (by kernel_rfl))
    obtain ⟨_, h4, rfl⟩ := hK 13 (of_decide_eq_true (by kernel_rfl))
    have ha := hB.eq [(5, .agg #[.slice A p.nodes.length c, .int .i64 p.root]), (6, .bool false), (7, .bool false), (8, undef), (9, undef), (10, .bool false), (11, .bool false), (12, undef), (13, undef), (14, undef), (15, undef), (16, undef), (17, .bool false), (4, .bool false)] rfl (by kernel_rfl) ⟨h5, h6, h7, h8, h9, h10, h11, h12, h13, h14, h15, h16, h17, h4, trivial⟩
    subst ha
    have hw := UE.start hE
    clear hK hB hE h5 h6 h7 h8 h9 h10 h11 h12 h13 h14 h15 h16 h17 h4
    simp only [putAll, List.foldl_cons, List.foldl_nil, List.setIfInBounds_toArray, List.set_cons_succ, List.set_cons_zero]
    go_wp2_with fail
    go_ret
    exact ⟨ret_bool HF.out, HBS.out.trans (hw.mono HBS.out.size)⟩
end Go.Proofs.YtlmlbdmbgfclkaaDoor

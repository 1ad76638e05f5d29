/- The contract of the law's all, of two rows that read as the same trees. -/
import Derived.Test.YtlmlbdmbgfclkaaDoorRfQ
import Derived.Test.YtlmlbdmbgfclkaaDoorRegInv
namespace Go.Proofs.YtlmlbdmbgfclkaaDoor
set_option linter.unusedSimpArgs false
open Go.RowKit
open Classical

/-- A tree of a row of trees: its two cells. -/
theorem RTrees.get {w : World} {S : Nat → Prop} {v : Value} {ts : List Tr} (h : RTrees w S v ts) (j : Nat) (t : Tr) (hj : ts[j]? = some t) : ∃ b off c A e, v = .slice (some ⟨b, off, none⟩) ts.length c ∧ S b ∧ RTree w S (.agg #[.slice A t.nodes.length e, .int .i64 t.root]) t ∧
    w.cell? ⟨b, off + j * 2, none⟩ = some (.slice A t.nodes.length e) ∧ w.cell? ⟨b, off + j * 2 + 1, none⟩ = some (.int .i64 t.root) := by
  obtain ⟨A, c, rfl, _, _, hr⟩ := h.at_
  have hl := (List.getElem?_eq_some_iff.1 hj).1
  obtain ⟨b, off, rfl, hS, hc⟩ := hr (by omega)
  obtain ⟨nv, hn, hrt, c0, c1⟩ := hc j t hj
  obtain ⟨A', e, rfl, _⟩ := hn.at_
  exact ⟨b, off, c, A', e, rfl, hS, ⟨_, rfl, hn, hrt⟩, c0, c1⟩
set_option maxRecDepth 20000 in
set_option maxHeartbeats 4000000 in
theorem all_eq {va vb : Value} {ts : List Tr} {S S' : Nat → Prop} {w : World} (ha : RTrees w S va ts) (hb : RTrees w S' vb ts) (hS : ∀ b, S b → b < w.heap.size) (hS' : ∀ b, S' b → b < w.heap.size) (hs : ∀ t ∈ ts, t.nodes.length ≤ 1000000) :
    Calls Tryd.prog 37 #[va, vb] w fun e w' => e = .returned (.bool true) ∧ Below w.heap.size w w' := by
  obtain ⟨n, hn⟩ : ∃ n, n = ts.length := ⟨_, rfl⟩
  have HN := Lib.hid hn
  have HA := Lib.hid ha
  have HB := Lib.hid hb
  obtain ⟨A1, c1, rfl, _, hm, _⟩ := ha.at_
  obtain ⟨A2, c2, rfl, _, _, _⟩ := hb.at_
  rw [← hn] at hm HA HB ⊢
  unfold maxLen at hm
  clear ha hb hn
  go_enter Tryd.func37, Tryd.ntmps37
  go_wp2_with fail
  go_loopw [5] (fun i wr => ∃ j : Nat, j ≤ n ∧ i = .int .i64 j ∧ Hid (Below w.heap.size w wr)) (fun i _ => n - (intOf i).toNat)
  case atStart => exact ⟨0, Nat.zero_le _, rfl, Lib.hid (Below.refl _ _)⟩
  case round =>
    obtain ⟨wo, rfl⟩ : ∃ wo, wo = wr := ⟨_, rfl⟩
    obtain ⟨j, hj, rfl, HW⟩ := hrel
    by_cases hlt : j < n
    · obtain ⟨t, ht⟩ : ∃ t, ts[j]? = some t := ⟨_, List.getElem?_eq_getElem (by rw [← HN.out]; exact hlt)⟩
      have hA := HA.out.below HW.out hS
      have hB := HB.out.below HW.out hS'
      obtain ⟨p1, o1, c1', A1, e1, hv1, hs1, ht1, d0, d1⟩ := hA.get j t ht
      obtain ⟨p2, o2, c2', A2, e2, hv2, hs2, ht2, d2, d3⟩ := hB.get j t ht
      injection hv1 with h1 hx1 h2
      injection hv2 with h3 hx2 h4
      subst h1 h2 h3 h4
      clear hx1 hx2
      have hlt' : (j : Int) < (n : Int) := by omega
      have hj0 : (0 : Int) ≤ (j : Int) := by omega
      obtain ⟨m, hm⟩ : ∃ m, m = t.nodes.length := ⟨_, rfl⟩
      obtain ⟨r, hr⟩ : ∃ r, r = t.root := ⟨_, rfl⟩
      rw [← hm, ← hr] at ht1 ht2
      rw [← hm] at d0 d2
      rw [← hr] at d1 d3
      have hl1 := hS _ hs1
      have hl2 := hS' _ hs2
      have hwo := HW.out.size
      have HEx := Lib.hid (show ∀ wx, Below wo.heap.size wo wx → Calls Tryd.prog 13 #[.agg #[.slice A1 m e1, .int .i64 r], .agg #[.slice A2 m e2, .int .i64 r]] wx fun e w' => e = .returned (.bool true) ∧ Below wx.heap.size wx w' from fun wx hx => by
        have h := exact_g (ht1.below hx fun b hb => Nat.lt_of_lt_of_le (hS b hb) hwo) (ht2.below hx fun b hb => Nat.lt_of_lt_of_le (hS' b hb) hwo) (fun b hb => Nat.lt_of_lt_of_le (hS b hb) (Nat.le_trans hwo hx.size)) (fun b hb => Nat.lt_of_lt_of_le (hS' b hb) (Nat.le_trans hwo hx.size)) (hs t (List.mem_of_getElem? ht))
        simpa using h)
      have HCL := Lib.hid (show ∀ wx, Below wo.heap.size wo wx → wx.cell? ⟨p1, o1 + j * 2, none⟩ = some (.slice A1 m e1) ∧ wx.cell? ⟨p1, o1 + j * 2 + 1, none⟩ = some (.int .i64 r) ∧ wx.cell? ⟨p2, o2 + j * 2, none⟩ = some (.slice A2 m e2) ∧ wx.cell? ⟨p2, o2 + j * 2 + 1, none⟩ = some (.int .i64 r) from fun wx hx =>
        ⟨(hx.cell (p := ⟨p1, o1 + j * 2, none⟩) (by show p1 < _; omega)).trans d0, (hx.cell (p := ⟨p1, o1 + j * 2 + 1, none⟩) (by show p1 < _; omega)).trans d1, (hx.cell (p := ⟨p2, o2 + j * 2, none⟩) (by show p2 < _; omega)).trans d2, (hx.cell (p := ⟨p2, o2 + j * 2 + 1, none⟩) (by show p2 < _; omega)).trans d3⟩)
      clear hA hB ht1 ht2 d0 d1 d2 d3 ht hm hr
      go_wp2_with fail
      refine wp_region_inv (G := Unit) () UE UN
        [fun v _ => v = .slice (some ⟨p1, o1, none⟩) n c1, fun v _ => v = .int .i64 j, fun v _ => v = .pointer (some ⟨p1, o1 + j * 2, none⟩), fun v _ => v = .agg #[.slice A1 m e1, .int .i64 r], fun v _ => v = .slice (some ⟨p2, o2, none⟩) n c2, fun v _ => v = .int .i64 j, fun v _ => v = .pointer (some ⟨p2, o2 + j * 2, none⟩), fun v _ => v = .agg #[.slice A2 m e2, .int .i64 r], fun v _ => v = .bool true, fun v _ => v = .bool false]
        (by kernel_rfl) UE.trans (UE.refl _) (by kernel_rfl) (by kernel_rfl) (fun _ => trivial) ?rsta6 ?rstepsa6 ?rfina6
      case rsta6 =>
        intro R hR v s s' _ h hr
        simp only [List.mem_cons, List.not_mem_nil, or_false] at hR
        rcases hR with rfl | rfl | rfl | rfl | rfl | rfl | rfl | rfl | rfl | rfl
        · exact hr
        · exact hr
        · exact hr
        · exact hr
        · exact hr
        · exact hr
        · exact hr
        · exact hr
        · exact hr
        · exact hr
      case rstepsa6 =>
        refine ⟨?_, ?_, ?_, ?_, ?_, ?_, ?_, ?_, ?_, ?_, trivial⟩
        · intro a γ wx hB hE hN hW K hK
          have hw := UE.start hE
          have h0 : a.tmps[0]? = some (.slice (some ⟨p1, o1, none⟩) n c1) := (hB.at_ 0 (of_decide_eq_true (by kernel_rfl))).trans rfl
          clear hB hN hE
          go_simp
          exact hK (.slice (some ⟨p1, o1, none⟩) n c1) () _ (UE.refl _) (fun _ _ h => h) rfl
        · intro a γ wx hB hE hN hW K hK
          have hw := UE.start hE
          have h5 : a.tmps[5]? = some (.int .i64 j) := (hB.at_ 5 (of_decide_eq_true (by kernel_rfl))).trans rfl
          clear hB hN hE
          go_simp
          exact hK (.int .i64 j) () _ (UE.refl _) (fun _ _ h => h) rfl
        · intro a γ wx hB hE hN hW K hK
          have hw := UE.start hE
          obtain ⟨⟨_, h17, rfl⟩, ⟨_, h18, rfl⟩, -⟩ := hW
          clear hB hN hE
          go_simp
          exact hK (.pointer (some ⟨p1, o1 + j * 2, none⟩)) () _ (UE.refl _) (fun _ _ h => h) rfl
        · intro a γ wx hB hE hN hW K hK
          have hw := UE.start hE
          obtain ⟨⟨_, h19, rfl⟩, -⟩ := hW
          have hc := HCL.out _ hw
          clear hB hN hE
          go_simp
          exact hK (.agg #[.slice A1 m e1, .int .i64 r]) () _ (UE.refl _) (fun _ _ h => h) rfl
        · intro a γ wx hB hE hN hW K hK
          have hw := UE.start hE
          have h1 : a.tmps[1]? = some (.slice (some ⟨p2, o2, none⟩) n c2) := (hB.at_ 1 (of_decide_eq_true (by kernel_rfl))).trans rfl
          clear hB hN hE
          go_simp
          exact hK (.slice (some ⟨p2, o2, none⟩) n c2) () _ (UE.refl _) (fun _ _ h => h) rfl
        · intro a γ wx hB hE hN hW K hK
          have hw := UE.start hE
          have h5 : a.tmps[5]? = some (.int .i64 j) := (hB.at_ 5 (of_decide_eq_true (by kernel_rfl))).trans rfl
          clear hB hN hE
          go_simp
          exact hK (.int .i64 j) () _ (UE.refl _) (fun _ _ h => h) rfl
        · intro a γ wx hB hE hN hW K hK
          have hw := UE.start hE
          obtain ⟨⟨_, h21, rfl⟩, ⟨_, h22, rfl⟩, -⟩ := hW
          clear hB hN hE
          go_simp
          exact hK (.pointer (some ⟨p2, o2 + j * 2, none⟩)) () _ (UE.refl _) (fun _ _ h => h) rfl
        · intro a γ wx hB hE hN hW K hK
          have hw := UE.start hE
          obtain ⟨⟨_, h23, rfl⟩, -⟩ := hW
          have hc := HCL.out _ hw
          clear hB hN hE
          go_simp
          exact hK (.agg #[.slice A2 m e2, .int .i64 r]) () _ (UE.refl _) (fun _ _ h => h) rfl
        · intro a γ wx hB hE hN hW K hK
          have hw := UE.start hE
          obtain ⟨⟨_, h20, rfl⟩, ⟨_, h24, rfl⟩, -⟩ := hW
          clear hB hN hE
          go_simp
          refine (HEx.out _ hw).mono ?_
          rintro e w' ⟨rfl, hbb⟩
          exact hK _ () _ hbb (fun _ _ h => h) rfl
        · intro a γ wx hB hE hN hW K hK
          have hw := UE.start hE
          obtain ⟨⟨_, h25, rfl⟩, -⟩ := hW
          clear hB hN hE
          go_simp
          exact hK (.bool false) () _ (UE.refl _) (fun _ _ h => h) rfl
      intro a' γ wx hB hE hK
      obtain ⟨_, h17, rfl⟩ := hK 0 (of_decide_eq_true (by kernel_rfl))
      obtain ⟨_, h18, rfl⟩ := hK 1 (of_decide_eq_true (by kernel_rfl))
      obtain ⟨_, h19, rfl⟩ := hK 2 (of_decide_eq_true (by kernel_rfl))
      obtain ⟨_, h20, rfl⟩ := hK 3 (of_decide_eq_true (by kernel_rfl))
      obtain ⟨_, h21, rfl⟩ := hK 4 (of_decide_eq_true (by kernel_rfl))
      obtain ⟨_, h22, rfl⟩ := hK 5 (of_decide_eq_true (by kernel_rfl))
      obtain ⟨_, h23, rfl⟩ := hK 6 (of_decide_eq_true (by kernel_rfl))
      obtain ⟨_, h24, rfl⟩ := hK 7 (of_decide_eq_true (by kernel_rfl))
      obtain ⟨_, h25, rfl⟩ := hK 8 (of_decide_eq_true (by kernel_rfl))
      obtain ⟨_, h26, rfl⟩ := hK 9 (of_decide_eq_true (by kernel_rfl))
      have ha := hB.eq [(17, .slice (some ⟨p1, o1, none⟩) n c1), (18, .int .i64 j), (19, .pointer (some ⟨p1, o1 + j * 2, none⟩)), (20, .agg #[.slice A1 m e1, .int .i64 r]), (21, .slice (some ⟨p2, o2, none⟩) n c2), (22, .int .i64 j), (23, .pointer (some ⟨p2, o2 + j * 2, none⟩)), (24, .agg #[.slice A2 m e2, .int .i64 r]), (25, .bool true), (26, .bool false)] rfl (by kernel_rfl) ⟨h17, h18, h19, h20, h21, h22, h23, h24, h25, h26, trivial⟩
      subst ha
      have hw := UE.start hE
      clear hK hB hE h17 h18 h19 h20 h21 h22 h23 h24 h25 h26
      simp only [putAll, List.foldl_cons, List.foldl_nil, List.setIfInBounds_toArray, List.set_cons_succ, List.set_cons_zero]
      go_wp2_with fail
      go_roundw
      case measure => simp [intOf]; omega
      case rel => exact ⟨j + 1, by omega, by go_num, Lib.hid (HW.out.trans (hw.mono HW.out.size))⟩
    · go_wp2_with fail
      go_ret
      exact ⟨rfl, HW.out⟩
end Go.Proofs.YtlmlbdmbgfclkaaDoor

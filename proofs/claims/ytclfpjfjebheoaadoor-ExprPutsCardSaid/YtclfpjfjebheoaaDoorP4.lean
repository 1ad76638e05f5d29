/- The parts of a proof, merged: Ex13 Ex14 Ex15 Ex16 Ex17 Ex18 Ex19 Ex20 Ex21 Ex22 -/
import Derived.Test.YtclfpjfjebheoaaDoorP3
/- The contracts of expr.Head and Tail. -/
namespace Go.Proofs.YtclfpjfjebheoaaDoor
set_option linter.unusedSimpArgs false
open Go.RowKit
open Classical

noncomputable def headB (t : Tr) : Bool := decide (partsL t ≠ [])
noncomputable def headT (t : Tr) : Tr := (partsL t).headD zeroT

set_option maxRecDepth 20000 in
set_option maxHeartbeats 4000000 in
theorem Head_g {t : Tr} {v : Value} {S : Nat → Prop} {w : World} (h : GivenE t v S w) : Calls Tryd.prog 39 #[v] w fun e w' => ∃ u, e = .returned (.tuple #[u, .bool (headB t)]) ∧ XTree w' (fun b => w.heap.size ≤ b) u (headT t) ∧ Below w.heap.size w w' := by
  obtain ⟨nv, rfl, hns, hr1, hr2⟩ := h.given.read
  obtain ⟨A, c, rfl, hc, hs, _⟩ := hns.at_
  obtain ⟨ws, hws⟩ : ∃ ws, ws = (w.alloc (.cells #[.slice A t.nodes.length c, .int .i64 t.root] 34)).alloc (.cells #[.slice none 0 0, .int .i64 0] 34) := ⟨_, rfl⟩
  have hbs : Below w.heap.size w ws := by rw [hws]; exact ((Below.refl _ _).alloc (Nat.le_refl _) _).alloc (by simp) _
  have hsz : ws.heap.size = w.heap.size + 2 := by rw [hws]; simp
  have hBT : Blk ws w.heap.size 34 #[.slice A t.nodes.length c, .int .i64 t.root] := by rw [hws]; exact (Blk.new w _ _).alloc _
  have hBR0 : Blk ws (w.heap.size + 1) 34 #[.slice none 0 0, .int .i64 0] := by rw [hws]; exact Blk.new1 _ _ _ _
  have HP := Lib.hid (Parts_g (h.below hbs))
  have b0 : ws.cell? ⟨w.heap.size, 0, none⟩ = some (.slice A t.nodes.length c) := hBT.cell 0
  have b1 : ws.cell? ⟨w.heap.size, 1, none⟩ = some (.int .i64 t.root) := hBT.cell 1
  have HSZ := Lib.hid hsz
  have HBS := Lib.hid hbs
  have HBR0 := Lib.hid hBR0
  clear hbs hsz hBT hBR0 h hns
  go_enter Tryd.func39, Tryd.ntmps39
  go_wp2_with fail
  rw [← hws]
  clear hws
  go_wp2_with fail
  refine HP.out.mono ?_
  rintro e w2 ⟨⟨u, rfl, hu⟩, hb2⟩
  have hBR2 := HBR0.out.below hb2 HBR0.out.lt
  have HW2 := Lib.hid (HBS.out.trans (hb2.mono HBS.out.size))
  have c0 : w2.cell? ⟨w.heap.size + 1, 0, none⟩ = some (.slice none 0 0) := hBR2.cell 0
  have c1 : w2.cell? ⟨w.heap.size + 1, 1, none⟩ = some (.int .i64 0) := hBR2.cell 1
  have f0 : w2.frozen? ⟨w.heap.size + 1, 0, none⟩ = false := hBR2.frozen 0
  have f1 : w2.frozen? ⟨w.heap.size + 1, 1, none⟩ = false := hBR2.frozen 1
  obtain ⟨L, hL⟩ : ∃ L, L = partsL t := ⟨_, rfl⟩
  rw [← hL] at hu
  have HB2 := Lib.hid hBR2
  have hB : headB t = decide (L ≠ []) := by rw [headB, hL]
  have hT : headT t = L.headD zeroT := by rw [headT, hL]
  have HBT := Lib.hid (And.intro hB hT)
  clear hBR2 hb2 hL hB hT
  cases L with
  | nil =>
    obtain ⟨A1, c1', rfl, _⟩ := hu.at_
    have HBZ := Lib.hid (HB2.out.set2 (.slice none 0 0) (.int .i64 0))
    clear hu
    go_wp2_with fail
    refine bodyPost_ret (results_cell2 rfl _ _ (w.heap.size + 1) _ _ _ rfl HBZ.out Tryd.underlying34 rfl tree_size) rfl ?_
    exact ⟨.agg #[.slice none 0 0, .int .i64 0], by rw [HBT.out.1]; simp, by rw [HBT.out.2]; exact XTree.zero _ _, (HW2.out.setCell (by simp) _).setCell (by simp) _⟩
  | cons x L =>
    obtain ⟨b, off, cl, A2, e2, rfl, hSb, htr, k0, k1⟩ := hu.get 0 x rfl
    have HBZ := Lib.hid (HB2.out.set2 (.slice A2 x.nodes.length e2) (.int .i64 x.root))
    have hx : XTree w2 (fun b => w.heap.size + 2 ≤ b) (.agg #[.slice A2 x.nodes.length e2, .int .i64 x.root]) x := htr.more fun b hb => ⟨by have := hb.1; have := HSZ.out; omega, hb.2⟩
    have HE := Lib.hid (end_tree (g := w.heap.size + 1) HW2.out hx (by omega) (by omega))
    clear hu htr hx
    simp only [Nat.zero_mul, Nat.add_zero] at k0 k1
    obtain ⟨n, hn⟩ : ∃ n, n = L.length := ⟨_, rfl⟩
    have hn1 : (x :: L).length = n + 1 := by rw [hn, List.length_cons]
    rw [hn1]
    have hz : decide ((n : Int) + 1 = 0) = false := by simp; omega
    clear hn hn1
    go_wp2_with fail
    refine bodyPost_ret (results_cell2 rfl _ _ (w.heap.size + 1) _ _ _ rfl HBZ.out Tryd.underlying34 rfl tree_size) rfl ?_
    exact ⟨.agg #[.slice A2 x.nodes.length e2, .int .i64 x.root], by rw [HBT.out.1]; simp, by rw [HBT.out.2]; exact HE.out.1, HE.out.2⟩

theorem XL.tail {w : World} {lo b off n c c' : Nat} {x : Tr} {L : List Tr} (h : XL w lo (.slice (some ⟨b, off, none⟩) n c) (x :: L)) (hc : L.length ≤ c') : XL w lo (.slice (some ⟨b, off + 2, none⟩) L.length c') L := by
  obtain ⟨nvs, hl, ⟨hlen, hsm, A, c0, hv, hle, hr⟩, hq⟩ := h
  match nvs, hl with
  | nv :: nvs, hl =>
    refine ⟨nvs, by simpa using hl, ⟨?_, by simp at hsm; omega, _, _, rfl, hc, fun hn => ?_⟩, fun j t nv h1 h2 => hq (j + 1) t nv (by simpa using h1) (by simpa using h2)⟩
    · simp at hlen ⊢; omega
    · obtain ⟨b', off', e, hS, hcell⟩ := hr (by simp)
      injection hv with hA _ _
      rw [e] at hA
      injection hA with hA
      injection hA with hA hO
      subst hA; subst hO
      refine ⟨_, _, rfl, hS, fun j u hu => ?_⟩
      have := hcell (j + 2) u (by simpa using hu)
      rwa [show off + 2 + j = off + (j + 2) by omega]
theorem parts_sum (t : Tr) : ((partsL t).map (·.nodes.length)).sum ≤ t.nodes.length ∧ (partsL t).length ≤ t.nodes.length := by
  unfold partsL
  by_cases hr : RightT t
  · rw [if_pos hr]
    have h1 := nf_size (treeOf t)
    have h2 := hr.size
    have h3 := size_kids (nf (treeOf t))
    have h4 := sizes_len (nf (treeOf t)).kids
    have h5 := nfTr_len t
    have h6 := (treeOf t).size_pos
    split
    · rw [sum_flat, List.length_map]; omega
    · split
      · simp
      · simp; omega
  · rw [if_neg hr]; simp
noncomputable def tailB (t : Tr) : Bool := decide (partsL t ≠ []) && ofEB seqD (partsL t).tail
noncomputable def tailT (t : Tr) : Tr := if partsL t = [] then zeroT else ofET seqD (partsL t).tail

set_option maxRecDepth 20000 in
set_option maxHeartbeats 4000000 in
theorem Tail_g {t : Tr} {v : Value} {S : Nat → Prop} {w : World} (h : GivenE t v S w) : Calls Tryd.prog 40 #[v] w fun e w' => ∃ u, e = .returned (.tuple #[u, .bool (tailB t)]) ∧ XTree w' (fun b => w.heap.size ≤ b) u (tailT t) ∧ Below w.heap.size w w' := by
  obtain ⟨nv, rfl, hns, hr1, hr2⟩ := h.given.read
  obtain ⟨A, c, rfl, hc, hs, _⟩ := hns.at_
  obtain ⟨ws, hws⟩ : ∃ ws, ws = (w.alloc (.cells #[.slice A t.nodes.length c, .int .i64 t.root] 34)).alloc (.cells #[.slice none 0 0, .int .i64 0] 34) := ⟨_, rfl⟩
  have hbs : Below w.heap.size w ws := by rw [hws]; exact ((Below.refl _ _).alloc (Nat.le_refl _) _).alloc (by simp) _
  have hsz : ws.heap.size = w.heap.size + 2 := by rw [hws]; simp
  have hBT : Blk ws w.heap.size 34 #[.slice A t.nodes.length c, .int .i64 t.root] := by rw [hws]; exact (Blk.new w _ _).alloc _
  have hBR0 : Blk ws (w.heap.size + 1) 34 #[.slice none 0 0, .int .i64 0] := by rw [hws]; exact Blk.new1 _ _ _ _
  have HP := Lib.hid (Parts_g (h.below hbs))
  have b0 : ws.cell? ⟨w.heap.size, 0, none⟩ = some (.slice A t.nodes.length c) := hBT.cell 0
  have b1 : ws.cell? ⟨w.heap.size, 1, none⟩ = some (.int .i64 t.root) := hBT.cell 1
  have HSZ := Lib.hid hsz
  have HBS := Lib.hid hbs
  have HBR0 := Lib.hid hBR0
  have HG := Lib.hid h
  clear hbs hsz hBT hBR0 h hns
  go_enter Tryd.func40, Tryd.ntmps40
  go_wp2_with fail
  rw [← hws]
  clear hws
  go_wp2_with fail
  refine HP.out.mono ?_
  rintro e w2 ⟨⟨u, rfl, hu⟩, hb2⟩
  have HSB := Lib.hid hb2.size
  have hBR2 := HBR0.out.below hb2 HBR0.out.lt
  have HW2 := Lib.hid (HBS.out.trans (hb2.mono HBS.out.size))
  have c0 : w2.cell? ⟨w.heap.size + 1, 0, none⟩ = some (.slice none 0 0) := hBR2.cell 0
  have c1 : w2.cell? ⟨w.heap.size + 1, 1, none⟩ = some (.int .i64 0) := hBR2.cell 1
  have f0 : w2.frozen? ⟨w.heap.size + 1, 0, none⟩ = false := hBR2.frozen 0
  have f1 : w2.frozen? ⟨w.heap.size + 1, 1, none⟩ = false := hBR2.frozen 1
  obtain ⟨L, hL⟩ : ∃ L, L = partsL t := ⟨_, rfl⟩
  rw [← hL] at hu
  have HB2 := Lib.hid hBR2
  have hB : tailB t = (decide (L ≠ []) && ofEB seqD L.tail) := by rw [tailB, hL]
  have hT : tailT t = if L = [] then zeroT else ofET seqD L.tail := by rw [tailT, hL]
  have HBT := Lib.hid (And.intro hB hT)
  have hsum := parts_sum t
  rw [← hL] at hsum
  have HSUM := Lib.hid hsum
  clear hBR2 hb2 hL hB hT hsum
  cases L with
  | nil =>
    obtain ⟨A1, c1', rfl, _⟩ := hu.at_
    have HBZ := Lib.hid (HB2.out.set2 (.slice none 0 0) (.int .i64 0))
    clear hu
    go_wp2_with fail
    refine bodyPost_ret (results_cell2 rfl _ _ (w.heap.size + 1) _ _ _ rfl HBZ.out Tryd.underlying34 rfl tree_size) rfl ?_
    exact ⟨.agg #[.slice none 0 0, .int .i64 0], by rw [HBT.out.1]; simp, by rw [HBT.out.2]; exact XTree.zero _ _, (HW2.out.setCell (by simp) _).setCell (by simp) _⟩
  | cons x L =>
    obtain ⟨b, off, cl, A2, e2, rfl, hSb, htr, k0, k1⟩ := hu.get 0 x rfl
    obtain ⟨A1, c1', hv1, hle, _⟩ := hu.at_
    injection hv1 with hv2 hv3 hv4
    subst hv4
    have hle : L.length + 1 ≤ cl := by simpa using hle
    have hs2 : w.heap.size + 2 ≤ w2.heap.size := by have := HSB.out; have := HSZ.out; omega
    have hq : ∀ V, XL w2 ws.heap.size V L → Calls Tryd.prog 20 #[V] w2 (OfPost seqD L w2) := fun V hXT => Seq_g (show GivenEL L V _ w2 from ⟨hXT, fun b h => h.2.1, HG.out.given.tab.below HW2.out, HG.out.tog.below HW2.out, by
      have h1 := HSUM.out.1; have h2 := HG.out.less; simp only [List.map_cons, List.sum_cons] at h1; omega, by
      have h1 := HSUM.out.2; have h2 := HG.out.less; simp only [List.length_cons] at h1; omega⟩)
    by_cases hcl : cl = 1
    · subst hcl
      obtain rfl : L = [] := List.eq_nil_of_length_eq_zero (by omega)
      have HQ := Lib.hid (hq (.slice (some ⟨b, off, none⟩) 0 0) ⟨[], rfl, ⟨by simp, by simp [maxLen], _, _, rfl, Nat.zero_le _, fun h => by simp at h⟩, fun j t nv h => by simp at h⟩)
      clear hu htr hq hv2 hv3 k0 k1 hle
      go_wp2_with fail
      refine HQ.out.mono ?_
      rintro e w3 ⟨u, rfl, hu3, hb3⟩
      obtain ⟨bb, hbb⟩ : ∃ bb, bb = ofEB seqD [] := ⟨_, rfl⟩
      obtain ⟨x0, hx0⟩ : ∃ x0, x0 = ofET seqD [] := ⟨_, rfl⟩
      rw [← hx0] at hu3
      rw [← hbb]
      obtain ⟨A4, c4, rfl⟩ := hu3.agg
      have hB3 := HB2.out.below hb3 HB2.out.lt
      have c0 : w3.cell? ⟨w.heap.size + 1, 0, none⟩ = some (.slice none 0 0) := hB3.cell 0
      have c1 : w3.cell? ⟨w.heap.size + 1, 1, none⟩ = some (.int .i64 0) := hB3.cell 1
      have f0 : w3.frozen? ⟨w.heap.size + 1, 0, none⟩ = false := hB3.frozen 0
      have f1 : w3.frozen? ⟨w.heap.size + 1, 1, none⟩ = false := hB3.frozen 1
      have HBZ := Lib.hid (hB3.set2 (.slice A4 x0.nodes.length c4) (.int .i64 x0.root))
      have HE := Lib.hid (end_tree (g := w.heap.size + 1) (HW2.out.trans (hb3.mono HW2.out.size)) hu3 (by omega) (by have := hs2; omega))
      have HX := Lib.hid (And.intro hbb hx0)
      clear hB3 hu3 hb3 hbb hx0
      go_wp2_with fail
      refine bodyPost_ret (results_cell2 rfl _ _ (w.heap.size + 1) _ _ _ rfl HBZ.out Tryd.underlying34 rfl tree_size) rfl ?_
      exact ⟨.agg #[.slice A4 x0.nodes.length c4, .int .i64 x0.root], by rw [HBT.out.1, HX.out.1]; simp, by rw [HBT.out.2, if_neg (by simp)]; have := HE.out.1; rw [HX.out.2] at this ⊢; exact this, HE.out.2⟩
    · have HQ := Lib.hid (hq _ (XL.tail (c' := cl - 1) hu (by omega)))
      obtain ⟨n, hn⟩ : ∃ n, n = L.length := ⟨_, rfl⟩
      have hn1 : (x :: L).length = n + 1 := by rw [hn, List.length_cons]
      rw [hn1]
      rw [← hn] at HQ hle
      have hz : decide ((n : Int) + 1 = 0) = false := by simp; omega
      have hcl2 : 1 < cl := by omega
      clear hn hn1 hu htr hq hv2 hv3 k0 k1
      go_wp2_with fail
      refine HQ.out.mono ?_
      rintro e w3 ⟨u, rfl, hu3, hb3⟩
      obtain ⟨bb, hbb⟩ : ∃ bb, bb = ofEB seqD L := ⟨_, rfl⟩
      obtain ⟨x0, hx0⟩ : ∃ x0, x0 = ofET seqD L := ⟨_, rfl⟩
      rw [← hx0] at hu3
      rw [← hbb]
      obtain ⟨A4, c4, rfl⟩ := hu3.agg
      have hB3 := HB2.out.below hb3 HB2.out.lt
      have c0 : w3.cell? ⟨w.heap.size + 1, 0, none⟩ = some (.slice none 0 0) := hB3.cell 0
      have c1 : w3.cell? ⟨w.heap.size + 1, 1, none⟩ = some (.int .i64 0) := hB3.cell 1
      have f0 : w3.frozen? ⟨w.heap.size + 1, 0, none⟩ = false := hB3.frozen 0
      have f1 : w3.frozen? ⟨w.heap.size + 1, 1, none⟩ = false := hB3.frozen 1
      have HBZ := Lib.hid (hB3.set2 (.slice A4 x0.nodes.length c4) (.int .i64 x0.root))
      have HE := Lib.hid (end_tree (g := w.heap.size + 1) (HW2.out.trans (hb3.mono HW2.out.size)) hu3 (by omega) (by have := hs2; omega))
      have HX := Lib.hid (And.intro hbb hx0)
      clear hB3 hu3 hb3 hbb hx0
      go_wp2_with fail
      refine bodyPost_ret (results_cell2 rfl _ _ (w.heap.size + 1) _ _ _ rfl HBZ.out Tryd.underlying34 rfl tree_size) rfl ?_
      exact ⟨.agg #[.slice A4 x0.nodes.length c4, .int .i64 x0.root], by rw [HBT.out.1, HX.out.1]; simp, by rw [HBT.out.2, if_neg (by simp)]; have := HE.out.1; rw [HX.out.2] at this ⊢; exact this, HE.out.2⟩
end Go.Proofs.YtclfpjfjebheoaaDoor
/- The contract of bonsairef05.Exact, of two rows that read as the same trees. -/
namespace Go.Proofs.YtclfpjfjebheoaaDoor
set_option linter.unusedSimpArgs false
open Go.RowKit
open Classical

set_option maxRecDepth 20000 in
set_option maxHeartbeats 4000000 in
theorem exactL_eq {va vb : Value} {ts : List Tr} {S S' : Nat → Prop} {w : World} (ha : RTrees w S va ts) (hb : RTrees w S' vb ts) (hS : ∀ b, S b → b < w.heap.size) (hS' : ∀ b, S' b → b < w.heap.size) (hs : ∀ t ∈ ts, t.nodes.length ≤ 1000000) :
    Calls Tryd.prog 26 #[va, vb] w fun e w' => e = .returned (.bool true) ∧ Below w.heap.size w w' := by
  obtain ⟨n, hn⟩ : ∃ n, n = ts.length := ⟨_, rfl⟩
  have HN := Lib.hid hn
  have HA := Lib.hid ha
  have HB := Lib.hid hb
  obtain ⟨A1, c1, rfl, _, hm, _⟩ := ha.at_
  obtain ⟨A2, c2, rfl, _, _, _⟩ := hb.at_
  rw [← hn] at hm HA HB ⊢
  unfold maxLen at hm
  clear ha hb hn
  go_enter Tryd.func26, Tryd.ntmps26
  go_wp2_with fail
  go_loopw [5] (fun i wr => ∃ j : Nat, j ≤ n ∧ i = .int .i64 j ∧ Hid (Below w.heap.size w wr)) (fun i _ => n - (intOf i).toNat)
  case atStart => exact ⟨0, Nat.zero_le _, rfl, Lib.hid (Below.refl _ _)⟩
  case round =>
    obtain ⟨wo, rfl⟩ : ∃ wo, wo = wr := ⟨_, rfl⟩
    obtain ⟨j, hj, rfl, HW⟩ := hrel
    by_cases hlt : j < n
    · obtain ⟨t, ht⟩ : ∃ t, ts[j]? = some t := ⟨_, List.getElem?_eq_getElem (by rw [← HN.out]; exact hlt)⟩
      have hA := HA.out.below HW.out hS
      have hB := HB.out.below HW.out hS'
      obtain ⟨p1, o1, c1', A1, e1, hv1, hs1, ht1, d0, d1⟩ := hA.get j t ht
      obtain ⟨p2, o2, c2', A2, e2, hv2, hs2, ht2, d2, d3⟩ := hB.get j t ht
      injection hv1 with h1 hx1 h2
      injection hv2 with h3 hx2 h4
      subst h1 h2 h3 h4
      clear hx1 hx2
      have hlt' : (j : Int) < (n : Int) := by omega
      have hj0 : (0 : Int) ≤ (j : Int) := by omega
      obtain ⟨m, hm⟩ : ∃ m, m = t.nodes.length := ⟨_, rfl⟩
      obtain ⟨r, hr⟩ : ∃ r, r = t.root := ⟨_, rfl⟩
      rw [← hm, ← hr] at ht1 ht2
      rw [← hm] at d0 d2
      rw [← hr] at d1 d3
      have hl1 := hS _ hs1
      have hl2 := hS' _ hs2
      have hwo := HW.out.size
      have HEx := Lib.hid (show ∀ wx, Below wo.heap.size wo wx → Calls Tryd.prog 65 #[.agg #[.slice A1 m e1, .int .i64 r], .agg #[.slice A2 m e2, .int .i64 r]] wx fun e w' => e = .returned (.bool true) ∧ Below wx.heap.size wx w' from fun wx hx => by
        have h := exact_g (ht1.below hx fun b hb => Nat.lt_of_lt_of_le (hS b hb) hwo) (ht2.below hx fun b hb => Nat.lt_of_lt_of_le (hS' b hb) hwo) (fun b hb => Nat.lt_of_lt_of_le (hS b hb) (Nat.le_trans hwo hx.size)) (fun b hb => Nat.lt_of_lt_of_le (hS' b hb) (Nat.le_trans hwo hx.size)) (hs t (List.mem_of_getElem? ht))
        simpa using h)
      have HCL := Lib.hid (show ∀ wx, Below wo.heap.size wo wx → wx.cell? ⟨p1, o1 + j * 2, none⟩ = some (.slice A1 m e1) ∧ wx.cell? ⟨p1, o1 + j * 2 + 1, none⟩ = some (.int .i64 r) ∧ wx.cell? ⟨p2, o2 + j * 2, none⟩ = some (.slice A2 m e2) ∧ wx.cell? ⟨p2, o2 + j * 2 + 1, none⟩ = some (.int .i64 r) from fun wx hx =>
        ⟨(hx.cell (p := ⟨p1, o1 + j * 2, none⟩) (by show p1 < _; omega)).trans d0, (hx.cell (p := ⟨p1, o1 + j * 2 + 1, none⟩) (by show p1 < _; omega)).trans d1, (hx.cell (p := ⟨p2, o2 + j * 2, none⟩) (by show p2 < _; omega)).trans d2, (hx.cell (p := ⟨p2, o2 + j * 2 + 1, none⟩) (by show p2 < _; omega)).trans d3⟩)
      clear hA hB ht1 ht2 d0 d1 d2 d3 ht hm hr
      go_wp2_with fail
      refine wp_region_inv (G := Unit) () UE UN
        [fun v _ => v = .slice (some ⟨p1, o1, none⟩) n c1, fun v _ => v = .int .i64 j, fun v _ => v = .pointer (some ⟨p1, o1 + j * 2, none⟩), fun v _ => v = .agg #[.slice A1 m e1, .int .i64 r], fun v _ => v = .slice (some ⟨p2, o2, none⟩) n c2, fun v _ => v = .int .i64 j, fun v _ => v = .pointer (some ⟨p2, o2 + j * 2, none⟩), fun v _ => v = .agg #[.slice A2 m e2, .int .i64 r], fun v _ => v = .bool true, fun v _ => v = .bool false]
        (by kernel_rfl) UE.trans (UE.refl _) (by kernel_rfl) (by kernel_rfl) (fun _ => trivial) ?rsta6 ?rstepsa6 ?rfina6
      case rsta6 =>
        intro R hR v s s' _ h hr
        simp only [List.mem_cons, List.not_mem_nil, or_false] at hR
        rcases hR with rfl | rfl | rfl | rfl | rfl | rfl | rfl | rfl | rfl | rfl
        · exact hr
        · exact hr
        · exact hr
        · exact hr
        · exact hr
        · exact hr
        · exact hr
        · exact hr
        · exact hr
        · exact hr
      case rstepsa6 =>
        refine ⟨?_, ?_, ?_, ?_, ?_, ?_, ?_, ?_, ?_, ?_, trivial⟩
        · intro a γ wx hB hE hN hW K hK
          have hw := UE.start hE
          have h0 : a.tmps[0]? = some (.slice (some ⟨p1, o1, none⟩) n c1) := (hB.at_ 0 (of_decide_eq_true (by kernel_rfl))).trans rfl
          clear hB hN hE
          go_simp
          exact hK (.slice (some ⟨p1, o1, none⟩) n c1) () _ (UE.refl _) (fun _ _ h => h) rfl
        · intro a γ wx hB hE hN hW K hK
          have hw := UE.start hE
          have h5 : a.tmps[5]? = some (.int .i64 j) := (hB.at_ 5 (of_decide_eq_true (by kernel_rfl))).trans rfl
          clear hB hN hE
          go_simp
          exact hK (.int .i64 j) () _ (UE.refl _) (fun _ _ h => h) rfl
        · intro a γ wx hB hE hN hW K hK
          have hw := UE.start hE
          obtain ⟨⟨_, h17, rfl⟩, ⟨_, h18, rfl⟩, -⟩ := hW
          clear hB hN hE
          go_simp
          exact hK (.pointer (some ⟨p1, o1 + j * 2, none⟩)) () _ (UE.refl _) (fun _ _ h => h) rfl
        · intro a γ wx hB hE hN hW K hK
          have hw := UE.start hE
          obtain ⟨⟨_, h19, rfl⟩, -⟩ := hW
          have hc := HCL.out _ hw
          clear hB hN hE
          go_simp
          exact hK (.agg #[.slice A1 m e1, .int .i64 r]) () _ (UE.refl _) (fun _ _ h => h) rfl
        · intro a γ wx hB hE hN hW K hK
          have hw := UE.start hE
          have h1 : a.tmps[1]? = some (.slice (some ⟨p2, o2, none⟩) n c2) := (hB.at_ 1 (of_decide_eq_true (by kernel_rfl))).trans rfl
          clear hB hN hE
          go_simp
          exact hK (.slice (some ⟨p2, o2, none⟩) n c2) () _ (UE.refl _) (fun _ _ h => h) rfl
        · intro a γ wx hB hE hN hW K hK
          have hw := UE.start hE
          have h5 : a.tmps[5]? = some (.int .i64 j) := (hB.at_ 5 (of_decide_eq_true (by kernel_rfl))).trans rfl
          clear hB hN hE
          go_simp
          exact hK (.int .i64 j) () _ (UE.refl _) (fun _ _ h => h) rfl
        · intro a γ wx hB hE hN hW K hK
          have hw := UE.start hE
          obtain ⟨⟨_, h21, rfl⟩, ⟨_, h22, rfl⟩, -⟩ := hW
          clear hB hN hE
          go_simp
          exact hK (.pointer (some ⟨p2, o2 + j * 2, none⟩)) () _ (UE.refl _) (fun _ _ h => h) rfl
        · intro a γ wx hB hE hN hW K hK
          have hw := UE.start hE
          obtain ⟨⟨_, h23, rfl⟩, -⟩ := hW
          have hc := HCL.out _ hw
          clear hB hN hE
          go_simp
          exact hK (.agg #[.slice A2 m e2, .int .i64 r]) () _ (UE.refl _) (fun _ _ h => h) rfl
        · intro a γ wx hB hE hN hW K hK
          have hw := UE.start hE
          obtain ⟨⟨_, h20, rfl⟩, ⟨_, h24, rfl⟩, -⟩ := hW
          clear hB hN hE
          go_simp
          refine (HEx.out _ hw).mono ?_
          rintro e w' ⟨rfl, hbb⟩
          exact hK _ () _ hbb (fun _ _ h => h) rfl
        · intro a γ wx hB hE hN hW K hK
          have hw := UE.start hE
          obtain ⟨⟨_, h25, rfl⟩, -⟩ := hW
          clear hB hN hE
          go_simp
          exact hK (.bool false) () _ (UE.refl _) (fun _ _ h => h) rfl
      intro a' γ wx hB hE hK
      obtain ⟨_, h17, rfl⟩ := hK 0 (of_decide_eq_true (by kernel_rfl))
      obtain ⟨_, h18, rfl⟩ := hK 1 (of_decide_eq_true (by kernel_rfl))
      obtain ⟨_, h19, rfl⟩ := hK 2 (of_decide_eq_true (by kernel_rfl))
      obtain ⟨_, h20, rfl⟩ := hK 3 (of_decide_eq_true (by kernel_rfl))
      obtain ⟨_, h21, rfl⟩ := hK 4 (of_decide_eq_true (by kernel_rfl))
      obtain ⟨_, h22, rfl⟩ := hK 5 (of_decide_eq_true (by kernel_rfl))
      obtain ⟨_, h23, rfl⟩ := hK 6 (of_decide_eq_true (by kernel_rfl))
      obtain ⟨_, h24, rfl⟩ := hK 7 (of_decide_eq_true (by kernel_rfl))
      obtain ⟨_, h25, rfl⟩ := hK 8 (of_decide_eq_true (by kernel_rfl))
      obtain ⟨_, h26, rfl⟩ := hK 9 (of_decide_eq_true (by kernel_rfl))
      have ha := hB.eq [(17, .slice (some ⟨p1, o1, none⟩) n c1), (18, .int .i64 j), (19, .pointer (some ⟨p1, o1 + j * 2, none⟩)), (20, .agg #[.slice A1 m e1, .int .i64 r]), (21, .slice (some ⟨p2, o2, none⟩) n c2), (22, .int .i64 j), (23, .pointer (some ⟨p2, o2 + j * 2, none⟩)), (24, .agg #[.slice A2 m e2, .int .i64 r]), (25, .bool true), (26, .bool false)] rfl (by kernel_rfl) ⟨h17, h18, h19, h20, h21, h22, h23, h24, h25, h26, trivial⟩
      subst ha
      have hw := UE.start hE
      clear hK hB hE h17 h18 h19 h20 h21 h22 h23 h24 h25 h26
      simp only [putAll, List.foldl_cons, List.foldl_nil, List.setIfInBounds_toArray, List.set_cons_succ, List.set_cons_zero]
      go_wp2_with fail
      go_roundw
      case measure => simp [intOf]; omega
      case rel => exact ⟨j + 1, by omega, by go_num, Lib.hid (HW.out.trans (hw.mono HW.out.size))⟩
    · go_wp2_with fail
      go_ret
      exact ⟨rfl, HW.out⟩
end Go.Proofs.YtclfpjfjebheoaaDoor
/- The contracts of law05's is (of the same trees). -/
namespace Go.Proofs.YtclfpjfjebheoaaDoor
set_option linter.unusedSimpArgs false
open Go.RowKit
open Classical

set_option maxRecDepth 20000 in
set_option maxHeartbeats 4000000 in
theorem is_g {x : Tr} {va vb : Value} {S S' : Nat → Prop} {w : World} (ha : Given x va S w) (hb : Given x vb S' w) : Calls Tryd.prog 21 #[va, .bool true, vb] w fun e w' => e = .returned (.bool true) ∧ Below w.heap.size w w' := by
  obtain ⟨nv, rfl, hns, hr1, hr2⟩ := ha.read
  obtain ⟨A, c, rfl, hc, hs, _⟩ := hns.at_
  obtain ⟨nv2, rfl, hns2, hr3, hr4⟩ := hb.read
  obtain ⟨A2, c2, rfl, hc2, hs2, _⟩ := hns2.at_
  obtain ⟨w2, hw2⟩ : ∃ w2, w2 = (w.alloc (.cells #[.slice A x.nodes.length c, .int .i64 x.root] 34)).alloc (.cells #[.slice A2 x.nodes.length c2, .int .i64 x.root] 34) := ⟨_, rfl⟩
  obtain ⟨w4, hw4⟩ : ∃ w4, w4 = (w2.alloc (.cells #[.slice A x.nodes.length c, .int .i64 x.root] 34)).alloc (.cells #[.slice A2 x.nodes.length c2, .int .i64 x.root] 34) := ⟨_, rfl⟩
  have hz2 : w2.heap.size = w.heap.size + 2 := by rw [hw2]; simp
  have hb2 : Below w.heap.size w w2 := by rw [hw2]; exact ((Below.refl _ _).alloc (Nat.le_refl _) _).alloc (by simp) _
  have hb4 : Below w2.heap.size w2 w4 := by rw [hw4]; exact ((Below.refl _ _).alloc (Nat.le_refl _) _).alloc (by simp) _
  have hz4 : w4.heap.size = w2.heap.size + 2 := by rw [hw4]; simp
  have h24 : Below w.heap.size w w4 := hb2.trans (hb4.mono hb2.size)
  have hBa : Blk w4 w2.heap.size 34 #[.slice A x.nodes.length c, .int .i64 x.root] := by rw [hw4]; exact (Blk.new w2 _ _).alloc _
  have hBb : Blk w4 (w2.heap.size + 1) 34 #[.slice A2 x.nodes.length c2, .int .i64 x.root] := by rw [hw4]; exact Blk.new1 _ _ _ _
  have hE := exactL_eq (ts := [x]) (S := fun b => b < w4.heap.size) (S' := fun b => b < w4.heap.size)
    (RTrees.one (ty := 34) (t := x) (nv := .slice A x.nodes.length c) hBa (by omega) ((ha.read.below h24 ha.old).more fun b hb => by have := ha.old b hb; have := h24.size; omega))
    (RTrees.one (ty := 34) (t := x) (nv := .slice A2 x.nodes.length c2) hBb (by omega) ((hb.read.below h24 hb.old).more fun b hb' => by have := hb.old b hb'; have := h24.size; omega))
    (fun b h => h) (fun b h => h) (fun t ht => by have := ha.small; simp at ht; subst ht; omega)
  rw [hz2, hw4, hw2] at hE
  have HE := Lib.hid hE
  rw [hw4, hw2] at h24
  have HW := Lib.hid h24
  clear hBa hBb hb2 hb4 hw4 hz4 hz2
  clear hw2
  clear ha hb hns hns2 hE h24
  go_enter Tryd.func21, Tryd.ntmps21
  go_wp2_with fail
  refine HE.out.mono ?_
  rintro e w5 ⟨rfl, hb5⟩
  have HW5 := Lib.hid (HW.out.trans (hb5.mono HW.out.size))
  clear hb5
  go_wp2_with fail
  go_ret
  exact ⟨rfl, HW5.out⟩
end Go.Proofs.YtclfpjfjebheoaaDoor
/- The contract of law05's of. -/
namespace Go.Proofs.YtclfpjfjebheoaaDoor
set_option linter.unusedSimpArgs false
open Go.RowKit
open Classical

def kindD (k : Int) : Dt := ⟨k, 0, 0, 0, 0, [], 0, 0⟩
set_option maxRecDepth 20000 in
set_option maxHeartbeats 4000000 in
theorem lof_g {k : Int} {ts : List Tr} {v : Value} {S : Nat → Prop} {w : World} (hk : 0 ≤ k ∧ k ≤ 255) (h : GivenL ts v S w) (hsum : (ts.map (·.nodes.length)).sum ≤ 500000) :
    Calls Tryd.prog 55 #[.int .u8 k, v] w fun e w' => ∃ u, e = .returned u ∧ XTree w' (fun b => w.heap.size ≤ b) u (ofT (kindD k) ts) ∧ Below w.heap.size w w' := by
  obtain ⟨Av, cv, rfl, -⟩ := h.read.at_
  obtain ⟨ws, hws⟩ : ∃ ws, ws = w.alloc (.cells #[.slice none 0 0, .int .i64 0] 34) := ⟨_, rfl⟩
  have hbs : Below w.heap.size w ws := by rw [hws]; exact (Below.refl _ _).alloc (Nat.le_refl _) _
  have hsz : ws.heap.size = w.heap.size + 1 := by rw [hws]; simp
  have hB : Blk ws w.heap.size 34 #[.slice none 0 0, .int .i64 0] := by rw [hws]; exact Blk.new w _ _
  have hO : Calls Tryd.prog 78 #[.agg #[.int .u8 k, .int .u64 0, .int .u64 0, .int .u64 0, .int .u64 0, .string ⟨#[]⟩, .int .i64 0, .int .i64 0, .slice none 0 0], .slice Av ts.length cv] ws fun e w' => (∃ u is, e = .returned (.tuple #[u, .bool is]) ∧ XTree w' (fun b => w.heap.size + 1 ≤ b) u (ofT (kindD k) ts)) ∧ Below ws.heap.size ws w' := by
    refine (of_g (N := ⟨kindD k, []⟩) (kv0 := .slice none 0 0) ⟨hk, by simp [kindD], by simp [kindD], by simp [kindD], by simp [kindD]⟩ (h.below hbs) hsum).mono ?_
    rintro e w' ⟨u, x, is, rfl, hu, hi, hb⟩
    have hr := hi.root_ok h hsum
    rw [← hi.eq.2]
    exact ⟨⟨u, is, rfl, (XTree.of_own hu hr.1 hr.2).weaken fun b hb _ => by omega⟩, hb⟩
  have HO := Lib.hid hO
  have HB := Lib.hid hB
  have HBS := Lib.hid hbs
  have HSZ := Lib.hid hsz
  clear h hO hB hbs hsz
  go_enter Tryd.func55, Tryd.ntmps55
  go_wp2_with fail
  rw [← hws]
  clear hws
  refine HO.out.mono ?_
  rintro e w2 ⟨⟨u, is, rfl, hu⟩, hb2⟩
  obtain ⟨x0, hx0⟩ : ∃ x0, x0 = ofT (kindD k) ts := ⟨_, rfl⟩
  rw [← hx0] at hu
  have HX := Lib.hid hx0
  obtain ⟨A, c, rfl⟩ := hu.agg
  have hB2 := (HB.out.below hb2 HB.out.lt).alloc (.cells #[.slice A x0.nodes.length c, .int .i64 x0.root] 34)
  have hn := Blk.new w2 34 #[.slice A x0.nodes.length c, .int .i64 x0.root]
  have hb3 : Below w2.heap.size w2 (w2.alloc (.cells #[.slice A x0.nodes.length c, .int .i64 x0.root] 34)) := (Below.refl _ _).alloc (Nat.le_refl _) _
  have hw2 := HBS.out.trans (hb2.mono HBS.out.size)
  have n0 : (w2.alloc (.cells #[.slice A x0.nodes.length c, .int .i64 x0.root] 34)).cell? ⟨w2.heap.size, 0, none⟩ = some (.slice A x0.nodes.length c) := hn.cell 0
  have n1 : (w2.alloc (.cells #[.slice A x0.nodes.length c, .int .i64 x0.root] 34)).cell? ⟨w2.heap.size, 1, none⟩ = some (.int .i64 x0.root) := hn.cell 1
  have c0 : (w2.alloc (.cells #[.slice A x0.nodes.length c, .int .i64 x0.root] 34)).cell? ⟨w.heap.size, 0, none⟩ = some (.slice none 0 0) := hB2.cell 0
  have c1 : (w2.alloc (.cells #[.slice A x0.nodes.length c, .int .i64 x0.root] 34)).cell? ⟨w.heap.size, 1, none⟩ = some (.int .i64 0) := hB2.cell 1
  have f0 : (w2.alloc (.cells #[.slice A x0.nodes.length c, .int .i64 x0.root] 34)).frozen? ⟨w.heap.size, 0, none⟩ = false := hB2.frozen 0
  have f1 : (w2.alloc (.cells #[.slice A x0.nodes.length c, .int .i64 x0.root] 34)).frozen? ⟨w.heap.size, 1, none⟩ = false := hB2.frozen 1
  have HBZ := Lib.hid (hB2.set2 (.slice A x0.nodes.length c) (.int .i64 x0.root))
  have HE := Lib.hid (end_tree (g := w.heap.size) (hw2.trans (hb3.mono hw2.size)) (hu.below hb3) (Nat.le_refl _) (by omega))
  clear hB2 hn hb3 hw2 hu hb2 hx0
  go_wp2_with fail
  refine bodyPost_ret (results_cell1 rfl _ _ w.heap.size _ _ _ rfl HBZ.out Tryd.underlying34 rfl tree_size) rfl ?_
  exact ⟨.agg #[.slice A x0.nodes.length c, .int .i64 x0.root], rfl, by rw [← HX.out]; exact HE.out.1, HE.out.2⟩

set_option maxHeartbeats 4000000 in
theorem ltext_g (s : List UInt8) (hs : s.length ≤ maxLen) (w : World) :
    Calls Tryd.prog 56 #[.string ⟨s.toArray⟩] w fun e w' => ∃ u, e = .returned u ∧ XTree w' (fun b => w.heap.size ≤ b) u ⟨[⟨textD s, []⟩], 0⟩ ∧ Below w.heap.size w w' := by
  have HT := Lib.hid (Text_g s hs (w.alloc (.cells #[.slice none 0 0, .int .i64 0] 34)))
  go_enter Tryd.func56, Tryd.ntmps56
  go_wp2_with fail
  refine HT.out.mono ?_
  rintro e w2 ⟨u, rfl, hu0, hb2⟩
  have hu : XTree w2 (fun b => w.heap.size + 1 ≤ b) u ⟨[⟨textD s, []⟩], 0⟩ := (XTree.of_own hu0 (by simp) (by simp)).weaken fun b hb _ => by simpa using hb
  obtain ⟨A, c, rfl⟩ := hu.agg
  have hB2 : Blk w2 w.heap.size 34 #[.slice none 0 0, .int .i64 0] := (Blk.new w _ _).below hb2 (by simp)
  have hW2 : Below w.heap.size w w2 := ((Below.refl _ _).alloc (Nat.le_refl _) _).trans (hb2.mono (by simp))
  have c0 : w2.cell? ⟨w.heap.size, 0, none⟩ = some (.slice none 0 0) := hB2.cell 0
  have c1 : w2.cell? ⟨w.heap.size, 1, none⟩ = some (.int .i64 0) := hB2.cell 1
  have f0 : w2.frozen? ⟨w.heap.size, 0, none⟩ = false := hB2.frozen 0
  have f1 : w2.frozen? ⟨w.heap.size, 1, none⟩ = false := hB2.frozen 1
  have HBZ := Lib.hid (hB2.set2 (.slice A 1 c) (.int .i64 0))
  have HE := Lib.hid (end_tree (x := ⟨[⟨textD s, []⟩], 0⟩) (g := w.heap.size) hW2 hu (Nat.le_refl _) (by omega))
  clear hB2 hW2 hu hu0 hb2
  go_wp2_with fail
  refine bodyPost_ret (results_cell1 rfl _ _ w.heap.size _ _ _ rfl HBZ.out Tryd.underlying34 rfl tree_size) rfl ?_
  exact ⟨.agg #[.slice A 1 c, .int .i64 0], rfl, HE.out.1, HE.out.2⟩
end Go.Proofs.YtclfpjfjebheoaaDoor
/- The contract of the guard 'long': whatever trees; where it answers false, they are few and small. -/
namespace Go.Proofs.YtclfpjfjebheoaaDoor
open Go.RowKit

/-- What is known where the guard answers false. -/
structure Short5 (ts : List Tr) : Prop where
  few : ts.length ≤ 400
  sum : nodesSum ts ≤ 400
  kids : ∀ t ∈ ts, ∀ n ∈ t.nodes, n.kids.length ≤ 400
structure LargeRel (ts : List Tr) (i : Nat) (n : Nat) : Prop where
  le : n ≤ 1300
  cnt : n < 400 → i + nodesSum (ts.take i) ≤ n
  kids : n < 400 → ∀ t ∈ ts.take i, ∀ x ∈ t.nodes, x.kids.length ≤ 400
structure LargeIn (ts : List Tr) (t : Tr) (i k : Nat) (n : Nat) : Prop where
  le : n ≤ 1300
  cnt : n < 400 → i + 1 + nodesSum (ts.take i) + t.nodes.length ≤ n
  kids : n < 400 → ∀ t ∈ ts.take i, ∀ x ∈ t.nodes, x.kids.length ≤ 400
  now : n < 400 → ∀ x ∈ t.nodes.take k, x.kids.length ≤ 400

def LargeSaid (ts : List Tr) (w : World) (e : Ending) (w' : World) : Prop := ∃ r : Bool, e = .returned (.bool r) ∧ (r = false → Short5 ts) ∧ Below w.heap.size w w'
set_option maxHeartbeats 2000000 in
theorem large_g {ts : List Tr} {v : Value} {S : Nat → Prop} {w : World} (h : RTrees w S v ts) (hS : ∀ b, S b → b < w.heap.size) :
    Calls Tryd.prog 18 #[v] w (LargeSaid ts w) := by
  obtain ⟨A, c, rfl, _, hs, hr⟩ := h.at_
  have HG := Lib.hid h
  unfold maxLen at hs
  clear h hr
  go_enter Tryd.func18, Tryd.ntmps18
  go_wp2
  go_loopw [3, 4] (fun nv i wr => ∃ j n : Nat, j ≤ ts.length ∧ i = .int .i64 j ∧ nv = .int .i64 n ∧ n ≤ 1300 ∧ Hid (LargeRel ts j n) ∧ Hid (Below w.heap.size w wr)) (fun _ i _ => ts.length - (intOf i).toNat)
  case atStart => exact ⟨0, 0, Nat.zero_le _, rfl, rfl, by omega, Lib.hid ⟨by omega, fun _ => by simp [nodesSum], fun _ => by simp⟩, Lib.hid (Below.refl _ _)⟩
  case round =>
    obtain ⟨wo, rfl⟩ : ∃ wo, wo = wr := ⟨_, rfl⟩
    obtain ⟨j, n, hj, rfl, rfl, hnl, HR, HW⟩ := hrel
    by_cases hlt : j < ts.length
    · by_cases hn4 : n < 400
      · obtain ⟨t, ht⟩ : ∃ t, ts[j]? = some t := ⟨_, List.getElem?_eq_getElem hlt⟩
        have hat := (HG.out.below HW.out hS).at_
        obtain ⟨A2, c2, hv2, _, _, hr2⟩ := hat
        injection hv2 with g1 g2 g3
        subst g1
        subst g3
        clear g2
        obtain ⟨b, off, rfl, hbS, hc⟩ := hr2 (by omega)
        obtain ⟨nv, hnn, _, d0, d1⟩ := hc j t ht
        obtain ⟨An, cn, rfl, _, hns, _⟩ := hnn.at_
        unfold maxLen at hns
        have HT := Lib.hid ht
        have hn4' : (n : Int) < 400 := by omega
        have hnn2 := RNodes.keep hnn (fun p hp => HW.out.cell (hS _ hp) |>.symm)
        have HNN := Lib.hid hnn2
        have hdw : w.cell? ⟨b, off + j * 2, none⟩ = some (.slice An t.nodes.length cn) := (HW.out.cell (p := ⟨b, off + j * 2, none⟩) (hS b hbS)).symm.trans d0
        have HDW := Lib.hid hdw
        clear hc hr2 ht hnn hnn2 d1 hdw
        go_wp2
        go_loopw [3, 5] (fun nv i wr => ∃ k m : Nat, k ≤ t.nodes.length ∧ i = .int .i64 k ∧ nv = .int .i64 m ∧ m ≤ 1300 ∧ Hid (LargeIn ts t j k m) ∧ Hid (Below w.heap.size w wr)) (fun _ i _ => t.nodes.length - (intOf i).toNat)
        case atStart => exact ⟨0, n + 1 + min 400 t.nodes.length, Nat.zero_le _, rfl, by go_num, by omega, Lib.hid ⟨by omega, fun h => by have := HR.out.cnt (by omega); omega, fun h => HR.out.kids (by omega), by simp⟩, HW⟩
        case round =>
          obtain ⟨k, m, hk, rfl, rfl, hml, HI, HW2⟩ := hrel
          have d2 : wr.cell? ⟨b, off + j * 2, none⟩ = some (.slice An t.nodes.length cn) := (HW2.out.cell (p := ⟨b, off + j * 2, none⟩) (hS b hbS)).trans HDW.out
          by_cases hkl : k < t.nodes.length
          · by_cases hm4 : m < 400
            · obtain ⟨x, hx⟩ : ∃ x, t.nodes[k]? = some x := ⟨_, List.getElem?_eq_getElem hkl⟩
              obtain ⟨bn, on, Ak, ck, rfl, hbnS, hki, hdo, _, _, _, _, _, c5, _, _, c8⟩ := (HNN.out.below HW2.out hS).get k x hx
              have hkil : x.kids.length ≤ maxLen := hki.small
              have htx := hdo.text
              unfold maxLen at hkil htx
              have hts : (⟨x.d.text.toArray⟩ : ByteArray).size = x.d.text.length := size_mk _
              have HX := Lib.hid hx
              clear hx hki hdo
              obtain ⟨kl, hkl2⟩ : ∃ kl, kl = x.kids.length := ⟨_, rfl⟩
              obtain ⟨tx, htx2⟩ : ∃ tx : ByteArray, tx = ⟨x.d.text.toArray⟩ := ⟨_, rfl⟩
              rw [← hkl2] at c8 hkil
              rw [← htx2] at c5 hts
              have htz : tx.size ≤ 9223372036854775807 := by omega
              have hj0 : (0 : Int) ≤ (j : Int) := by omega
              have hj1 : (j : Int) < (ts.length : Int) := by omega
              have hk0 : (0 : Int) ≤ (k : Int) := by omega
              have hk1 : (k : Int) < (t.nodes.length : Int) := by omega
              have hm4' : (m : Int) < 400 := by omega
              have HKL := Lib.hid hkl2
              clear hkl2 htx2 htx hts
              go_wp2
              go_region
              go_wp2
              go_roundw
              case rel => exact ⟨k + 1, m + (min 400 kl + min 400 (tx.size / 20)), by omega, by go_num, by go_num, by omega, Lib.hid ⟨by omega, fun h => by have := HI.out.cnt (by omega); omega, fun h => HI.out.kids (by omega), fun h y hy => by
                rw [List.take_add_one, HX.out] at hy
                rcases List.mem_append.1 hy with hy | hy
                · exact HI.out.now (by omega) y hy
                · simp at hy; subst hy; have := HKL.out; omega⟩, Lib.hid (below_drewN HW2.out 1)⟩
              case measure => simp [intOf]; omega
            · have hm4' : ¬ (m : Int) < 400 := by omega
              go_wp2
              go_roundw
              case rel => exact ⟨j + 1, m, by omega, by go_num, rfl, hml, Lib.hid ⟨hml, fun h => by omega, fun h => by omega⟩, HW2⟩
              case measure => simp [intOf]; omega
          · go_wp2
            go_roundw
            case rel =>
              have hkl' : k = t.nodes.length := by omega
              subst hkl'
              exact ⟨j + 1, m, by omega, by go_num, rfl, hml, Lib.hid ⟨hml, fun h => by
                have := HI.out.cnt h
                rw [nodesSum_snoc ts j t HT.out]; omega, fun h y hy x hx => by
                rw [List.take_add_one, HT.out] at hy
                rcases List.mem_append.1 hy with hy | hy
                · exact HI.out.kids h y hy x hx
                · simp at hy; subst hy
                  exact HI.out.now h x (by simpa using hx)⟩, HW2⟩
            case measure => simp [intOf]; omega
      · have hn4' : ¬ (n : Int) < 400 := by omega
        go_wp2
        go_ret
        exact (show LargeSaid ts w (.returned (.bool true)) wo from ⟨_, rfl, fun h => by simp at h, HW.out⟩)
    · have hje : j = ts.length := by omega
      subst hje
      go_wp2
      go_ret
      refine (show LargeSaid ts w (.returned (.bool (decide (400 ≤ (n : Int))))) wo from ⟨_, rfl, fun h => ?_, HW.out⟩)
      have hn : n < 400 := by simp at h; omega
      have h1 := HR.out.cnt hn
      have h2 := HR.out.kids hn
      rw [List.take_length] at h1 h2
      exact ⟨by omega, by omega, fun t ht n hn => h2 t ht n hn⟩
end Go.Proofs.YtclfpjfjebheoaaDoor
/- Boxes of trees in a law: what lies where; the calls that laws make, by what they take out of boxes. -/
namespace Go.Proofs.YtclfpjfjebheoaaDoor
set_option linter.unusedSimpArgs false
open Go.RowKit
open Classical

/-- The world of a law under way: what was there at the start stands. -/
structure Ev (w0 w : World) : Prop where
  bel : Below w0.heap.size w0 w
  kt : KTab w0
  tt : TogTab w0
theorem Ev.ktab {w0 w : World} (h : Ev w0 w) : KTab w := h.kt.below h.bel
theorem Ev.tog {w0 w : World} (h : Ev w0 w) : TogTab w := h.tt.below h.bel
theorem Ev.below {w0 w w' : World} (h : Ev w0 w) (hb : Below w.heap.size w w') : Ev w0 w' := ⟨h.bel.trans (hb.mono h.bel.size), h.kt, h.tt⟩
theorem Ev.alloc {w0 w : World} (h : Ev w0 w) (o : Obj) : Ev w0 (w.alloc o) := h.below ((Below.refl _ _).alloc (Nat.le_refl _) _)
theorem Ev.set2 {w0 w : World} (h : Ev w0 w) {g : Nat} (hg : w0.heap.size ≤ g) (u v : Value) : Ev w0 ((w.setCell ⟨g, 0, none⟩ u).setCell ⟨g, 1, none⟩ v) :=
  ⟨(h.bel.setCell (by exact hg) _).setCell (by exact hg) _, h.kt, h.tt⟩
/-- The blocks of boxes are there. -/
def BL (w : World) (bs : List Nat) : Prop := ∀ b ∈ bs, b < w.heap.size
theorem BL.below {B : Nat} {w w' : World} {bs : List Nat} (h : BL w bs) (hb : Below B w w') : BL w' bs := fun b hm => Nat.lt_of_lt_of_le (h b hm) hb.size
theorem BL.box {w : World} {bs : List Nat} (h : BL w bs) (o : Obj) : BL (w.alloc o) (w.heap.size :: bs) := fun b hm => by
  rcases List.mem_cons.1 hm with rfl | hm
  · simp
  · have := h b hm; simp; omega
theorem BL.nil (w : World) : BL w [] := fun b hm => by cases hm
theorem BL.set2 {w : World} {bs : List Nat} (h : BL w bs) (g : Nat) (u v : Value) : BL ((w.setCell ⟨g, 0, none⟩ u).setCell ⟨g, 1, none⟩ v) bs := fun b hm => by simpa [World.setCell] using h b hm
/-- A tree that lies in no box. -/
def RT (w : World) (bs : List Nat) (A : Option Addr) (c : Nat) (x : Tr) : Prop := RTree w (fun b => b < w.heap.size ∧ b ∉ bs) (.agg #[.slice A x.nodes.length c, .int .i64 x.root]) x
section
variable {w0 w w' : World} {bs : List Nat} {A A2 A3 : Option Addr} {c c2 c3 : Nat} {x y z : Tr} {g g' : Nat}
theorem RT.below (h : RT w bs A c x) (hb : Below w.heap.size w w') : RT w' bs A c x := (RTree.below h hb fun _ h => h.1).more fun b h => ⟨Nat.lt_of_lt_of_le h.1 hb.size, h.2⟩
theorem RT.cons (h : RT w bs A c x) (hg : w.heap.size ≤ g) : RT w (g :: bs) A c x := RTree.more h fun b h => ⟨h.1, fun hm => by
  rcases List.mem_cons.1 hm with rfl | hm
  · have := h.1; omega
  · exact h.2 hm⟩
theorem RT.alloc (h : RT w bs A c x) (o : Obj) : RT (w.alloc o) bs A c x := h.below ((Below.refl _ _).alloc (Nat.le_refl _) _)
theorem RT.box (h : RT w bs A c x) (o : Obj) : RT (w.alloc o) (w.heap.size :: bs) A c x := (h.cons (Nat.le_refl _)).alloc o
theorem RT.far (h : RT w bs A c x) (hg : g ∈ bs) (u v : Value) : RT ((w.setCell ⟨g, 0, none⟩ u).setCell ⟨g, 1, none⟩ v) bs A c x := by
  have hgr := grown_set2 w g 0 1 u v
  exact (RTree.keep h fun p hp => World.cell?_of_block (hgr.block p.block hp.1 (fun e => hp.2 (by injection e with e; exact e ▸ hg)))).more fun b hb => ⟨Nat.lt_of_lt_of_le hb.1 hgr.size, hb.2⟩
theorem RT.of_x {lo : Nat} {u : Value} (h : XTree w (fun b => lo ≤ b) u x) (hl : ∀ b ∈ bs, b < lo) : RTree w (fun b => b < w.heap.size ∧ b ∉ bs) u x := RTree.more h fun b hb => ⟨hb.2.1, fun hm => by have := hl b hm; have := hb.1; omega⟩
theorem RT.old (h : HasT w (.agg #[.slice A x.nodes.length c, .int .i64 x.root]) x) : RT w [] A c x := RTree.more h fun b hb => ⟨hb, fun h => by cases h⟩
theorem RT.given (h : RT w bs A c x) (hE : Ev w0 w) (hs : x.nodes.length ≤ 500000) : Given x (.agg #[.slice A x.nodes.length c, .int .i64 x.root]) (fun b => b < w.heap.size ∧ b ∉ bs) w := ⟨h, fun _ h => h.1, hE.ktab, hs⟩
theorem RT.givenE (h : RT w bs A c x) (hE : Ev w0 w) (hs : x.nodes.length ≤ 100000) : GivenE x (.agg #[.slice A x.nodes.length c, .int .i64 x.root]) (fun b => b < w.heap.size ∧ b ∉ bs) w := ⟨h.given hE (by omega), hE.tog, hs⟩
/-- A box that holds a tree. -/
structure TB (w : World) (bs : List Nat) (g : Nat) (A : Option Addr) (c : Nat) (x : Tr) : Prop where
  blk : Blk w g 34 #[.slice A x.nodes.length c, .int .i64 x.root]
  tree : RT w bs A c x
theorem TB.below (h : TB w bs g A c x) (hb : Below w.heap.size w w') : TB w' bs g A c x := ⟨h.blk.below hb h.blk.lt, h.tree.below hb⟩
theorem TB.alloc (h : TB w bs g A c x) (o : Obj) : TB (w.alloc o) bs g A c x := h.below ((Below.refl _ _).alloc (Nat.le_refl _) _)
theorem TB.box (h : TB w bs g A c x) (o : Obj) : TB (w.alloc o) (w.heap.size :: bs) g A c x := ⟨h.blk.alloc _, h.tree.box _⟩
theorem TB.new (h : RT w bs A c x) : TB (w.alloc (.cells #[.slice A x.nodes.length c, .int .i64 x.root] 34)) (w.heap.size :: bs) w.heap.size A c x := ⟨Blk.new _ _ _, h.box _⟩
theorem TB.newN (h : RT w bs A c x) (hg : w.heap.size = g) : TB (w.alloc (.cells #[.slice A x.nodes.length c, .int .i64 x.root] 34)) (g :: bs) g A c x := hg ▸ TB.new h
theorem TB.set2 (h : TB w bs g A c x) (hg : g ∈ bs) (k : RT w bs A2 c2 y) : TB ((w.setCell ⟨g, 0, none⟩ (.slice A2 y.nodes.length c2)).setCell ⟨g, 1, none⟩ (.int .i64 y.root)) bs g A2 c2 y := ⟨h.blk.set2 _ _, k.far hg _ _⟩
theorem TB.far (h : TB w bs g A c x) (hg : g' ∈ bs) (hne : g ≠ g') (u v : Value) : TB ((w.setCell ⟨g', 0, none⟩ u).setCell ⟨g', 1, none⟩ v) bs g A c x := ⟨(h.blk.far hne _).far hne _, h.tree.far hg _ _⟩
theorem TB.frozen (h : TB w bs g A c x) (i : Nat) : w.frozen? ⟨g, i, none⟩ = false := h.blk.frozen i

theorem row1 (h1 : RT w bs A c x) : RTrees (w.alloc (.cells #[.slice A x.nodes.length c, .int .i64 x.root] 34)) (fun b => b < w.heap.size + 1) (.slice (some ⟨w.heap.size, 0, none⟩) 1 1) [x] :=
  RTrees.one (ty := 34) (Blk.new w _ _) (Nat.lt_succ_self _) (RTree.more (h1.alloc _) fun b hb => by simpa using hb.1)
theorem row2 (h1 : RT w bs A c x) (h2 : RT w bs A2 c2 y) : RTrees (w.alloc (.cells #[.slice A x.nodes.length c, .int .i64 x.root, .slice A2 y.nodes.length c2, .int .i64 y.root] 34)) (fun b => b < w.heap.size + 1) (.slice (some ⟨w.heap.size, 0, none⟩) 2 2) [x, y] :=
  RTrees.two (ty := 34) (Blk.new w _ _) (Nat.lt_succ_self _) (RTree.more (h1.alloc _) fun b hb => by simpa using hb.1) (RTree.more (h2.alloc _) fun b hb => by simpa using hb.1)
theorem row3 (h1 : RT w bs A c x) (h2 : RT w bs A2 c2 y) (h3 : RT w bs A3 c3 z) : RTrees (w.alloc (.cells #[.slice A x.nodes.length c, .int .i64 x.root, .slice A2 y.nodes.length c2, .int .i64 y.root, .slice A3 z.nodes.length c3, .int .i64 z.root] 34)) (fun b => b < w.heap.size + 1) (.slice (some ⟨w.heap.size, 0, none⟩) 3 3) [x, y, z] :=
  RTrees.three (ty := 34) (Blk.new w _ _) (Nat.lt_succ_self _) (RTree.more (h1.alloc _) fun b hb => by simpa using hb.1) (RTree.more (h2.alloc _) fun b hb => by simpa using hb.1) (RTree.more (h3.alloc _) fun b hb => by simpa using hb.1)
theorem RTrees.givenEL {ts : List Tr} {o : Obj} {v : Value} (h : RTrees (w.alloc o) (fun b => b < w.heap.size + 1) v ts) (hE : Ev w0 w) (hs : (ts.map (·.nodes.length)).sum ≤ 100000) (hf : ts.length ≤ 100000) : GivenEL ts v (fun b => b < w.heap.size + 1) (w.alloc o) :=
  ⟨h, fun b hb => by simpa using hb, (hE.alloc o).ktab, (hE.alloc o).tog, hs, hf⟩
theorem RTrees.givenL {ts : List Tr} {o : Obj} {v : Value} (h : RTrees (w.alloc o) (fun b => b < w.heap.size + 1) v ts) (hE : Ev w0 w) (hs : (ts.map (·.nodes.length)).sum ≤ 500000) (hf : ts.length ≤ 500000) : GivenL ts v (fun b => b < w.heap.size + 1) (w.alloc o) :=
  ⟨h, fun b hb => by simpa using hb, (hE.alloc o).ktab, fun t ht => Nat.le_trans (sum_mem ht) hs, hf⟩
end
/-- What a call that puts trees together leaves. -/
def TPost (d : Dt) (ts : List Tr) (bs : List Nat) (w : World) (e : Ending) (w' : World) : Prop :=
  ∃ A c x, e = .returned (.tuple #[.agg #[.slice A x.nodes.length c, .int .i64 x.root], .bool (ofEB d ts)]) ∧ Hid (x = ofET d ts) ∧ Hid (RT w' bs A c x) ∧ Hid (Below w.heap.size w w')
theorem tpost {w w1 : World} {bs : List Nat} {d : Dt} {ts : List Tr} (hw : Below w.heap.size w w1) (hl : BL w bs) {e : Ending} {w' : World} (h : OfPost d ts w1 e w') : TPost d ts bs w e w' := by
  obtain ⟨u, rfl, hu, hb⟩ := h
  obtain ⟨A, c, rfl⟩ := hu.agg
  exact ⟨A, c, _, rfl, Lib.hid rfl, Lib.hid (RT.of_x hu fun b hm => Nat.lt_of_lt_of_le (hl b hm) hw.size), Lib.hid (hw.trans (hb.mono hw.size))⟩
/-- What a call that makes a tree leaves. -/
def UPost (x0 : Tr) (bs : List Nat) (w : World) (e : Ending) (w' : World) : Prop :=
  ∃ A c x, e = .returned (.agg #[.slice A x.nodes.length c, .int .i64 x.root]) ∧ Hid (x = x0) ∧ Hid (RT w' bs A c x) ∧ Hid (Below w.heap.size w w')
theorem upost {w w1 : World} {bs : List Nat} {x0 : Tr} (hw : Below w.heap.size w w1) (hl : BL w bs) {e : Ending} {w' : World} (h : ∃ u, e = .returned u ∧ XTree w' (fun b => w1.heap.size ≤ b) u x0 ∧ Below w1.heap.size w1 w') : UPost x0 bs w e w' := by
  obtain ⟨u, rfl, hu, hb⟩ := h
  obtain ⟨A, c, rfl⟩ := hu.agg
  exact ⟨A, c, _, rfl, Lib.hid rfl, Lib.hid (RT.of_x hu fun b hm => Nat.lt_of_lt_of_le (hl b hm) hw.size), Lib.hid (hw.trans (hb.mono hw.size))⟩
theorem below_row (w : World) (o : Obj) : Below w.heap.size w (w.alloc o) := (Below.refl _ _).alloc (Nat.le_refl _) _
section
variable {w0 w : World} {bs : List Nat} {A A2 A3 : Option Addr} {c c2 c3 g : Nat} {x y z : Tr}
theorem seq1_c (hE : Ev w0 w) (hl : BL w bs) (h1 : RT w bs A c x) (hs : x.nodes.length ≤ 100000) (hg : w.heap.size = g) :
    Calls Tryd.prog 20 #[.slice (some ⟨g, 0, none⟩) 1 1] (w.alloc (.cells #[.slice A x.nodes.length c, .int .i64 x.root] 34)) (TPost seqD [x] bs w) := by
  subst hg
  exact (Seq_g ((row1 h1).givenEL hE (by simpa using hs) (by simp))).mono fun e w' h => tpost (below_row _ _) hl h
theorem seq2_c (hE : Ev w0 w) (hl : BL w bs) (h1 : RT w bs A c x) (h2 : RT w bs A2 c2 y) (hs : x.nodes.length + y.nodes.length ≤ 100000) (hg : w.heap.size = g) :
    Calls Tryd.prog 20 #[.slice (some ⟨g, 0, none⟩) 2 2] (w.alloc (.cells #[.slice A x.nodes.length c, .int .i64 x.root, .slice A2 y.nodes.length c2, .int .i64 y.root] 34)) (TPost seqD [x, y] bs w) := by
  subst hg
  exact (Seq_g ((row2 h1 h2).givenEL hE (by simpa using hs) (by simp))).mono fun e w' h => tpost (below_row _ _) hl h
theorem seq3_c (hE : Ev w0 w) (hl : BL w bs) (h1 : RT w bs A c x) (h2 : RT w bs A2 c2 y) (h3 : RT w bs A3 c3 z) (hs : x.nodes.length + (y.nodes.length + z.nodes.length) ≤ 100000) (hg : w.heap.size = g) :
    Calls Tryd.prog 20 #[.slice (some ⟨g, 0, none⟩) 3 3] (w.alloc (.cells #[.slice A x.nodes.length c, .int .i64 x.root, .slice A2 y.nodes.length c2, .int .i64 y.root, .slice A3 z.nodes.length c3, .int .i64 z.root] 34)) (TPost seqD [x, y, z] bs w) := by
  subst hg
  exact (Seq_g ((row3 h1 h2 h3).givenEL hE (by simpa using hs) (by simp))).mono fun e w' h => tpost (below_row _ _) hl h
theorem choice2_c (hE : Ev w0 w) (hl : BL w bs) (h1 : RT w bs A c x) (h2 : RT w bs A2 c2 y) (hs : x.nodes.length + y.nodes.length ≤ 100000) (hg : w.heap.size = g) :
    Calls Tryd.prog 22 #[.slice (some ⟨g, 0, none⟩) 2 2] (w.alloc (.cells #[.slice A x.nodes.length c, .int .i64 x.root, .slice A2 y.nodes.length c2, .int .i64 y.root] 34)) (TPost choiceD [x, y] bs w) := by
  subst hg
  exact (Choice_g ((row2 h1 h2).givenEL hE (by simpa using hs) (by simp))).mono fun e w' h => tpost (below_row _ _) hl h
theorem choice3_c (hE : Ev w0 w) (hl : BL w bs) (h1 : RT w bs A c x) (h2 : RT w bs A2 c2 y) (h3 : RT w bs A3 c3 z) (hs : x.nodes.length + (y.nodes.length + z.nodes.length) ≤ 100000) (hg : w.heap.size = g) :
    Calls Tryd.prog 22 #[.slice (some ⟨g, 0, none⟩) 3 3] (w.alloc (.cells #[.slice A x.nodes.length c, .int .i64 x.root, .slice A2 y.nodes.length c2, .int .i64 y.root, .slice A3 z.nodes.length c3, .int .i64 z.root] 34)) (TPost choiceD [x, y, z] bs w) := by
  subst hg
  exact (Choice_g ((row3 h1 h2 h3).givenEL hE (by simpa using hs) (by simp))).mono fun e w' h => tpost (below_row _ _) hl h
theorem lof2_c {k : Int} (hk : 0 ≤ k ∧ k ≤ 255) (hE : Ev w0 w) (hl : BL w bs) (h1 : RT w bs A c x) (h2 : RT w bs A2 c2 y) (hs : x.nodes.length + y.nodes.length ≤ 100000) (hg : w.heap.size = g) :
    Calls Tryd.prog 55 #[.int .u8 k, .slice (some ⟨g, 0, none⟩) 2 2] (w.alloc (.cells #[.slice A x.nodes.length c, .int .i64 x.root, .slice A2 y.nodes.length c2, .int .i64 y.root] 34)) (UPost (ofT (kindD k) [x, y]) bs w) := by
  subst hg
  exact (lof_g hk ((row2 h1 h2).givenL hE (by simp; omega) (by simp)) (by simp; omega)).mono fun e w' h => upost (below_row _ _) hl h
theorem lof3_c {k : Int} (hk : 0 ≤ k ∧ k ≤ 255) (hE : Ev w0 w) (hl : BL w bs) (h1 : RT w bs A c x) (h2 : RT w bs A2 c2 y) (h3 : RT w bs A3 c3 z) (hs : x.nodes.length + (y.nodes.length + z.nodes.length) ≤ 100000) (hg : w.heap.size = g) :
    Calls Tryd.prog 55 #[.int .u8 k, .slice (some ⟨g, 0, none⟩) 3 3] (w.alloc (.cells #[.slice A x.nodes.length c, .int .i64 x.root, .slice A2 y.nodes.length c2, .int .i64 y.root, .slice A3 z.nodes.length c3, .int .i64 z.root] 34)) (UPost (ofT (kindD k) [x, y, z]) bs w) := by
  subst hg
  exact (lof_g hk ((row3 h1 h2 h3).givenL hE (by simp; omega) (by simp)) (by simp; omega)).mono fun e w' h => upost (below_row _ _) hl h
theorem is_c {b : Bool} (hE : Ev w0 w) (h1 : RT w bs A c x) (h2 : RT w bs A2 c2 y) (hxy : x = y) (hs : x.nodes.length ≤ 500000) (hb : b = true) :
    Calls Tryd.prog 21 #[.agg #[.slice A x.nodes.length c, .int .i64 x.root], .bool b, .agg #[.slice A2 y.nodes.length c2, .int .i64 y.root]] w fun e w' => e = .returned (.bool true) ∧ Below w.heap.size w w' := by
  subst hxy; subst hb
  exact is_g (h1.given hE hs) (h2.given hE hs)
end
end Go.Proofs.YtclfpjfjebheoaaDoor
/- What Seq and Choice put together, in plain Lean: brackets, sizes. -/
namespace Go.Proofs.YtclfpjfjebheoaaDoor
set_option linter.unusedSimpArgs false
open Classical

theorem ofEB_seq (ts : List Tr) : ofEB seqD ts = decide (∀ t ∈ ts, RightT t) := by
  unfold ofEB
  simp [seqD]
theorem ofEB_choice (ts : List Tr) : ofEB choiceD ts = decide (∀ t ∈ ts, RightT t) := by
  unfold ofEB
  simp [choiceD]
theorem rights_treeOf {ts : List Tr} (h : ∀ t ∈ ts, RightT t) : ∀ x ∈ ts.map treeOf, FitT x := fun x hx => by
  obtain ⟨t, ht, rfl⟩ := List.mem_map.1 hx
  exact (h t ht).fitT
theorem ofET_seq {ts : List Tr} (h : ∀ t ∈ ts, RightT t) : ofET seqD ts = flatT (S (ts.map treeOf)) := by
  unfold ofET
  rw [if_pos ⟨h, .inl rfl⟩]
  unfold S tog
  rw [if_pos (show seqD.kind = 4 from rfl), List.map_map]
  rfl
theorem ofET_choice {ts : List Tr} (h : ∀ t ∈ ts, RightT t) : ofET choiceD ts = flatT (C (ts.map treeOf)) := by
  unfold ofET
  rw [if_pos ⟨h, .inr (.inl rfl)⟩]
  unfold C tog
  rw [if_neg (by simp [choiceD]), if_pos (show choiceD.kind = 5 from rfl), List.map_map]
  rfl
theorem seq_right {ts : List Tr} (h : ∀ t ∈ ts, RightT t) : RightT (ofET seqD ts) := by
  rw [ofET_seq h]; exact right_flat (S_fit (rights_treeOf h))
theorem choice_right {ts : List Tr} (h : ∀ t ∈ ts, RightT t) : RightT (ofET choiceD ts) := by
  rw [ofET_choice h]; exact right_flat (C_fit (rights_treeOf h))
theorem seq_treeOf {ts : List Tr} (h : ∀ t ∈ ts, RightT t) : treeOf (ofET seqD ts) = S (ts.map treeOf) := by rw [ofET_seq h, treeOf_flat]
theorem choice_treeOf {ts : List Tr} (h : ∀ t ∈ ts, RightT t) : treeOf (ofET choiceD ts) = C (ts.map treeOf) := by rw [ofET_choice h, treeOf_flat]
theorem sizes_nf (L : List T) : sizes (L.map nf) ≤ sizes L := by
  induction L with
  | nil => exact Nat.le_refl _
  | cons a L ih => simp only [List.map_cons, sizes]; have := nf_size a; omega
theorem coll_size (d e : Dt) (L : List T) : (coll d e L).size ≤ 1 + sizes L := by
  match L with
  | [] => simp [coll, T.size, sizes]
  | [x] => simp [coll, sizes]
  | a :: b :: L => simp [coll, T.size]
theorem S_size (L : List T) : (S L).size ≤ 1 + sizes L := by
  have := coll_size seqD default (openK 4 0 (L.map nf))
  have := sizes_open 4 0 (L.map nf)
  have := sizes_nf L
  show (coll seqD default (openK 4 0 (L.map nf))).size ≤ _
  omega
theorem C_size (L : List T) : (C L).size ≤ 1 + sizes L := by
  have := coll_size choiceD setD0 (openK 5 5 (L.map nf))
  have := sizes_open 5 5 (L.map nf)
  have := sizes_nf L
  show (coll choiceD setD0 (openK 5 5 (L.map nf))).size ≤ _
  omega
theorem sizes_treeOf {ts : List Tr} (h : ∀ t ∈ ts, RightT t) : sizes (ts.map treeOf) = (ts.map (·.nodes.length)).sum := by
  induction ts with
  | nil => rfl
  | cons t ts ih =>
    simp only [List.map_cons, sizes, List.sum_cons]
    rw [ih fun x hx => h x (by simp [hx]), (h t (by simp)).size]
theorem seq_len {ts : List Tr} (h : ∀ t ∈ ts, RightT t) : (ofET seqD ts).nodes.length ≤ 1 + (ts.map (·.nodes.length)).sum := by
  rw [ofET_seq h, flatT_len, ← sizes_treeOf h]; exact S_size _
theorem choice_len {ts : List Tr} (h : ∀ t ∈ ts, RightT t) : (ofET choiceD ts).nodes.length ≤ 1 + (ts.map (·.nodes.length)).sum := by
  rw [ofET_choice h, flatT_len, ← sizes_treeOf h]; exact C_size _
theorem seq_left {ts us : List Tr} (h : ∀ t ∈ ts, RightT t) (k : ∀ t ∈ us, RightT t) : ofET seqD (ofET seqD ts :: us) = ofET seqD (ts ++ us) := by
  rw [ofET_seq (ts := ofET seqD ts :: us) (fun t ht => by rcases List.mem_cons.1 ht with rfl | ht; exact seq_right h; exact k t ht),
    ofET_seq (ts := ts ++ us) (fun t ht => by rcases List.mem_append.1 ht with ht | ht; exact h t ht; exact k t ht), List.map_cons, seq_treeOf h, S_left (rights_treeOf h), List.map_append]
theorem seq_right_ {ts us : List Tr} (h : ∀ t ∈ ts, RightT t) (k : ∀ t ∈ us, RightT t) : ofET seqD (ts ++ [ofET seqD us]) = ofET seqD (ts ++ us) := by
  rw [ofET_seq (ts := ts ++ [ofET seqD us]) (fun t ht => by rcases List.mem_append.1 ht with ht | ht; exact h t ht; simp at ht; subst ht; exact seq_right k),
    ofET_seq (ts := ts ++ us) (fun t ht => by rcases List.mem_append.1 ht with ht | ht; exact h t ht; exact k t ht), List.map_append, List.map_cons, List.map_nil, seq_treeOf k, S_right (rights_treeOf k), List.map_append]
theorem choice_left {ts us : List Tr} (h : ∀ t ∈ ts, RightT t) (k : ∀ t ∈ us, RightT t) (hn : ts ≠ []) : ofET choiceD (ofET choiceD ts :: us) = ofET choiceD (ts ++ us) := by
  rw [ofET_choice (ts := ofET choiceD ts :: us) (fun t ht => by rcases List.mem_cons.1 ht with rfl | ht; exact choice_right h; exact k t ht),
    ofET_choice (ts := ts ++ us) (fun t ht => by rcases List.mem_append.1 ht with ht | ht; exact h t ht; exact k t ht), List.map_cons, choice_treeOf h, C_left (rights_treeOf h) (by simpa using hn), List.map_append]
theorem choice_right_ {ts us : List Tr} (h : ∀ t ∈ ts, RightT t) (k : ∀ t ∈ us, RightT t) (hn : us ≠ []) : ofET choiceD (ts ++ [ofET choiceD us]) = ofET choiceD (ts ++ us) := by
  rw [ofET_choice (ts := ts ++ [ofET choiceD us]) (fun t ht => by rcases List.mem_append.1 ht with ht | ht; exact h t ht; simp at ht; subst ht; exact choice_right k),
    ofET_choice (ts := ts ++ us) (fun t ht => by rcases List.mem_append.1 ht with ht | ht; exact h t ht; exact k t ht), List.map_append, List.map_cons, List.map_nil, choice_treeOf k, C_right (rights_treeOf k) (by simpa using hn), List.map_append]
end Go.Proofs.YtclfpjfjebheoaaDoor
/- Calls that take flat trees and leave flat trees; for the examples. -/
namespace Go.Proofs.YtclfpjfjebheoaaDoor
set_option linter.unusedSimpArgs false
open Go.RowKit
open Classical

/-- A tree that fits, and is small. -/
def Sm (t : T) : Prop := FitT t ∧ (flatT t).nodes.length ≤ 10
def FPost (t : T) (bs : List Nat) (w : World) (e : Ending) (w' : World) : Prop :=
  ∃ A c, e = .returned (.agg #[.slice A (flatT t).nodes.length c, .int .i64 (flatT t).root]) ∧ Hid (RT w' bs A c (flatT t)) ∧ Hid (Below w.heap.size w w')
def FPost2 (t : T) (b : Bool) (bs : List Nat) (w : World) (e : Ending) (w' : World) : Prop :=
  ∃ A c, e = .returned (.tuple #[.agg #[.slice A (flatT t).nodes.length c, .int .i64 (flatT t).root], .bool b]) ∧ Hid (RT w' bs A c (flatT t)) ∧ Hid (Below w.heap.size w w')
theorem fpost {t : T} {x : Tr} {bs : List Nat} {w : World} {e : Ending} {w' : World} (h : UPost x bs w e w') (hx : x = flatT t) : FPost t bs w e w' := by
  obtain ⟨A, c, y, rfl, hy, hr, hb⟩ := h
  obtain rfl := hy.out
  subst hx
  exact ⟨A, c, rfl, hr, hb⟩
theorem fpost2 {d : Dt} {ts : List Tr} {b : Bool} {t : T} {bs : List Nat} {w : World} {e : Ending} {w' : World} (h : TPost d ts bs w e w') (hx : ofET d ts = flatT t) (hb : ofEB d ts = b) : FPost2 t b bs w e w' := by
  obtain ⟨A, c, y, rfl, hy, hr, hb'⟩ := h
  obtain rfl := hy.out
  rw [hx] at hr ⊢
  exact ⟨A, c, by rw [hb], hr, hb'⟩
theorem flats_right {L : List T} (h : ∀ t ∈ L, FitT t) : ∀ t ∈ L.map flatT, RightT t := rights_flat L h
theorem flats_treeOf (L : List T) : (L.map flatT).map treeOf = L := by
  rw [List.map_map]
  conv => rhs; rw [← List.map_id L]
  exact List.map_congr_left fun t _ => treeOf_flat t
theorem seq_flat {L : List T} (h : ∀ t ∈ L, FitT t) : ofET seqD (L.map flatT) = flatT (S L) ∧ ofEB seqD (L.map flatT) = true := by
  refine ⟨?_, ?_⟩
  · rw [ofET_seq (flats_right h), flats_treeOf]
  · rw [ofEB_seq]; exact decide_eq_true (flats_right h)
theorem choice_flat {L : List T} (h : ∀ t ∈ L, FitT t) : ofET choiceD (L.map flatT) = flatT (C L) ∧ ofEB choiceD (L.map flatT) = true := by
  refine ⟨?_, ?_⟩
  · rw [ofET_choice (flats_right h), flats_treeOf]
  · rw [ofEB_choice]; exact decide_eq_true (flats_right h)
theorem of_flat {d : Dt} {L : List T} (h : ∀ t ∈ L, FitT t) (hf : fits d L.length = true) : ofT d (L.map flatT) = flatT (.node d L) := by
  unfold ofT
  rw [if_pos ⟨by simpa using hf, flats_right h⟩, flats_treeOf]
section
variable {w0 w : World} {bs : List Nat} {A A2 A3 : Option Addr} {c c2 c3 g : Nat} {t t1 t2 t3 : T}
theorem leaf_f {d : Dt} {f : FuncId} {args : Array Value} (hl : BL w bs) (h : Calls Tryd.prog f args w fun e w' => ∃ u, e = .returned u ∧ OwnTree w' w.heap.size u ⟨[⟨d, []⟩], 0⟩ ∧ Below w.heap.size w w') (ht : t = .node d []) : Calls Tryd.prog f args w (FPost t bs w) := by
  subst ht
  refine h.mono fun e w' ⟨u, he, hu, hb⟩ => fpost (upost (Below.refl _ _) hl ⟨u, he, XTree.of_own hu (by simp) (by simp), hb⟩) rfl
theorem text_f {s : List UInt8} (hs : s.length ≤ maxLen) (hl : BL w bs) (ht : t = .node (textD s) []) : Calls Tryd.prog 56 #[.string ⟨s.toArray⟩] w (FPost t bs w) := by
  subst ht
  exact (ltext_g s hs w).mono fun e w' h => fpost (upost (Below.refl _ _) hl h) rfl
theorem of2_f {k : Int} (hk : 0 ≤ k ∧ k ≤ 255) (hE : Ev w0 w) (hl : BL w bs) (h1 : RT w bs A c (flatT t1)) (h2 : RT w bs A2 c2 (flatT t2)) (s1 : Sm t1) (s2 : Sm t2) (hf : fits (kindD k) 2 = true) (ht : T.node (kindD k) [t1, t2] = t) (hg : w.heap.size = g) :
    Calls Tryd.prog 55 #[.int .u8 k, .slice (some ⟨g, 0, none⟩) 2 2] (w.alloc (.cells #[.slice A (flatT t1).nodes.length c, .int .i64 (flatT t1).root, .slice A2 (flatT t2).nodes.length c2, .int .i64 (flatT t2).root] 34)) (FPost t bs w) := by
  subst ht
  have := s1.2; have := s2.2
  exact (lof2_c hk hE hl h1 h2 (by omega) hg).mono fun e w' h => fpost h (of_flat (L := [t1, t2]) (by simp [s1.1, s2.1]) hf)
theorem of3_f {k : Int} (hk : 0 ≤ k ∧ k ≤ 255) (hE : Ev w0 w) (hl : BL w bs) (h1 : RT w bs A c (flatT t1)) (h2 : RT w bs A2 c2 (flatT t2)) (h3 : RT w bs A3 c3 (flatT t3)) (s1 : Sm t1) (s2 : Sm t2) (s3 : Sm t3) (hf : fits (kindD k) 3 = true) (ht : T.node (kindD k) [t1, t2, t3] = t) (hg : w.heap.size = g) :
    Calls Tryd.prog 55 #[.int .u8 k, .slice (some ⟨g, 0, none⟩) 3 3] (w.alloc (.cells #[.slice A (flatT t1).nodes.length c, .int .i64 (flatT t1).root, .slice A2 (flatT t2).nodes.length c2, .int .i64 (flatT t2).root, .slice A3 (flatT t3).nodes.length c3, .int .i64 (flatT t3).root] 34)) (FPost t bs w) := by
  subst ht
  have := s1.2; have := s2.2; have := s3.2
  exact (lof3_c hk hE hl h1 h2 h3 (by omega) hg).mono fun e w' h => fpost h (of_flat (L := [t1, t2, t3]) (by simp [s1.1, s2.1, s3.1]) hf)
theorem seq1_f (hE : Ev w0 w) (hl : BL w bs) (h1 : RT w bs A c (flatT t1)) (s1 : Sm t1) (ht : S [t1] = t) (hg : w.heap.size = g) :
    Calls Tryd.prog 20 #[.slice (some ⟨g, 0, none⟩) 1 1] (w.alloc (.cells #[.slice A (flatT t1).nodes.length c, .int .i64 (flatT t1).root] 34)) (FPost2 t true bs w) := by
  subst ht
  have := s1.2
  have hf := seq_flat (L := [t1]) (by simp [s1.1])
  exact (seq1_c hE hl h1 (by omega) hg).mono fun e w' h => fpost2 h hf.1 hf.2
theorem seq3_f (hE : Ev w0 w) (hl : BL w bs) (h1 : RT w bs A c (flatT t1)) (h2 : RT w bs A2 c2 (flatT t2)) (h3 : RT w bs A3 c3 (flatT t3)) (s1 : Sm t1) (s2 : Sm t2) (s3 : Sm t3) (ht : S [t1, t2, t3] = t) (hg : w.heap.size = g) :
    Calls Tryd.prog 20 #[.slice (some ⟨g, 0, none⟩) 3 3] (w.alloc (.cells #[.slice A (flatT t1).nodes.length c, .int .i64 (flatT t1).root, .slice A2 (flatT t2).nodes.length c2, .int .i64 (flatT t2).root, .slice A3 (flatT t3).nodes.length c3, .int .i64 (flatT t3).root] 34)) (FPost2 t true bs w) := by
  subst ht
  have := s1.2; have := s2.2; have := s3.2
  have hf := seq_flat (L := [t1, t2, t3]) (by simp [s1.1, s2.1, s3.1])
  exact (seq3_c hE hl h1 h2 h3 (by omega) hg).mono fun e w' h => fpost2 h hf.1 hf.2
theorem nil_given (hE : Ev w0 w) : GivenEL [] (.slice none 0 0) (fun _ => False) w := ⟨⟨[], rfl, Row.nil_ _ _ _, fun j t nv h => by simp at h⟩, fun _ h => h.elim, hE.ktab, hE.tog, by simp, by simp⟩
theorem seq0_f (hE : Ev w0 w) (hl : BL w bs) (ht : S [] = t) : Calls Tryd.prog 20 #[.slice none 0 0] w (FPost2 t true bs w) := by
  subst ht
  have hf := seq_flat (L := []) (by simp)
  exact (Seq_g (nil_given hE)).mono fun e w' h => fpost2 (tpost (Below.refl _ _) hl h) hf.1 hf.2
theorem choice0_f (hE : Ev w0 w) (hl : BL w bs) (ht : C [] = t) : Calls Tryd.prog 22 #[.slice none 0 0] w (FPost2 t true bs w) := by
  subst ht
  have hf := choice_flat (L := []) (by simp)
  exact (Choice_g (nil_given hE)).mono fun e w' h => fpost2 (tpost (Below.refl _ _) hl h) hf.1 hf.2
theorem head_f (hE : Ev w0 w) (hl : BL w bs) (h1 : RT w bs A c (flatT t1)) (s1 : Sm t1) (hb : headB (flatT t1) = true) (ht : headT (flatT t1) = flatT t) :
    Calls Tryd.prog 39 #[.agg #[.slice A (flatT t1).nodes.length c, .int .i64 (flatT t1).root]] w (FPost2 t true bs w) := by
  have := s1.2
  refine (Head_g (h1.givenE hE (by omega))).mono fun e w' ⟨u, he, hu, hb'⟩ => ?_
  rw [hb] at he
  subst he
  rw [ht] at hu
  obtain ⟨A', c', rfl⟩ := hu.agg
  exact ⟨A', c', rfl, Lib.hid (RT.of_x hu hl), Lib.hid hb'⟩
theorem tail_f (hE : Ev w0 w) (hl : BL w bs) (h1 : RT w bs A c (flatT t1)) (s1 : Sm t1) (hb : tailB (flatT t1) = true) (ht : tailT (flatT t1) = flatT t) :
    Calls Tryd.prog 40 #[.agg #[.slice A (flatT t1).nodes.length c, .int .i64 (flatT t1).root]] w (FPost2 t true bs w) := by
  have := s1.2
  refine (Tail_g (h1.givenE hE (by omega))).mono fun e w' ⟨u, he, hu, hb'⟩ => ?_
  rw [hb] at he
  subst he
  rw [ht] at hu
  obtain ⟨A', c', rfl⟩ := hu.agg
  exact ⟨A', c', rfl, Lib.hid (RT.of_x hu hl), Lib.hid hb'⟩
/-- What a call leaves that need not work out. -/
def TPostB (b : Bool) (bs : List Nat) (w : World) (e : Ending) (w' : World) : Prop :=
  ∃ A c x, e = .returned (.tuple #[.agg #[.slice A x.nodes.length c, .int .i64 x.root], .bool b]) ∧ Hid (RT w' bs A c x) ∧ Hid (Below w.heap.size w w')
theorem rep_f {mn mx : Int} (hmn : -9223372036854775808 ≤ mn ∧ mn ≤ 9223372036854775807) (hmx : -9223372036854775808 ≤ mx ∧ mx ≤ 9223372036854775807) (hE : Ev w0 w) (hl : BL w bs) (h1 : RT w bs A c (flatT t1)) (s1 : Sm t1) (hf : fits (repD mn mx) 1 = true) (ht : T.node (repD mn mx) [nf t1] = t) :
    Calls Tryd.prog 31 #[.agg #[.slice A (flatT t1).nodes.length c, .int .i64 (flatT t1).root], .int .i64 mn, .int .i64 mx] w (FPost2 t true bs w) := by
  subst ht
  have := s1.2
  have hr : ∀ x ∈ [flatT t1], RightT x := by simp [right_flat s1.1]
  refine (Rep_g hmn hmx (h1.givenE hE (by omega))).mono fun e w' h => fpost2 (tpost (Below.refl _ _) hl h) ?_ ?_
  · unfold ofET
    rw [if_pos ⟨hr, .inr (.inr (by simpa using hf))⟩]
    unfold tog
    rw [if_neg (by simp [repD]), if_neg (by simp [repD])]
    simp [treeOf_flat]
  · unfold ofEB
    exact decide_eq_true ⟨hr, .inr (.inr (by simpa using hf))⟩
theorem repno_f {mn mx : Int} (hmn : -9223372036854775808 ≤ mn ∧ mn ≤ 9223372036854775807) (hmx : -9223372036854775808 ≤ mx ∧ mx ≤ 9223372036854775807) (hE : Ev w0 w) (hl : BL w bs) (h1 : RT w bs A c (flatT t1)) (s1 : Sm t1) (hf : fits (repD mn mx) 1 = false) :
    Calls Tryd.prog 31 #[.agg #[.slice A (flatT t1).nodes.length c, .int .i64 (flatT t1).root], .int .i64 mn, .int .i64 mx] w (TPostB false bs w) := by
  have := s1.2
  refine (Rep_g hmn hmx (h1.givenE hE (by omega))).mono fun e w' h => ?_
  obtain ⟨A', c', x', rfl, hx, hr, hb⟩ := tpost (Below.refl _ _) hl h
  refine ⟨A', c', x', ?_, hr, hb⟩
  have : ofEB (repD mn mx) [flatT t1] = false := by
    unfold ofEB
    refine decide_eq_false fun hn => ?_
    rcases hn.2 with h | h | h
    · simp [repD] at h
    · simp [repD] at h
    · rw [show (([flatT t1].length : Nat) : Int) = 1 from rfl, hf] at h; cases h
  rw [this]
theorem is_f (hE : Ev w0 w) (h1 : RT w bs A c (flatT t1)) (h2 : RT w bs A2 c2 (flatT t1)) (s1 : Sm t1) :
    Calls Tryd.prog 21 #[.agg #[.slice A (flatT t1).nodes.length c, .int .i64 (flatT t1).root], .bool true, .agg #[.slice A2 (flatT t1).nodes.length c2, .int .i64 (flatT t1).root]] w fun e w' => e = .returned (.bool true) ∧ Below w.heap.size w w' :=
  is_c hE h1 h2 rfl (by have := s1.2; omega) rfl
end
section
variable {w : World} {bs : List Nat} {g g' : Nat} {A : Option Addr} {c : Nat} {x : Tr}
theorem BL.boxN (h : BL w bs) (o : Obj) (hg : w.heap.size = g) : BL (w.alloc o) (g :: bs) := hg ▸ h.box o
theorem RT.boxN (h : RT w bs A c x) (o : Obj) (hg : w.heap.size = g) : RT (w.alloc o) (g :: bs) A c x := hg ▸ h.box o
theorem TB.boxN (h : TB w bs g' A c x) (o : Obj) (hg : w.heap.size = g) : TB (w.alloc o) (g :: bs) g' A c x := hg ▸ h.box o
end
/-! ### In regions whose order is drawn -/
theorem TB.cons {w : World} {bs : List Nat} {g g' : Nat} {A : Option Addr} {c : Nat} {x : Tr} (h : TB w bs g A c x) (hg : w.heap.size ≤ g') : TB w (g' :: bs) g A c x := ⟨h.blk, h.tree.cons hg⟩
theorem BL.cons {w : World} {bs : List Nat} {g : Nat} (h : BL w bs) (hg : g < w.heap.size) : BL w (g :: bs) := fun b hm => by
  rcases List.mem_cons.1 hm with rfl | hm
  · exact hg
  · exact h b hm
theorem RFreeT.old {w0 w : World} {γ : BG} {bs : List Nat} {A : Option Addr} {c : Nat} {x : Tr} (hE : BE TT ZT (BG.none_, w0.drew) (γ, w)) (h : RT w0 bs A c x) : RFreeT x (.agg #[.slice A x.nodes.length c, .int .i64 x.root]) (γ, w) :=
  ⟨fun b => b < w0.heap.size, (RTree.more h fun b hb => hb.1).below hE.below_drew (fun _ h => h), fun b hb => ⟨Nat.lt_of_lt_of_le hb hE.size, fun i c' e => by
    have h1 := hE.fresh i b c' e rfl
    exact absurd hb (Nat.not_lt.2 h1)⟩⟩
theorem RG.free {lo : Nat} {t : Tr} {v : Value} {s : BG × World} (h : RG lo t v s) : RFreeT t v s := by
  obtain ⟨S, h1, h2⟩ := h
  exact ⟨S, h1, fun b hb => ⟨(h2 b hb).1, (h2 b hb).2.2.2⟩⟩
theorem RG.x {T : Nat → TypeId} {Z : Nat → Array Value} {lo : Nat} {x : Tr} {u : Value} {γ : BG} {w w' : World} (h : XTree w' (fun b => w.heap.size ≤ b) u x) (hl : lo ≤ w.heap.size) (hok : BoxOK T Z (γ, w)) : RG lo x u (γ, w') :=
  ⟨_, h, fun b hb => ⟨hb.2.1, Nat.le_trans hl hb.1, hb.2.2, fun i c e => by have := hok.lt (i := i) e; have := hb.1; simp only at *; omega⟩⟩
theorem RFreeL.new2 {γ : BG} {w : World} {x y : Tr} {nv mv : Value} (hok : BoxOK TT ZT (γ, w)) (h1 : RFreeT x (.agg #[nv, .int .i64 x.root]) (γ, w)) (h2 : RFreeT y (.agg #[mv, .int .i64 y.root]) (γ, w)) :
    RFreeL [x, y] (.slice (some ⟨w.heap.size, 0, none⟩) 2 2) (γ, w.alloc (.cells #[nv, .int .i64 x.root, mv, .int .i64 y.root] 34)) := by
  obtain ⟨S1, a1, b1⟩ := h1
  obtain ⟨S2, a2, b2⟩ := h2
  refine ⟨fun b => S1 b ∨ S2 b ∨ b = w.heap.size, RTrees.two (ty := 34) (Blk.new w _ _) (.inr (.inr rfl)) ((RTree.below a1 (below_row _ _) fun b hb => (b1 b hb).1).more fun b hb => .inl hb) ((RTree.below a2 (below_row _ _) fun b hb => (b2 b hb).1).more fun b hb => .inr (.inl hb)), fun b hb => ?_⟩
  rcases hb with hb | hb | rfl
  · exact ⟨by have := (b1 b hb).1; simp only [World.size_alloc] at *; omega, (b1 b hb).2⟩
  · exact ⟨by have := (b2 b hb).1; simp only [World.size_alloc] at *; omega, (b2 b hb).2⟩
  · exact ⟨by simp, fun i c e => by have := hok.lt (i := i) e; simp at this⟩
theorem box_tb {w0 w : World} {γ : BG} {bs : List Nat} {t : Tr} {v u : Value} {i : Nat} (hE : BE TT ZT (BG.none_, w0.drew) (γ, w)) (hb : RBox i v (γ, w)) (hf : RFillG i w0.heap.size t u (γ, w)) (hl : BL w0 bs) :
    ∃ g A c, v = .pointer (some ⟨g, 0, none⟩) ∧ w0.heap.size ≤ g ∧ Hid (BL w (g :: bs)) ∧ Hid (TB w (g :: bs) g A c t) := by
  obtain ⟨g, c, rfl, hg⟩ := hb
  obtain ⟨g', c', hg', hr⟩ := hf
  simp only at hg hg'
  rw [hg] at hg'
  injection hg' with e
  injection e with e1 e2
  subst e1; subst e2
  obtain ⟨S, h1, h2⟩ := hr
  obtain ⟨nv, e, hn, hz⟩ := id h1
  obtain ⟨A, k, rfl, _⟩ := hn.at_
  injection e with e
  subst e
  have hfr : w0.heap.size ≤ g := hE.fresh i g _ hg rfl
  have hB := hE.boxes.full i g _ hg
  exact ⟨g, A, k, rfl, hfr, Lib.hid ((hl.below hE.below_drew).cons hB.lt), Lib.hid ⟨hB, RTree.more h1 fun b hb => ⟨(h2 b hb).1, fun hm => by
    rcases List.mem_cons.1 hm with rfl | hm
    · exact (h2 b hb).2.2.2 i _ hg
    · have := hl b hm; have := (h2 b hb).2.1; omega⟩⟩⟩
/-- A value that reads as a flat tree. -/
def FR (bs : List Nat) (t : T) (v : Value) (w : World) : Prop := ∃ A c, v = .agg #[.slice A (flatT t).nodes.length c, .int .i64 (flatT t).root] ∧ RT w bs A c (flatT t)
theorem FR.below {bs : List Nat} {t : T} {v : Value} {w w' : World} (h : FR bs t v w) (hb : Below w.heap.size w w') : FR bs t v w' := by
  obtain ⟨A, c, rfl, h⟩ := h
  exact ⟨A, c, rfl, h.below hb⟩
/-- A row of flat trees. -/
def FL (L : List T) (v : Value) (w : World) : Prop := RTrees w (fun b => b < w.heap.size) v (L.map flatT)
theorem FL.below {L : List T} {v : Value} {w w' : World} (h : FL L v w) (hb : Below w.heap.size w w') : FL L v w' := (RTrees.below h hb fun _ h => h).more fun b h => Nat.lt_of_lt_of_le h hb.size
theorem FL.two {w : World} {bs : List Nat} {A A2 : Option Addr} {c c2 : Nat} {t1 t2 : T} (h1 : RT w bs A c (flatT t1)) (h2 : RT w bs A2 c2 (flatT t2)) :
    FL [t1, t2] (.slice (some ⟨w.heap.size, 0, none⟩) 2 2) (w.alloc (.cells #[.slice A (flatT t1).nodes.length c, .int .i64 (flatT t1).root, .slice A2 (flatT t2).nodes.length c2, .int .i64 (flatT t2).root] 34)) :=
  (row2 h1 h2).more fun b hb => by simpa using hb
theorem FL.three {w : World} {bs : List Nat} {A A2 A3 : Option Addr} {c c2 c3 : Nat} {t1 t2 t3 : T} (h1 : RT w bs A c (flatT t1)) (h2 : RT w bs A2 c2 (flatT t2)) (h3 : RT w bs A3 c3 (flatT t3)) :
    FL [t1, t2, t3] (.slice (some ⟨w.heap.size, 0, none⟩) 3 3) (w.alloc (.cells #[.slice A (flatT t1).nodes.length c, .int .i64 (flatT t1).root, .slice A2 (flatT t2).nodes.length c2, .int .i64 (flatT t2).root, .slice A3 (flatT t3).nodes.length c3, .int .i64 (flatT t3).root] 34)) :=
  (row3 h1 h2 h3).more fun b hb => by simpa using hb
theorem sum_sm {L : List T} (h : ∀ t ∈ L, Sm t) : ((L.map flatT).map (·.nodes.length)).sum ≤ 10 * L.length := by
  induction L with
  | nil => simp
  | cons t L ih =>
    have h1 := ih fun x hx => h x (by simp [hx])
    have h2 := (h t (by simp)).2
    simp only [List.map_cons, List.sum_cons, List.length_cons] at *
    omega
theorem ofL_f {w0 w : World} {bs : List Nat} {k : Int} {L : List T} {v : Value} {t : T} (hk : 0 ≤ k ∧ k ≤ 255) (hE : Ev w0 w) (hl : BL w bs) (h : FL L v w) (hs : ∀ t ∈ L, Sm t) (hn : L.length ≤ 10) (hf : fits (kindD k) L.length = true) (ht : T.node (kindD k) L = t) :
    Calls Tryd.prog 55 #[.int .u8 k, v] w (FPost t bs w) := by
  subst ht
  have h1 := sum_sm hs
  refine (lof_g hk ⟨h, fun _ h => h, hE.ktab, fun t ht => ?_, by simp; omega⟩ (by omega)).mono fun e w' h => fpost (upost (Below.refl _ _) hl h) (of_flat (fun t ht => (hs t ht).1) hf)
  have := sum_mem ht
  omega
theorem choiceL_f {w0 w : World} {L : List T} {v : Value} {t : T} (hE : Ev w0 w) (h : FL L v w) (hs : ∀ t ∈ L, Sm t) (hn : L.length ≤ 10) (ht : C L = t) :
    Calls Tryd.prog 22 #[v] w fun e w' => ∃ u, e = .returned (.tuple #[u, .bool true]) ∧ XTree w' (fun b => w.heap.size ≤ b) u (flatT t) ∧ Below w.heap.size w w' := by
  subst ht
  have h1 := sum_sm hs
  have hc := choice_flat (L := L) fun t ht => (hs t ht).1
  refine (Choice_g ⟨h, fun _ h => h, hE.ktab, hE.tog, by omega, by simp; omega⟩).mono fun e w' ⟨u, he, hu, hb⟩ => ⟨u, ?_, ?_, hb⟩
  · rw [he, hc.2]
  · rw [← hc.1]; exact hu
theorem ofL_x {w0 w : World} {k : Int} {L : List T} {v : Value} {t : T} (hk : 0 ≤ k ∧ k ≤ 255) (hE : Ev w0 w) (h : FL L v w) (hs : ∀ t ∈ L, Sm t) (hn : L.length ≤ 10) (hf : fits (kindD k) L.length = true) (ht : T.node (kindD k) L = t) :
    Calls Tryd.prog 55 #[.int .u8 k, v] w fun e w' => ∃ u, e = .returned u ∧ XTree w' (fun b => w.heap.size ≤ b) u (flatT t) ∧ Below w.heap.size w w' := by
  subst ht
  have h1 := sum_sm hs
  rw [← of_flat (fun t ht => (hs t ht).1) hf]
  refine lof_g hk ⟨h, fun _ h => h, hE.ktab, fun t ht => ?_, by simp; omega⟩ (by omega)
  have := sum_mem ht
  omega
end Go.Proofs.YtclfpjfjebheoaaDoor
/- law05.awake answers true. -/
namespace Go.Proofs.YtclfpjfjebheoaaDoor
set_option linter.unusedSimpArgs false
open Go.RowKit
open Classical

theorem sm_leaf {d : Dt} (h : fits d 0 = true) : Sm (.node d []) := ⟨⟨_, _, h, fun k hk => by simp at hk⟩, by rw [flatT_len]; simp [T.size, sizes]⟩
theorem sm_node {d : Dt} {L : List T} (h : fits d L.length = true) (hk : ∀ k ∈ L, Sm k) (hl : (T.node d L).size ≤ 10) : Sm (.node d L) := ⟨⟨_, _, h, fun k hm => (hk k hm).1⟩, by rw [flatT_len]; exact hl⟩
theorem S_def (L : List T) : S L = collS (openK 4 0 (L.map nf)) := rfl
theorem C_def (L : List T) : C L = collC (openK 5 5 (L.map nf)) := rfl
theorem nf_leaf {d : Dt} (h4 : d.kind ≠ 4) (h5 : d.kind ≠ 5) : nf (.node d []) = .node d [] := by rw [nf_node, tog, if_neg h4, if_neg h5]; rfl
theorem headB_flat {t : T} (h : FitT t) (h0 : (nf t).d.kind ≠ 0) (hk : (nf t).d.kind = 4 → (nf t).kids ≠ []) : headB (flatT t) = true := by
  unfold headB partsL
  rw [if_pos (right_flat h), treeOf_flat]
  by_cases h4 : (nf t).d.kind = 4
  · rw [if_pos h4]; exact decide_eq_true (by simpa using hk h4)
  · rw [if_neg h4, if_neg h0]; exact decide_eq_true (by simp)
theorem partsL_seq {t : T} (h : FitT t) (h4 : (nf t).d.kind = 4) : partsL (flatT t) = (nf t).kids.map flatT := by
  unfold partsL
  rw [if_pos (right_flat h), treeOf_flat, if_pos h4]
theorem partsL_one {t : T} (h : FitT t) (h4 : (nf t).d.kind ≠ 4) (h0 : (nf t).d.kind ≠ 0) : partsL (flatT t) = [flatT (nf t)] := by
  unfold partsL nfTr
  rw [if_pos (right_flat h), treeOf_flat, if_neg h4, if_neg h0, if_pos (right_flat h)]
theorem head_of {t u : T} {L : List T} (h : partsL (flatT t) = (u :: L).map flatT) : headB (flatT t) = true ∧ headT (flatT t) = flatT u := by
  unfold headB headT
  rw [h]
  exact ⟨decide_eq_true (by simp), rfl⟩
theorem tail_of {t u : T} {L : List T} (h : partsL (flatT t) = (u :: L).map flatT) (hL : ∀ x ∈ L, FitT x) : tailB (flatT t) = true ∧ tailT (flatT t) = flatT (S L) := by
  unfold tailB tailT
  rw [h]
  have := seq_flat hL
  simp only [List.map_cons, List.tail_cons]
  rw [this.1, this.2]
  exact ⟨by simp, by simp⟩
/-- The examples' trees, and what is known of them. -/
structure Exs (tA tB tC tX tY tZ tE tN tABC tBC tXY tXYZ tR : T) : Prop where
  etA : tA = .node (textD [97]) []
  etB : tB = .node (textD [98]) []
  etC : tC = .node (textD [99]) []
  etX : tX = .node (ruleD [120]) []
  etY : tY = .node (ruleD [121]) []
  etZ : tZ = .node (ruleD [122]) []
  etE : tE = .node default []
  etN : tN = .node setD0 []
  stA : Sm tA
  stB : Sm tB
  stC : Sm tC
  stX : Sm tX
  stY : Sm tY
  stZ : Sm tZ
  stE : Sm tE
  stN : Sm tN
  stABC : Sm tABC
  stBC : Sm tBC
  stXY : Sm tXY
  stXYZ : Sm tXYZ
  stR : Sm tR
  mtABC : T.node (kindD 4) [tA, tB, tC] = tABC
  mtBC : T.node (kindD 4) [tB, tC] = tBC
  mtXY : T.node (kindD 5) [tX, tY] = tXY
  mtXYZ : T.node (kindD 5) [tX, tY, tZ] = tXYZ
  mtR : T.node (repD 0 (-1)) [nf tX] = tR
  c5 : S [tA, tE, tBC] = tABC
  c6 : S [] = tE
  c7 : S [tE] = tE
  c8 : C [tXY, tZ] = tXYZ
  c9 : C [] = tN
  h1 : headB (flatT tABC) = true ∧ headT (flatT tABC) = flatT tA
  h2 : tailB (flatT tABC) = true ∧ tailT (flatT tABC) = flatT tBC
  h3 : headB (flatT tR) = true ∧ headT (flatT tR) = flatT tR
  h4 : tailB (flatT tR) = true ∧ tailT (flatT tR) = flatT tE
theorem exs : ∃ tA tB tC tX tY tZ tE tN tABC tBC tXY tXYZ tR, Exs tA tB tC tX tY tZ tE tN tABC tBC tXY tXYZ tR := by
  have l0 : ∀ (s : List UInt8), nf (.node (textD s) []) = .node (textD s) [] := fun s => nf_leaf (by simp [textD]) (by simp [textD])
  have l1 : ∀ (s : List UInt8), nf (.node (ruleD s) []) = .node (ruleD s) [] := fun s => nf_leaf (by simp [ruleD]) (by simp [ruleD])
  have l2 : nf (.node default []) = .node default [] := nf_leaf (by decide) (by decide)
  have fA : Sm (.node (textD [97]) []) := sm_leaf (by decide)
  have fB : Sm (.node (textD [98]) []) := sm_leaf (by decide)
  have fC : Sm (.node (textD [99]) []) := sm_leaf (by decide)
  have fX : Sm (.node (ruleD [120]) []) := sm_leaf (by decide)
  have fY : Sm (.node (ruleD [121]) []) := sm_leaf (by decide)
  have fZ : Sm (.node (ruleD [122]) []) := sm_leaf (by decide)
  have fE : Sm (.node default []) := sm_leaf (by decide)
  have fN : Sm (.node setD0 []) := sm_leaf (by decide)
  have fABC : Sm (T.node (seqD) [T.node (textD [97]) [], T.node (textD [98]) [], T.node (textD [99]) []]) := sm_node (by decide) (by simp [fA, fB, fC]) (by decide)
  have fBC : Sm (T.node (seqD) [T.node (textD [98]) [], T.node (textD [99]) []]) := sm_node (by decide) (by simp [fB, fC]) (by decide)
  have fXY : Sm (T.node (choiceD) [T.node (ruleD [120]) [], T.node (ruleD [121]) []]) := sm_node (by decide) (by simp [fX, fY]) (by decide)
  have fXYZ : Sm (T.node (choiceD) [T.node (ruleD [120]) [], T.node (ruleD [121]) [], T.node (ruleD [122]) []]) := sm_node (by decide) (by simp [fX, fY, fZ]) (by decide)
  have fR : Sm (T.node (repD 0 (-1)) [T.node (ruleD [120]) []]) := sm_node (by decide) (by simp [fX]) (by decide)
  have nABC : nf (T.node (seqD) [T.node (textD [97]) [], T.node (textD [98]) [], T.node (textD [99]) []]) = T.node (seqD) [T.node (textD [97]) [], T.node (textD [98]) [], T.node (textD [99]) []] := nf_id _ fABC.1 (by
    refine .node _ _ (fun k hk => ?_) (fun _ k hk => ?_) (fun h => by simp [seqD] at h)
    · simp at hk; rcases hk with rfl | rfl | rfl <;> exact nt_leaf _
    · simp at hk; rcases hk with rfl | rfl | rfl <;> simp [T.d, textD])
  have nBC : nf (T.node (seqD) [T.node (textD [98]) [], T.node (textD [99]) []]) = T.node (seqD) [T.node (textD [98]) [], T.node (textD [99]) []] := nf_id _ fBC.1 (by
    refine .node _ _ (fun k hk => ?_) (fun _ k hk => ?_) (fun h => by simp [seqD] at h)
    · simp at hk; rcases hk with rfl | rfl <;> exact nt_leaf _
    · simp at hk; rcases hk with rfl | rfl <;> simp [T.d, textD])
  have nXY : nf (T.node (choiceD) [T.node (ruleD [120]) [], T.node (ruleD [121]) []]) = T.node (choiceD) [T.node (ruleD [120]) [], T.node (ruleD [121]) []] := nf_id _ fXY.1 (by
    refine .node _ _ (fun k hk => ?_) (fun h => by simp [choiceD] at h) (fun _ k hk => ?_)
    · simp at hk; rcases hk with rfl | rfl <;> exact nt_leaf _
    · simp at hk; rcases hk with rfl | rfl <;> simp [T.d, ruleD])
  have nR : nf (T.node (repD 0 (-1)) [T.node (ruleD [120]) []]) = T.node (repD 0 (-1)) [T.node (ruleD [120]) []] := nf_id _ fR.1 (by
    refine .node _ _ (fun k hk => ?_) (fun h => by simp [repD] at h) (fun h => by simp [repD] at h)
    simp at hk; subst hk; exact nt_leaf _)
  have pABC : partsL (flatT (T.node (seqD) [T.node (textD [97]) [], T.node (textD [98]) [], T.node (textD [99]) []])) = ([T.node (textD [97]) [], T.node (textD [98]) [], T.node (textD [99]) []] : List T).map flatT := by rw [partsL_seq fABC.1 (by rw [nABC]; rfl), nABC]; rfl
  have pR : partsL (flatT (T.node (repD 0 (-1)) [T.node (ruleD [120]) []])) = ([T.node (repD 0 (-1)) [T.node (ruleD [120]) []]] : List T).map flatT := by rw [partsL_one fR.1 (by rw [nR]; decide) (by rw [nR]; decide), nR]; rfl
  have cBC : S [T.node (textD [98]) [], T.node (textD [99]) []] = T.node (seqD) [T.node (textD [98]) [], T.node (textD [99]) []] := by
    rw [S_def]; simp only [List.map_cons, List.map_nil, l0]; rfl
  refine ⟨T.node (textD [97]) [], T.node (textD [98]) [], T.node (textD [99]) [], T.node (ruleD [120]) [], T.node (ruleD [121]) [], T.node (ruleD [122]) [], T.node default [], T.node setD0 [], T.node (seqD) [T.node (textD [97]) [], T.node (textD [98]) [], T.node (textD [99]) []], T.node (seqD) [T.node (textD [98]) [], T.node (textD [99]) []], T.node (choiceD) [T.node (ruleD [120]) [], T.node (ruleD [121]) []], T.node (choiceD) [T.node (ruleD [120]) [], T.node (ruleD [121]) [], T.node (ruleD [122]) []], T.node (repD 0 (-1)) [T.node (ruleD [120]) []], rfl, rfl, rfl, rfl, rfl, rfl, rfl, rfl, fA, fB, fC, fX, fY, fZ, fE, fN, fABC, fBC, fXY, fXYZ, fR, rfl, rfl, rfl, rfl, by rw [l1], ?_, rfl, ?_, ?_, rfl, head_of pABC, ?_, head_of pR, tail_of pR (by simp)⟩
  · rw [S_def]; simp only [List.map_cons, List.map_nil, l0, l2, nBC]; rfl
  · rw [S_def]; simp only [List.map_cons, List.map_nil, l2]; rfl
  · rw [C_def]; simp only [List.map_cons, List.map_nil, l1, nXY]; rfl
  · have := tail_of pABC (by simp [fB.1, fC.1])
    rw [cBC] at this; exact this
set_option maxRecDepth 20000 in
set_option maxHeartbeats 8000000 in
theorem awake_g {w : World} (hk : KTab w) (ht : TogTab w) : Calls Tryd.prog 19 #[] w fun e w' => e = .returned (.bool true) ∧ Below w.heap.size w w' := by
  obtain ⟨tA, tB, tC, tX, tY, tZ, tE, tN, tABC, tBC, tXY, tXYZ, tR, HX0⟩ := exs
  have HX := Lib.hid HX0
  have HE : Hid (Ev w w) := Lib.hid ⟨Below.refl _ _, hk, ht⟩
  have HL : Hid (BL w []) := Lib.hid (BL.nil w)
  clear hk ht HX0
  go_enter Tryd.func19, Tryd.ntmps19
  go_wp2_with fail
  refine Calls.mono (text_f (s := [97]) (by decide) HL.out HX.out.etA) ?_
  rintro e w1 ⟨A1, c1, rfl, V1, B1⟩
  replace HE := Lib.hid (HE.out.below B1.out)
  replace HL := Lib.hid (HL.out.below B1.out)
  go_wp2_with fail
  refine Calls.mono (text_f (s := [98]) (by decide) HL.out HX.out.etB) ?_
  rintro e w2 ⟨A2, c2, rfl, V2, B2⟩
  replace HE := Lib.hid (HE.out.below B2.out)
  replace HL := Lib.hid (HL.out.below B2.out)
  replace V1 := Lib.hid (V1.out.below B2.out)
  go_wp2_with fail
  refine Calls.mono (text_f (s := [99]) (by decide) HL.out HX.out.etC) ?_
  rintro e w3 ⟨A3, c3, rfl, V3, B3⟩
  replace HE := Lib.hid (HE.out.below B3.out)
  replace HL := Lib.hid (HL.out.below B3.out)
  replace V1 := Lib.hid (V1.out.below B3.out)
  replace V2 := Lib.hid (V2.out.below B3.out)
  go_wp2_with fail
  refine Calls.mono (of3_f (by decide) HE.out HL.out V1.out V2.out V3.out HX.out.stA HX.out.stB HX.out.stC (by decide) HX.out.mtABC rfl) ?_
  rintro e w4 ⟨A4, c4, rfl, V4, B4⟩
  replace HE := Lib.hid (HE.out.below B4.out)
  replace HL := Lib.hid (HL.out.below B4.out)
  replace V1 := Lib.hid (V1.out.below B4.out)
  replace V2 := Lib.hid (V2.out.below B4.out)
  replace V3 := Lib.hid (V3.out.below B4.out)
  have K1 := Lib.hid (TB.newN (g := w4.heap.size) V4.out rfl)
  replace HE := Lib.hid (HE.out.alloc (.cells #[.slice A4 (flatT tABC).nodes.length c4, .int .i64 (flatT tABC).root] 34))
  replace HL := Lib.hid (BL.boxN (g := w4.heap.size) HL.out (.cells #[.slice A4 (flatT tABC).nodes.length c4, .int .i64 (flatT tABC).root] 34) rfl)
  go_wp2_with fail
  refine Calls.mono (leaf_f HL.out (Rule_g [120] (by decide) _) HX.out.etX) ?_
  rintro e w5 ⟨A5, c5, rfl, V5, B5⟩
  replace HE := Lib.hid (HE.out.below B5.out)
  replace HL := Lib.hid (HL.out.below B5.out)
  replace K1 := Lib.hid (K1.out.below B5.out)
  go_wp2_with fail
  refine Calls.mono (leaf_f HL.out (Rule_g [121] (by decide) _) HX.out.etY) ?_
  rintro e w6 ⟨A6, c6, rfl, V6, B6⟩
  replace HE := Lib.hid (HE.out.below B6.out)
  replace HL := Lib.hid (HL.out.below B6.out)
  replace K1 := Lib.hid (K1.out.below B6.out)
  replace V5 := Lib.hid (V5.out.below B6.out)
  go_wp2_with fail
  refine Calls.mono (leaf_f HL.out (Rule_g [122] (by decide) _) HX.out.etZ) ?_
  rintro e w7 ⟨A7, c7, rfl, V7, B7⟩
  replace HE := Lib.hid (HE.out.below B7.out)
  replace HL := Lib.hid (HL.out.below B7.out)
  replace K1 := Lib.hid (K1.out.below B7.out)
  replace V5 := Lib.hid (V5.out.below B7.out)
  replace V6 := Lib.hid (V6.out.below B7.out)
  go_wp2_with fail
  have K2 := Lib.hid (TB.newN (g := w7.heap.size) V5.out rfl)
  replace HE := Lib.hid (HE.out.alloc (.cells #[.slice A5 (flatT tX).nodes.length c5, .int .i64 (flatT tX).root] 34))
  replace HL := Lib.hid (BL.boxN (g := w7.heap.size) HL.out (.cells #[.slice A5 (flatT tX).nodes.length c5, .int .i64 (flatT tX).root] 34) rfl)
  replace K1 := Lib.hid (TB.boxN (g := w7.heap.size) K1.out (.cells #[.slice A5 (flatT tX).nodes.length c5, .int .i64 (flatT tX).root] 34) rfl)
  replace V6 := Lib.hid (RT.boxN (g := w7.heap.size) V6.out (.cells #[.slice A5 (flatT tX).nodes.length c5, .int .i64 (flatT tX).root] 34) rfl)
  replace V7 := Lib.hid (RT.boxN (g := w7.heap.size) V7.out (.cells #[.slice A5 (flatT tX).nodes.length c5, .int .i64 (flatT tX).root] 34) rfl)
  have K3 := Lib.hid (TB.newN (g := w7.heap.size + 1) V6.out (by simp))
  replace HE := Lib.hid (HE.out.alloc (.cells #[.slice A6 (flatT tY).nodes.length c6, .int .i64 (flatT tY).root] 34))
  replace HL := Lib.hid (BL.boxN (g := w7.heap.size + 1) HL.out (.cells #[.slice A6 (flatT tY).nodes.length c6, .int .i64 (flatT tY).root] 34) (by simp))
  replace K1 := Lib.hid (TB.boxN (g := w7.heap.size + 1) K1.out (.cells #[.slice A6 (flatT tY).nodes.length c6, .int .i64 (flatT tY).root] 34) (by simp))
  replace K2 := Lib.hid (TB.boxN (g := w7.heap.size + 1) K2.out (.cells #[.slice A6 (flatT tY).nodes.length c6, .int .i64 (flatT tY).root] 34) (by simp))
  replace V7 := Lib.hid (RT.boxN (g := w7.heap.size + 1) V7.out (.cells #[.slice A6 (flatT tY).nodes.length c6, .int .i64 (flatT tY).root] 34) (by simp))
  have K4 := Lib.hid (TB.newN (g := w7.heap.size + 1 + 1) V7.out (by simp))
  replace HE := Lib.hid (HE.out.alloc (.cells #[.slice A7 (flatT tZ).nodes.length c7, .int .i64 (flatT tZ).root] 34))
  replace HL := Lib.hid (BL.boxN (g := w7.heap.size + 1 + 1) HL.out (.cells #[.slice A7 (flatT tZ).nodes.length c7, .int .i64 (flatT tZ).root] 34) (by simp))
  replace K1 := Lib.hid (TB.boxN (g := w7.heap.size + 1 + 1) K1.out (.cells #[.slice A7 (flatT tZ).nodes.length c7, .int .i64 (flatT tZ).root] 34) (by simp))
  replace K2 := Lib.hid (TB.boxN (g := w7.heap.size + 1 + 1) K2.out (.cells #[.slice A7 (flatT tZ).nodes.length c7, .int .i64 (flatT tZ).root] 34) (by simp))
  replace K3 := Lib.hid (TB.boxN (g := w7.heap.size + 1 + 1) K3.out (.cells #[.slice A7 (flatT tZ).nodes.length c7, .int .i64 (flatT tZ).root] 34) (by simp))
  refine Calls.mono (text_f (s := [97]) (by decide) HL.out HX.out.etA) ?_
  rintro e w8 ⟨A8, c8, rfl, V8, B8⟩
  replace HE := Lib.hid (HE.out.below B8.out)
  replace HL := Lib.hid (HL.out.below B8.out)
  replace K1 := Lib.hid (K1.out.below B8.out)
  replace K2 := Lib.hid (K2.out.below B8.out)
  replace K3 := Lib.hid (K3.out.below B8.out)
  replace K4 := Lib.hid (K4.out.below B8.out)
  go_wp2_with fail
  refine Calls.mono (leaf_f HL.out (Empty_g _) HX.out.etE) ?_
  rintro e w9 ⟨A9, c9, rfl, V9, B9⟩
  replace HE := Lib.hid (HE.out.below B9.out)
  replace HL := Lib.hid (HL.out.below B9.out)
  replace K1 := Lib.hid (K1.out.below B9.out)
  replace K2 := Lib.hid (K2.out.below B9.out)
  replace K3 := Lib.hid (K3.out.below B9.out)
  replace K4 := Lib.hid (K4.out.below B9.out)
  replace V8 := Lib.hid (V8.out.below B9.out)
  go_wp2_with fail
  refine Calls.mono (text_f (s := [98]) (by decide) HL.out HX.out.etB) ?_
  rintro e w10 ⟨A10, c10, rfl, V10, B10⟩
  replace HE := Lib.hid (HE.out.below B10.out)
  replace HL := Lib.hid (HL.out.below B10.out)
  replace K1 := Lib.hid (K1.out.below B10.out)
  replace K2 := Lib.hid (K2.out.below B10.out)
  replace K3 := Lib.hid (K3.out.below B10.out)
  replace K4 := Lib.hid (K4.out.below B10.out)
  replace V8 := Lib.hid (V8.out.below B10.out)
  replace V9 := Lib.hid (V9.out.below B10.out)
  go_wp2_with fail
  refine Calls.mono (text_f (s := [99]) (by decide) HL.out HX.out.etC) ?_
  rintro e w11 ⟨A11, c11, rfl, V11, B11⟩
  replace HE := Lib.hid (HE.out.below B11.out)
  replace HL := Lib.hid (HL.out.below B11.out)
  replace K1 := Lib.hid (K1.out.below B11.out)
  replace K2 := Lib.hid (K2.out.below B11.out)
  replace K3 := Lib.hid (K3.out.below B11.out)
  replace K4 := Lib.hid (K4.out.below B11.out)
  replace V8 := Lib.hid (V8.out.below B11.out)
  replace V9 := Lib.hid (V9.out.below B11.out)
  replace V10 := Lib.hid (V10.out.below B11.out)
  go_wp2_with fail
  refine Calls.mono (of2_f (by decide) HE.out HL.out V10.out V11.out HX.out.stB HX.out.stC (by decide) HX.out.mtBC rfl) ?_
  rintro e w12 ⟨A12, c12, rfl, V12, B12⟩
  replace HE := Lib.hid (HE.out.below B12.out)
  replace HL := Lib.hid (HL.out.below B12.out)
  replace K1 := Lib.hid (K1.out.below B12.out)
  replace K2 := Lib.hid (K2.out.below B12.out)
  replace K3 := Lib.hid (K3.out.below B12.out)
  replace K4 := Lib.hid (K4.out.below B12.out)
  replace V8 := Lib.hid (V8.out.below B12.out)
  replace V9 := Lib.hid (V9.out.below B12.out)
  replace V10 := Lib.hid (V10.out.below B12.out)
  replace V11 := Lib.hid (V11.out.below B12.out)
  go_wp2_with fail
  refine Calls.mono (seq3_f HE.out HL.out V8.out V9.out V12.out HX.out.stA HX.out.stE HX.out.stBC HX.out.c5 rfl) ?_
  rintro e w13 ⟨A13, c13, rfl, V13, B13⟩
  replace HE := Lib.hid (HE.out.below B13.out)
  replace HL := Lib.hid (HL.out.below B13.out)
  replace K1 := Lib.hid (K1.out.below B13.out)
  replace K2 := Lib.hid (K2.out.below B13.out)
  replace K3 := Lib.hid (K3.out.below B13.out)
  replace K4 := Lib.hid (K4.out.below B13.out)
  replace V8 := Lib.hid (V8.out.below B13.out)
  replace V9 := Lib.hid (V9.out.below B13.out)
  replace V10 := Lib.hid (V10.out.below B13.out)
  replace V11 := Lib.hid (V11.out.below B13.out)
  replace V12 := Lib.hid (V12.out.below B13.out)
  have K5 := Lib.hid (TB.newN (g := w13.heap.size) V13.out rfl)
  replace HE := Lib.hid (HE.out.alloc (.cells #[.slice A13 (flatT tABC).nodes.length c13, .int .i64 (flatT tABC).root] 34))
  replace HL := Lib.hid (BL.boxN (g := w13.heap.size) HL.out (.cells #[.slice A13 (flatT tABC).nodes.length c13, .int .i64 (flatT tABC).root] 34) rfl)
  replace K1 := Lib.hid (TB.boxN (g := w13.heap.size) K1.out (.cells #[.slice A13 (flatT tABC).nodes.length c13, .int .i64 (flatT tABC).root] 34) rfl)
  replace K2 := Lib.hid (TB.boxN (g := w13.heap.size) K2.out (.cells #[.slice A13 (flatT tABC).nodes.length c13, .int .i64 (flatT tABC).root] 34) rfl)
  replace K3 := Lib.hid (TB.boxN (g := w13.heap.size) K3.out (.cells #[.slice A13 (flatT tABC).nodes.length c13, .int .i64 (flatT tABC).root] 34) rfl)
  replace K4 := Lib.hid (TB.boxN (g := w13.heap.size) K4.out (.cells #[.slice A13 (flatT tABC).nodes.length c13, .int .i64 (flatT tABC).root] 34) rfl)
  go_wp2_with fail
  refine Calls.mono (seq0_f HE.out HL.out HX.out.c6) ?_
  rintro e w14 ⟨A14, c14, rfl, V14, B14⟩
  replace HE := Lib.hid (HE.out.below B14.out)
  replace HL := Lib.hid (HL.out.below B14.out)
  replace K1 := Lib.hid (K1.out.below B14.out)
  replace K2 := Lib.hid (K2.out.below B14.out)
  replace K3 := Lib.hid (K3.out.below B14.out)
  replace K4 := Lib.hid (K4.out.below B14.out)
  replace K5 := Lib.hid (K5.out.below B14.out)
  have K7 := Lib.hid (TB.newN (g := w14.heap.size) V14.out rfl)
  replace HE := Lib.hid (HE.out.alloc (.cells #[.slice A14 (flatT tE).nodes.length c14, .int .i64 (flatT tE).root] 34))
  replace HL := Lib.hid (BL.boxN (g := w14.heap.size) HL.out (.cells #[.slice A14 (flatT tE).nodes.length c14, .int .i64 (flatT tE).root] 34) rfl)
  replace K1 := Lib.hid (TB.boxN (g := w14.heap.size) K1.out (.cells #[.slice A14 (flatT tE).nodes.length c14, .int .i64 (flatT tE).root] 34) rfl)
  replace K2 := Lib.hid (TB.boxN (g := w14.heap.size) K2.out (.cells #[.slice A14 (flatT tE).nodes.length c14, .int .i64 (flatT tE).root] 34) rfl)
  replace K3 := Lib.hid (TB.boxN (g := w14.heap.size) K3.out (.cells #[.slice A14 (flatT tE).nodes.length c14, .int .i64 (flatT tE).root] 34) rfl)
  replace K4 := Lib.hid (TB.boxN (g := w14.heap.size) K4.out (.cells #[.slice A14 (flatT tE).nodes.length c14, .int .i64 (flatT tE).root] 34) rfl)
  replace K5 := Lib.hid (TB.boxN (g := w14.heap.size) K5.out (.cells #[.slice A14 (flatT tE).nodes.length c14, .int .i64 (flatT tE).root] 34) rfl)
  go_wp2_with fail
  refine Calls.mono (leaf_f HL.out (Empty_g _) HX.out.etE) ?_
  rintro e w15 ⟨A15, c15, rfl, V15, B15⟩
  replace HE := Lib.hid (HE.out.below B15.out)
  replace HL := Lib.hid (HL.out.below B15.out)
  replace K1 := Lib.hid (K1.out.below B15.out)
  replace K2 := Lib.hid (K2.out.below B15.out)
  replace K3 := Lib.hid (K3.out.below B15.out)
  replace K4 := Lib.hid (K4.out.below B15.out)
  replace K5 := Lib.hid (K5.out.below B15.out)
  replace K7 := Lib.hid (K7.out.below B15.out)
  go_wp2_with fail
  refine Calls.mono (seq1_f HE.out HL.out V15.out HX.out.stE HX.out.c7 rfl) ?_
  rintro e w16 ⟨A16, c16, rfl, V16, B16⟩
  replace HE := Lib.hid (HE.out.below B16.out)
  replace HL := Lib.hid (HL.out.below B16.out)
  replace K1 := Lib.hid (K1.out.below B16.out)
  replace K2 := Lib.hid (K2.out.below B16.out)
  replace K3 := Lib.hid (K3.out.below B16.out)
  replace K4 := Lib.hid (K4.out.below B16.out)
  replace K5 := Lib.hid (K5.out.below B16.out)
  replace K7 := Lib.hid (K7.out.below B16.out)
  replace V15 := Lib.hid (V15.out.below B16.out)
  have K9 := Lib.hid (TB.newN (g := w16.heap.size) V16.out rfl)
  replace HE := Lib.hid (HE.out.alloc (.cells #[.slice A16 (flatT tE).nodes.length c16, .int .i64 (flatT tE).root] 34))
  replace HL := Lib.hid (BL.boxN (g := w16.heap.size) HL.out (.cells #[.slice A16 (flatT tE).nodes.length c16, .int .i64 (flatT tE).root] 34) rfl)
  replace K1 := Lib.hid (TB.boxN (g := w16.heap.size) K1.out (.cells #[.slice A16 (flatT tE).nodes.length c16, .int .i64 (flatT tE).root] 34) rfl)
  replace K2 := Lib.hid (TB.boxN (g := w16.heap.size) K2.out (.cells #[.slice A16 (flatT tE).nodes.length c16, .int .i64 (flatT tE).root] 34) rfl)
  replace K3 := Lib.hid (TB.boxN (g := w16.heap.size) K3.out (.cells #[.slice A16 (flatT tE).nodes.length c16, .int .i64 (flatT tE).root] 34) rfl)
  replace K4 := Lib.hid (TB.boxN (g := w16.heap.size) K4.out (.cells #[.slice A16 (flatT tE).nodes.length c16, .int .i64 (flatT tE).root] 34) rfl)
  replace K5 := Lib.hid (TB.boxN (g := w16.heap.size) K5.out (.cells #[.slice A16 (flatT tE).nodes.length c16, .int .i64 (flatT tE).root] 34) rfl)
  replace K7 := Lib.hid (TB.boxN (g := w16.heap.size) K7.out (.cells #[.slice A16 (flatT tE).nodes.length c16, .int .i64 (flatT tE).root] 34) rfl)
  go_wp2_with fail
  obtain ⟨wr, hwr⟩ : ∃ wr, wr = w16.alloc (.cells #[.slice A16 (flatT tE).nodes.length c16, .int .i64 (flatT tE).root] 34) := ⟨_, rfl⟩
  rw [← hwr] at HE HL K1 K2 K3 K4 K5 K7 K9 ⊢
  clear hwr
  have HC2 : Hid (∀ wx, Below wr.heap.size wr wx → wx.cell? ⟨w7.heap.size, 0, none⟩ = some (.slice A5 (flatT tX).nodes.length c5) ∧ wx.cell? ⟨w7.heap.size, 1, none⟩ = some (.int .i64 (flatT tX).root)) := Lib.hid fun wx hx => ⟨(K2.out.blk.below hx K2.out.blk.lt).cell 0, (K2.out.blk.below hx K2.out.blk.lt).cell 1⟩
  have HC3 : Hid (∀ wx, Below wr.heap.size wr wx → wx.cell? ⟨w7.heap.size + 1, 0, none⟩ = some (.slice A6 (flatT tY).nodes.length c6) ∧ wx.cell? ⟨w7.heap.size + 1, 1, none⟩ = some (.int .i64 (flatT tY).root)) := Lib.hid fun wx hx => ⟨(K3.out.blk.below hx K3.out.blk.lt).cell 0, (K3.out.blk.below hx K3.out.blk.lt).cell 1⟩
  have HC4 : Hid (∀ wx, Below wr.heap.size wr wx → wx.cell? ⟨w7.heap.size + 1 + 1, 0, none⟩ = some (.slice A7 (flatT tZ).nodes.length c7) ∧ wx.cell? ⟨w7.heap.size + 1 + 1, 1, none⟩ = some (.int .i64 (flatT tZ).root)) := Lib.hid fun wx hx => ⟨(K4.out.blk.below hx K4.out.blk.lt).cell 0, (K4.out.blk.below hx K4.out.blk.lt).cell 1⟩
  refine wp_region_inv (G := BG) BG.none_ (BE TT ZT) (BN [.other, .other, .other, .other, .other, .other, .other, .other, .other, .other, .box, .store 10, .other])
    [fun v _ => v = .agg #[.slice A5 (flatT tX).nodes.length c5, .int .i64 (flatT tX).root], fun v _ => v = .agg #[.slice A6 (flatT tY).nodes.length c6, .int .i64 (flatT tY).root], RFreeL [flatT tX, flatT tY], RG wr.heap.size (flatT tXY), fun v _ => v = .agg #[.slice A7 (flatT tZ).nodes.length c7, .int .i64 (flatT tZ).root], RFreeL [flatT tXY, flatT tZ], fun v s => ∃ u, v = .tuple #[u, .bool true] ∧ RG wr.heap.size (flatT tXYZ) u s, fun v s => ∃ u, v = .tuple #[u, .bool true] ∧ RG wr.heap.size (flatT tXYZ) u s, RG wr.heap.size (flatT tXYZ), fun v _ => v = .bool true, RBox 10, RFillG 10 wr.heap.size (flatT tXYZ), fun v _ => v = .bool true]
    (by kernel_rfl) (fun _ _ _ => BE.trans) (BE.refl _) (by kernel_rfl) (by kernel_rfl) (BN.none_ _) ?rstq6 ?rstepsq6 ?rfinq6
  case rstq6 =>
    intro R hR v s s' _ h hr
    simp only [List.mem_cons, List.not_mem_nil, or_false] at hR
    rcases hR with rfl | rfl | rfl | rfl | rfl | rfl | rfl | rfl | rfl | rfl | rfl | rfl | rfl
    · exact hr
    · exact hr
    · exact hr.keep h
    · exact hr.keep h
    · exact hr
    · exact hr.keep h
    · exact hr.imp fun _ h' => ⟨h'.1, h'.2.keep h⟩
    · exact hr.imp fun _ h' => ⟨h'.1, h'.2.keep h⟩
    · exact hr.keep h
    · exact hr
    · exact hr.keep h
    · exact hr.keep h
    · exact hr
  case rstepsq6 =>
    refine ⟨?_, ?_, ?_, ?_, ?_, ?_, ?_, ?_, ?_, ?_, ?_, ?_, ?_, trivial⟩
    · intro a γ wx hB hE hN hW K hK
      have hw := hE.below_drew
      have h2 : a.tmps[2]? = some (.pointer (some ⟨w7.heap.size, 0, none⟩)) := (hB.at_ 2 (of_decide_eq_true (by kernel_rfl))).trans rfl
      have hc := HC2.out _ hw
      clear hB hN hE
      go_simp
      exact hK (.agg #[.slice A5 (flatT tX).nodes.length c5, .int .i64 (flatT tX).root]) γ _ (BE.refl _) (fun _ _ h => h) rfl
    · intro a γ wx hB hE hN hW K hK
      have hw := hE.below_drew
      have h3 : a.tmps[3]? = some (.pointer (some ⟨w7.heap.size + 1, 0, none⟩)) := (hB.at_ 3 (of_decide_eq_true (by kernel_rfl))).trans rfl
      have hc := HC3.out _ hw
      clear hB hN hE
      go_simp
      exact hK (.agg #[.slice A6 (flatT tY).nodes.length c6, .int .i64 (flatT tY).root]) γ _ (BE.refl _) (fun _ _ h => h) rfl
    · intro a γ wx hB hE hN hW K hK
      have hw := hE.below_drew
      obtain ⟨⟨_, h57, rfl⟩, ⟨_, h58, rfl⟩, -⟩ := hW
      have hok := hE.boxes
      have h2 := RFreeT.old hE K2.out.tree
      have h3 := RFreeT.old hE K3.out.tree
      clear hB hN hE
      go_simp
      exact hK _ γ _ (BE.call ((Below.refl _ _).alloc (Nat.le_refl _) _)) (fun _ _ h => h) (RFreeL.new2 hok h2 h3)
    · intro a γ wx hB hE hN hW K hK
      have hw := hE.below_drew
      obtain ⟨⟨v59, h59, r59⟩, -⟩ := hW
      have hok := hE.boxes
      clear hB hN hE
      go_simp
      refine (ofL_x (L := [tX, tY]) (by decide) (HE.out.below hw) r59.read (by simp [HX.out.stX, HX.out.stY]) (by simp) (show fits (kindD 5) ((2 : Nat) : Int) = true by decide) HX.out.mtXY).mono ?_
      rintro e w' ⟨u, rfl, hu, hbb⟩
      exact hK _ γ _ (BE.call hbb) (fun _ _ h => h) (RG.x hu hw.size hok)
    · intro a γ wx hB hE hN hW K hK
      have hw := hE.below_drew
      have h4 : a.tmps[4]? = some (.pointer (some ⟨w7.heap.size + 1 + 1, 0, none⟩)) := (hB.at_ 4 (of_decide_eq_true (by kernel_rfl))).trans rfl
      have hc := HC4.out _ hw
      clear hB hN hE
      go_simp
      exact hK (.agg #[.slice A7 (flatT tZ).nodes.length c7, .int .i64 (flatT tZ).root]) γ _ (BE.refl _) (fun _ _ h => h) rfl
    · intro a γ wx hB hE hN hW K hK
      have hw := hE.below_drew
      obtain ⟨⟨v60, h60, r60⟩, ⟨_, h61, rfl⟩, -⟩ := hW
      have hok := hE.boxes
      obtain ⟨A60, n60, c60, rfl⟩ := r60.agg
      have h6 := r60.free
      have h4 := RFreeT.old hE K4.out.tree
      clear hB hN hE
      go_simp
      exact hK _ γ _ (BE.call ((Below.refl _ _).alloc (Nat.le_refl _) _)) (fun _ _ h => h) (RFreeL.new2 hok h6 h4)
    · intro a γ wx hB hE hN hW K hK
      have hw := hE.below_drew
      obtain ⟨⟨v62, h62, r62⟩, -⟩ := hW
      have hok := hE.boxes
      clear hB hN hE
      go_simp
      refine (choiceL_f (L := [tXY, tZ]) (HE.out.below hw) r62.read (by simp [HX.out.stXY, HX.out.stZ]) (by simp) HX.out.c8).mono ?_
      rintro e w' ⟨u, rfl, hu, hbb⟩
      exact hK _ γ _ (BE.call hbb) (fun _ _ h => h) ⟨u, rfl, RG.x hu hw.size hok⟩
    · intro a γ wx hB hE hN hW K hK
      have hw := hE.below_drew
      obtain ⟨⟨v63, h63, ⟨u63, rfl, r63⟩⟩, -⟩ := hW
      clear hB hN hE
      go_simp
      exact hK (_) γ _ (BE.refl _) (fun _ _ h => h) ⟨u63, rfl, r63⟩
    · intro a γ wx hB hE hN hW K hK
      have hw := hE.below_drew
      obtain ⟨⟨v56, h56, ⟨u56, rfl, r56⟩⟩, -⟩ := hW
      clear hB hN hE
      go_simp
      exact hK (_) γ _ (BE.refl _) (fun _ _ h => h) r56
    · intro a γ wx hB hE hN hW K hK
      have hw := hE.below_drew
      obtain ⟨⟨v56, h56, ⟨u56, rfl, r56⟩⟩, -⟩ := hW
      clear hB hN hE
      go_simp
      exact hK (.bool true) γ _ (BE.refl _) (fun _ _ h => h) rfl
    · intro a γ wx hB hE hN hW K hK
      have hw := hE.below_drew
      clear hB hE
      go_simp
      exact hK _ _ _ (BE.alloc (i := 10) hN) BN.alloc RBox.made
    · intro a γ wx hB hE hN hW K hK
      have hw := hE.below_drew
      obtain ⟨⟨v11, h11, r11⟩, ⟨v64, h64, r64⟩, -⟩ := hW
      obtain ⟨gb, A, n, c, γ', rfl, rfl, c0, c1, f0, f1, hS, hN', hF⟩ := fill_boxG hE hN r11 r64
      clear hB hE
      go_simp
      exact hK undef γ' _ hS (hN' _ _ (by kernel_rfl)) hF
    · intro a γ wx hB hE hN hW K hK
      have hw := hE.below_drew
      obtain ⟨⟨_, h65, rfl⟩, -⟩ := hW
      clear hB hN hE
      go_simp
      exact hK (.bool true) γ _ (BE.refl _) (fun _ _ h => h) rfl
  intro a' γ wt hB hE hK
  obtain ⟨_, h57, rfl⟩ := hK 0 (of_decide_eq_true (by kernel_rfl))
  obtain ⟨_, h58, rfl⟩ := hK 1 (of_decide_eq_true (by kernel_rfl))
  obtain ⟨v59, h59, r59⟩ := hK 2 (of_decide_eq_true (by kernel_rfl))
  obtain ⟨v60, h60, r60⟩ := hK 3 (of_decide_eq_true (by kernel_rfl))
  obtain ⟨_, h61, rfl⟩ := hK 4 (of_decide_eq_true (by kernel_rfl))
  obtain ⟨v62, h62, r62⟩ := hK 5 (of_decide_eq_true (by kernel_rfl))
  obtain ⟨v63, h63, ⟨u63, rfl, r63⟩⟩ := hK 6 (of_decide_eq_true (by kernel_rfl))
  obtain ⟨v56, h56, ⟨u56, rfl, r56⟩⟩ := hK 7 (of_decide_eq_true (by kernel_rfl))
  obtain ⟨v64, h64, r64⟩ := hK 8 (of_decide_eq_true (by kernel_rfl))
  obtain ⟨_, h65, rfl⟩ := hK 9 (of_decide_eq_true (by kernel_rfl))
  obtain ⟨v11, h11, r11⟩ := hK 10 (of_decide_eq_true (by kernel_rfl))
  obtain ⟨_, r_11⟩ := hK 11 (of_decide_eq_true (by kernel_rfl))
  obtain ⟨_, h12, rfl⟩ := hK 12 (of_decide_eq_true (by kernel_rfl))
  have ha := hB.eq [(57, .agg #[.slice A5 (flatT tX).nodes.length c5, .int .i64 (flatT tX).root]), (58, .agg #[.slice A6 (flatT tY).nodes.length c6, .int .i64 (flatT tY).root]), (59, v59), (60, v60), (61, .agg #[.slice A7 (flatT tZ).nodes.length c7, .int .i64 (flatT tZ).root]), (62, v62), (63, .tuple #[u63, .bool true]), (56, .tuple #[u56, .bool true]), (64, v64), (65, .bool true), (11, v11), (12, .bool true)] rfl (by kernel_rfl) ⟨h57, h58, h59, h60, h61, h62, h63, h56, h64, h65, h11, h12, trivial⟩
  subst ha
  have hw := hE.below_drew
  clear hK hB h57 h58 h59 h60 h61 h62 h63 h56 h64 h65 h11 h12
  simp only [putAll, List.foldl_cons, List.foldl_nil, List.setIfInBounds_toArray, List.set_cons_succ, List.set_cons_zero]
  obtain ⟨g11, A11, c11, rfl, hg11, HL11, K11⟩ := box_tb (u := undef) hE r11 r_11 HL.out
  replace HL := HL11
  replace HE := Lib.hid (HE.out.below hw)
  replace K1 := Lib.hid ((K1.out.cons hg11).below hw)
  replace K2 := Lib.hid ((K2.out.cons hg11).below hw)
  replace K3 := Lib.hid ((K3.out.cons hg11).below hw)
  replace K4 := Lib.hid ((K4.out.cons hg11).below hw)
  replace K5 := Lib.hid ((K5.out.cons hg11).below hw)
  replace K7 := Lib.hid ((K7.out.cons hg11).below hw)
  replace K9 := Lib.hid ((K9.out.cons hg11).below hw)
  clear hE hw r59 r60 r62 r63 r56 r64 r11 r_11 HL11 hg11 HC2 HC3 HC4
  go_wp2_with fail
  refine Calls.mono (choice0_f HE.out HL.out HX.out.c9) ?_
  rintro e w17 ⟨A17, c17, rfl, V17, B17⟩
  replace HE := Lib.hid (HE.out.below B17.out)
  replace HL := Lib.hid (HL.out.below B17.out)
  replace K1 := Lib.hid (K1.out.below B17.out)
  replace K2 := Lib.hid (K2.out.below B17.out)
  replace K3 := Lib.hid (K3.out.below B17.out)
  replace K4 := Lib.hid (K4.out.below B17.out)
  replace K5 := Lib.hid (K5.out.below B17.out)
  replace K7 := Lib.hid (K7.out.below B17.out)
  replace K9 := Lib.hid (K9.out.below B17.out)
  replace K11 := Lib.hid (K11.out.below B17.out)
  have K13 := Lib.hid (TB.newN (g := w17.heap.size) V17.out rfl)
  replace HE := Lib.hid (HE.out.alloc (.cells #[.slice A17 (flatT tN).nodes.length c17, .int .i64 (flatT tN).root] 34))
  replace HL := Lib.hid (BL.boxN (g := w17.heap.size) HL.out (.cells #[.slice A17 (flatT tN).nodes.length c17, .int .i64 (flatT tN).root] 34) rfl)
  replace K1 := Lib.hid (TB.boxN (g := w17.heap.size) K1.out (.cells #[.slice A17 (flatT tN).nodes.length c17, .int .i64 (flatT tN).root] 34) rfl)
  replace K2 := Lib.hid (TB.boxN (g := w17.heap.size) K2.out (.cells #[.slice A17 (flatT tN).nodes.length c17, .int .i64 (flatT tN).root] 34) rfl)
  replace K3 := Lib.hid (TB.boxN (g := w17.heap.size) K3.out (.cells #[.slice A17 (flatT tN).nodes.length c17, .int .i64 (flatT tN).root] 34) rfl)
  replace K4 := Lib.hid (TB.boxN (g := w17.heap.size) K4.out (.cells #[.slice A17 (flatT tN).nodes.length c17, .int .i64 (flatT tN).root] 34) rfl)
  replace K5 := Lib.hid (TB.boxN (g := w17.heap.size) K5.out (.cells #[.slice A17 (flatT tN).nodes.length c17, .int .i64 (flatT tN).root] 34) rfl)
  replace K7 := Lib.hid (TB.boxN (g := w17.heap.size) K7.out (.cells #[.slice A17 (flatT tN).nodes.length c17, .int .i64 (flatT tN).root] 34) rfl)
  replace K9 := Lib.hid (TB.boxN (g := w17.heap.size) K9.out (.cells #[.slice A17 (flatT tN).nodes.length c17, .int .i64 (flatT tN).root] 34) rfl)
  replace K11 := Lib.hid (TB.boxN (g := w17.heap.size) K11.out (.cells #[.slice A17 (flatT tN).nodes.length c17, .int .i64 (flatT tN).root] 34) rfl)
  have d10 : (w17.alloc (.cells #[.slice A17 (flatT tN).nodes.length c17, .int .i64 (flatT tN).root] 34)).cell? ⟨w4.heap.size, 0, none⟩ = some (.slice A4 (flatT tABC).nodes.length c4) := K1.out.blk.cell 0
  have d11 : (w17.alloc (.cells #[.slice A17 (flatT tN).nodes.length c17, .int .i64 (flatT tN).root] 34)).cell? ⟨w4.heap.size, 1, none⟩ = some (.int .i64 (flatT tABC).root) := K1.out.blk.cell 1
  go_wp2_with fail
  clear d10 d11
  refine Calls.mono (head_f HE.out HL.out K1.out.tree HX.out.stABC HX.out.h1.1 HX.out.h1.2) ?_
  rintro e w18 ⟨A18, c18, rfl, V18, B18⟩
  replace HE := Lib.hid (HE.out.below B18.out)
  replace HL := Lib.hid (HL.out.below B18.out)
  replace K1 := Lib.hid (K1.out.below B18.out)
  replace K2 := Lib.hid (K2.out.below B18.out)
  replace K3 := Lib.hid (K3.out.below B18.out)
  replace K4 := Lib.hid (K4.out.below B18.out)
  replace K5 := Lib.hid (K5.out.below B18.out)
  replace K7 := Lib.hid (K7.out.below B18.out)
  replace K9 := Lib.hid (K9.out.below B18.out)
  replace K11 := Lib.hid (K11.out.below B18.out)
  replace K13 := Lib.hid (K13.out.below B18.out)
  have K15 := Lib.hid (TB.newN (g := w18.heap.size) V18.out rfl)
  replace HE := Lib.hid (HE.out.alloc (.cells #[.slice A18 (flatT tA).nodes.length c18, .int .i64 (flatT tA).root] 34))
  replace HL := Lib.hid (BL.boxN (g := w18.heap.size) HL.out (.cells #[.slice A18 (flatT tA).nodes.length c18, .int .i64 (flatT tA).root] 34) rfl)
  replace K1 := Lib.hid (TB.boxN (g := w18.heap.size) K1.out (.cells #[.slice A18 (flatT tA).nodes.length c18, .int .i64 (flatT tA).root] 34) rfl)
  replace K2 := Lib.hid (TB.boxN (g := w18.heap.size) K2.out (.cells #[.slice A18 (flatT tA).nodes.length c18, .int .i64 (flatT tA).root] 34) rfl)
  replace K3 := Lib.hid (TB.boxN (g := w18.heap.size) K3.out (.cells #[.slice A18 (flatT tA).nodes.length c18, .int .i64 (flatT tA).root] 34) rfl)
  replace K4 := Lib.hid (TB.boxN (g := w18.heap.size) K4.out (.cells #[.slice A18 (flatT tA).nodes.length c18, .int .i64 (flatT tA).root] 34) rfl)
  replace K5 := Lib.hid (TB.boxN (g := w18.heap.size) K5.out (.cells #[.slice A18 (flatT tA).nodes.length c18, .int .i64 (flatT tA).root] 34) rfl)
  replace K7 := Lib.hid (TB.boxN (g := w18.heap.size) K7.out (.cells #[.slice A18 (flatT tA).nodes.length c18, .int .i64 (flatT tA).root] 34) rfl)
  replace K9 := Lib.hid (TB.boxN (g := w18.heap.size) K9.out (.cells #[.slice A18 (flatT tA).nodes.length c18, .int .i64 (flatT tA).root] 34) rfl)
  replace K11 := Lib.hid (TB.boxN (g := w18.heap.size) K11.out (.cells #[.slice A18 (flatT tA).nodes.length c18, .int .i64 (flatT tA).root] 34) rfl)
  replace K13 := Lib.hid (TB.boxN (g := w18.heap.size) K13.out (.cells #[.slice A18 (flatT tA).nodes.length c18, .int .i64 (flatT tA).root] 34) rfl)
  have d10 : (w18.alloc (.cells #[.slice A18 (flatT tA).nodes.length c18, .int .i64 (flatT tA).root] 34)).cell? ⟨w4.heap.size, 0, none⟩ = some (.slice A4 (flatT tABC).nodes.length c4) := K1.out.blk.cell 0
  have d11 : (w18.alloc (.cells #[.slice A18 (flatT tA).nodes.length c18, .int .i64 (flatT tA).root] 34)).cell? ⟨w4.heap.size, 1, none⟩ = some (.int .i64 (flatT tABC).root) := K1.out.blk.cell 1
  go_wp2_with fail
  clear d10 d11
  refine Calls.mono (tail_f HE.out HL.out K1.out.tree HX.out.stABC HX.out.h2.1 HX.out.h2.2) ?_
  rintro e w19 ⟨A19, c19, rfl, V19, B19⟩
  replace HE := Lib.hid (HE.out.below B19.out)
  replace HL := Lib.hid (HL.out.below B19.out)
  replace K1 := Lib.hid (K1.out.below B19.out)
  replace K2 := Lib.hid (K2.out.below B19.out)
  replace K3 := Lib.hid (K3.out.below B19.out)
  replace K4 := Lib.hid (K4.out.below B19.out)
  replace K5 := Lib.hid (K5.out.below B19.out)
  replace K7 := Lib.hid (K7.out.below B19.out)
  replace K9 := Lib.hid (K9.out.below B19.out)
  replace K11 := Lib.hid (K11.out.below B19.out)
  replace K13 := Lib.hid (K13.out.below B19.out)
  replace K15 := Lib.hid (K15.out.below B19.out)
  have K17 := Lib.hid (TB.newN (g := w19.heap.size) V19.out rfl)
  replace HE := Lib.hid (HE.out.alloc (.cells #[.slice A19 (flatT tBC).nodes.length c19, .int .i64 (flatT tBC).root] 34))
  replace HL := Lib.hid (BL.boxN (g := w19.heap.size) HL.out (.cells #[.slice A19 (flatT tBC).nodes.length c19, .int .i64 (flatT tBC).root] 34) rfl)
  replace K1 := Lib.hid (TB.boxN (g := w19.heap.size) K1.out (.cells #[.slice A19 (flatT tBC).nodes.length c19, .int .i64 (flatT tBC).root] 34) rfl)
  replace K2 := Lib.hid (TB.boxN (g := w19.heap.size) K2.out (.cells #[.slice A19 (flatT tBC).nodes.length c19, .int .i64 (flatT tBC).root] 34) rfl)
  replace K3 := Lib.hid (TB.boxN (g := w19.heap.size) K3.out (.cells #[.slice A19 (flatT tBC).nodes.length c19, .int .i64 (flatT tBC).root] 34) rfl)
  replace K4 := Lib.hid (TB.boxN (g := w19.heap.size) K4.out (.cells #[.slice A19 (flatT tBC).nodes.length c19, .int .i64 (flatT tBC).root] 34) rfl)
  replace K5 := Lib.hid (TB.boxN (g := w19.heap.size) K5.out (.cells #[.slice A19 (flatT tBC).nodes.length c19, .int .i64 (flatT tBC).root] 34) rfl)
  replace K7 := Lib.hid (TB.boxN (g := w19.heap.size) K7.out (.cells #[.slice A19 (flatT tBC).nodes.length c19, .int .i64 (flatT tBC).root] 34) rfl)
  replace K9 := Lib.hid (TB.boxN (g := w19.heap.size) K9.out (.cells #[.slice A19 (flatT tBC).nodes.length c19, .int .i64 (flatT tBC).root] 34) rfl)
  replace K11 := Lib.hid (TB.boxN (g := w19.heap.size) K11.out (.cells #[.slice A19 (flatT tBC).nodes.length c19, .int .i64 (flatT tBC).root] 34) rfl)
  replace K13 := Lib.hid (TB.boxN (g := w19.heap.size) K13.out (.cells #[.slice A19 (flatT tBC).nodes.length c19, .int .i64 (flatT tBC).root] 34) rfl)
  replace K15 := Lib.hid (TB.boxN (g := w19.heap.size) K15.out (.cells #[.slice A19 (flatT tBC).nodes.length c19, .int .i64 (flatT tBC).root] 34) rfl)
  have d20 : (w19.alloc (.cells #[.slice A19 (flatT tBC).nodes.length c19, .int .i64 (flatT tBC).root] 34)).cell? ⟨w7.heap.size, 0, none⟩ = some (.slice A5 (flatT tX).nodes.length c5) := K2.out.blk.cell 0
  have d21 : (w19.alloc (.cells #[.slice A19 (flatT tBC).nodes.length c19, .int .i64 (flatT tBC).root] 34)).cell? ⟨w7.heap.size, 1, none⟩ = some (.int .i64 (flatT tX).root) := K2.out.blk.cell 1
  go_wp2_with fail
  clear d20 d21
  refine Calls.mono (rep_f (by decide) (by decide) HE.out HL.out K2.out.tree HX.out.stX (by decide) HX.out.mtR) ?_
  rintro e w20 ⟨A20, c20, rfl, V20, B20⟩
  replace HE := Lib.hid (HE.out.below B20.out)
  replace HL := Lib.hid (HL.out.below B20.out)
  replace K1 := Lib.hid (K1.out.below B20.out)
  replace K2 := Lib.hid (K2.out.below B20.out)
  replace K3 := Lib.hid (K3.out.below B20.out)
  replace K4 := Lib.hid (K4.out.below B20.out)
  replace K5 := Lib.hid (K5.out.below B20.out)
  replace K7 := Lib.hid (K7.out.below B20.out)
  replace K9 := Lib.hid (K9.out.below B20.out)
  replace K11 := Lib.hid (K11.out.below B20.out)
  replace K13 := Lib.hid (K13.out.below B20.out)
  replace K15 := Lib.hid (K15.out.below B20.out)
  replace K17 := Lib.hid (K17.out.below B20.out)
  have K19 := Lib.hid (TB.newN (g := w20.heap.size) V20.out rfl)
  replace HE := Lib.hid (HE.out.alloc (.cells #[.slice A20 (flatT tR).nodes.length c20, .int .i64 (flatT tR).root] 34))
  replace HL := Lib.hid (BL.boxN (g := w20.heap.size) HL.out (.cells #[.slice A20 (flatT tR).nodes.length c20, .int .i64 (flatT tR).root] 34) rfl)
  replace K1 := Lib.hid (TB.boxN (g := w20.heap.size) K1.out (.cells #[.slice A20 (flatT tR).nodes.length c20, .int .i64 (flatT tR).root] 34) rfl)
  replace K2 := Lib.hid (TB.boxN (g := w20.heap.size) K2.out (.cells #[.slice A20 (flatT tR).nodes.length c20, .int .i64 (flatT tR).root] 34) rfl)
  replace K3 := Lib.hid (TB.boxN (g := w20.heap.size) K3.out (.cells #[.slice A20 (flatT tR).nodes.length c20, .int .i64 (flatT tR).root] 34) rfl)
  replace K4 := Lib.hid (TB.boxN (g := w20.heap.size) K4.out (.cells #[.slice A20 (flatT tR).nodes.length c20, .int .i64 (flatT tR).root] 34) rfl)
  replace K5 := Lib.hid (TB.boxN (g := w20.heap.size) K5.out (.cells #[.slice A20 (flatT tR).nodes.length c20, .int .i64 (flatT tR).root] 34) rfl)
  replace K7 := Lib.hid (TB.boxN (g := w20.heap.size) K7.out (.cells #[.slice A20 (flatT tR).nodes.length c20, .int .i64 (flatT tR).root] 34) rfl)
  replace K9 := Lib.hid (TB.boxN (g := w20.heap.size) K9.out (.cells #[.slice A20 (flatT tR).nodes.length c20, .int .i64 (flatT tR).root] 34) rfl)
  replace K11 := Lib.hid (TB.boxN (g := w20.heap.size) K11.out (.cells #[.slice A20 (flatT tR).nodes.length c20, .int .i64 (flatT tR).root] 34) rfl)
  replace K13 := Lib.hid (TB.boxN (g := w20.heap.size) K13.out (.cells #[.slice A20 (flatT tR).nodes.length c20, .int .i64 (flatT tR).root] 34) rfl)
  replace K15 := Lib.hid (TB.boxN (g := w20.heap.size) K15.out (.cells #[.slice A20 (flatT tR).nodes.length c20, .int .i64 (flatT tR).root] 34) rfl)
  replace K17 := Lib.hid (TB.boxN (g := w20.heap.size) K17.out (.cells #[.slice A20 (flatT tR).nodes.length c20, .int .i64 (flatT tR).root] 34) rfl)
  have d190 : (w20.alloc (.cells #[.slice A20 (flatT tR).nodes.length c20, .int .i64 (flatT tR).root] 34)).cell? ⟨w20.heap.size, 0, none⟩ = some (.slice A20 (flatT tR).nodes.length c20) := K19.out.blk.cell 0
  have d191 : (w20.alloc (.cells #[.slice A20 (flatT tR).nodes.length c20, .int .i64 (flatT tR).root] 34)).cell? ⟨w20.heap.size, 1, none⟩ = some (.int .i64 (flatT tR).root) := K19.out.blk.cell 1
  go_wp2_with fail
  clear d190 d191
  refine Calls.mono (head_f HE.out HL.out K19.out.tree HX.out.stR HX.out.h3.1 HX.out.h3.2) ?_
  rintro e w21 ⟨A21, c21, rfl, V21, B21⟩
  replace HE := Lib.hid (HE.out.below B21.out)
  replace HL := Lib.hid (HL.out.below B21.out)
  replace K1 := Lib.hid (K1.out.below B21.out)
  replace K2 := Lib.hid (K2.out.below B21.out)
  replace K3 := Lib.hid (K3.out.below B21.out)
  replace K4 := Lib.hid (K4.out.below B21.out)
  replace K5 := Lib.hid (K5.out.below B21.out)
  replace K7 := Lib.hid (K7.out.below B21.out)
  replace K9 := Lib.hid (K9.out.below B21.out)
  replace K11 := Lib.hid (K11.out.below B21.out)
  replace K13 := Lib.hid (K13.out.below B21.out)
  replace K15 := Lib.hid (K15.out.below B21.out)
  replace K17 := Lib.hid (K17.out.below B21.out)
  replace K19 := Lib.hid (K19.out.below B21.out)
  have K21 := Lib.hid (TB.newN (g := w21.heap.size) V21.out rfl)
  replace HE := Lib.hid (HE.out.alloc (.cells #[.slice A21 (flatT tR).nodes.length c21, .int .i64 (flatT tR).root] 34))
  replace HL := Lib.hid (BL.boxN (g := w21.heap.size) HL.out (.cells #[.slice A21 (flatT tR).nodes.length c21, .int .i64 (flatT tR).root] 34) rfl)
  replace K1 := Lib.hid (TB.boxN (g := w21.heap.size) K1.out (.cells #[.slice A21 (flatT tR).nodes.length c21, .int .i64 (flatT tR).root] 34) rfl)
  replace K2 := Lib.hid (TB.boxN (g := w21.heap.size) K2.out (.cells #[.slice A21 (flatT tR).nodes.length c21, .int .i64 (flatT tR).root] 34) rfl)
  replace K3 := Lib.hid (TB.boxN (g := w21.heap.size) K3.out (.cells #[.slice A21 (flatT tR).nodes.length c21, .int .i64 (flatT tR).root] 34) rfl)
  replace K4 := Lib.hid (TB.boxN (g := w21.heap.size) K4.out (.cells #[.slice A21 (flatT tR).nodes.length c21, .int .i64 (flatT tR).root] 34) rfl)
  replace K5 := Lib.hid (TB.boxN (g := w21.heap.size) K5.out (.cells #[.slice A21 (flatT tR).nodes.length c21, .int .i64 (flatT tR).root] 34) rfl)
  replace K7 := Lib.hid (TB.boxN (g := w21.heap.size) K7.out (.cells #[.slice A21 (flatT tR).nodes.length c21, .int .i64 (flatT tR).root] 34) rfl)
  replace K9 := Lib.hid (TB.boxN (g := w21.heap.size) K9.out (.cells #[.slice A21 (flatT tR).nodes.length c21, .int .i64 (flatT tR).root] 34) rfl)
  replace K11 := Lib.hid (TB.boxN (g := w21.heap.size) K11.out (.cells #[.slice A21 (flatT tR).nodes.length c21, .int .i64 (flatT tR).root] 34) rfl)
  replace K13 := Lib.hid (TB.boxN (g := w21.heap.size) K13.out (.cells #[.slice A21 (flatT tR).nodes.length c21, .int .i64 (flatT tR).root] 34) rfl)
  replace K15 := Lib.hid (TB.boxN (g := w21.heap.size) K15.out (.cells #[.slice A21 (flatT tR).nodes.length c21, .int .i64 (flatT tR).root] 34) rfl)
  replace K17 := Lib.hid (TB.boxN (g := w21.heap.size) K17.out (.cells #[.slice A21 (flatT tR).nodes.length c21, .int .i64 (flatT tR).root] 34) rfl)
  replace K19 := Lib.hid (TB.boxN (g := w21.heap.size) K19.out (.cells #[.slice A21 (flatT tR).nodes.length c21, .int .i64 (flatT tR).root] 34) rfl)
  have d190 : (w21.alloc (.cells #[.slice A21 (flatT tR).nodes.length c21, .int .i64 (flatT tR).root] 34)).cell? ⟨w20.heap.size, 0, none⟩ = some (.slice A20 (flatT tR).nodes.length c20) := K19.out.blk.cell 0
  have d191 : (w21.alloc (.cells #[.slice A21 (flatT tR).nodes.length c21, .int .i64 (flatT tR).root] 34)).cell? ⟨w20.heap.size, 1, none⟩ = some (.int .i64 (flatT tR).root) := K19.out.blk.cell 1
  go_wp2_with fail
  clear d190 d191
  refine Calls.mono (tail_f HE.out HL.out K19.out.tree HX.out.stR HX.out.h4.1 HX.out.h4.2) ?_
  rintro e w22 ⟨A22, c22, rfl, V22, B22⟩
  replace HE := Lib.hid (HE.out.below B22.out)
  replace HL := Lib.hid (HL.out.below B22.out)
  replace K1 := Lib.hid (K1.out.below B22.out)
  replace K2 := Lib.hid (K2.out.below B22.out)
  replace K3 := Lib.hid (K3.out.below B22.out)
  replace K4 := Lib.hid (K4.out.below B22.out)
  replace K5 := Lib.hid (K5.out.below B22.out)
  replace K7 := Lib.hid (K7.out.below B22.out)
  replace K9 := Lib.hid (K9.out.below B22.out)
  replace K11 := Lib.hid (K11.out.below B22.out)
  replace K13 := Lib.hid (K13.out.below B22.out)
  replace K15 := Lib.hid (K15.out.below B22.out)
  replace K17 := Lib.hid (K17.out.below B22.out)
  replace K19 := Lib.hid (K19.out.below B22.out)
  replace K21 := Lib.hid (K21.out.below B22.out)
  have K23 := Lib.hid (TB.newN (g := w22.heap.size) V22.out rfl)
  replace HE := Lib.hid (HE.out.alloc (.cells #[.slice A22 (flatT tE).nodes.length c22, .int .i64 (flatT tE).root] 34))
  replace HL := Lib.hid (BL.boxN (g := w22.heap.size) HL.out (.cells #[.slice A22 (flatT tE).nodes.length c22, .int .i64 (flatT tE).root] 34) rfl)
  replace K1 := Lib.hid (TB.boxN (g := w22.heap.size) K1.out (.cells #[.slice A22 (flatT tE).nodes.length c22, .int .i64 (flatT tE).root] 34) rfl)
  replace K2 := Lib.hid (TB.boxN (g := w22.heap.size) K2.out (.cells #[.slice A22 (flatT tE).nodes.length c22, .int .i64 (flatT tE).root] 34) rfl)
  replace K3 := Lib.hid (TB.boxN (g := w22.heap.size) K3.out (.cells #[.slice A22 (flatT tE).nodes.length c22, .int .i64 (flatT tE).root] 34) rfl)
  replace K4 := Lib.hid (TB.boxN (g := w22.heap.size) K4.out (.cells #[.slice A22 (flatT tE).nodes.length c22, .int .i64 (flatT tE).root] 34) rfl)
  replace K5 := Lib.hid (TB.boxN (g := w22.heap.size) K5.out (.cells #[.slice A22 (flatT tE).nodes.length c22, .int .i64 (flatT tE).root] 34) rfl)
  replace K7 := Lib.hid (TB.boxN (g := w22.heap.size) K7.out (.cells #[.slice A22 (flatT tE).nodes.length c22, .int .i64 (flatT tE).root] 34) rfl)
  replace K9 := Lib.hid (TB.boxN (g := w22.heap.size) K9.out (.cells #[.slice A22 (flatT tE).nodes.length c22, .int .i64 (flatT tE).root] 34) rfl)
  replace K11 := Lib.hid (TB.boxN (g := w22.heap.size) K11.out (.cells #[.slice A22 (flatT tE).nodes.length c22, .int .i64 (flatT tE).root] 34) rfl)
  replace K13 := Lib.hid (TB.boxN (g := w22.heap.size) K13.out (.cells #[.slice A22 (flatT tE).nodes.length c22, .int .i64 (flatT tE).root] 34) rfl)
  replace K15 := Lib.hid (TB.boxN (g := w22.heap.size) K15.out (.cells #[.slice A22 (flatT tE).nodes.length c22, .int .i64 (flatT tE).root] 34) rfl)
  replace K17 := Lib.hid (TB.boxN (g := w22.heap.size) K17.out (.cells #[.slice A22 (flatT tE).nodes.length c22, .int .i64 (flatT tE).root] 34) rfl)
  replace K19 := Lib.hid (TB.boxN (g := w22.heap.size) K19.out (.cells #[.slice A22 (flatT tE).nodes.length c22, .int .i64 (flatT tE).root] 34) rfl)
  replace K21 := Lib.hid (TB.boxN (g := w22.heap.size) K21.out (.cells #[.slice A22 (flatT tE).nodes.length c22, .int .i64 (flatT tE).root] 34) rfl)
  have d20 : (w22.alloc (.cells #[.slice A22 (flatT tE).nodes.length c22, .int .i64 (flatT tE).root] 34)).cell? ⟨w7.heap.size, 0, none⟩ = some (.slice A5 (flatT tX).nodes.length c5) := K2.out.blk.cell 0
  have d21 : (w22.alloc (.cells #[.slice A22 (flatT tE).nodes.length c22, .int .i64 (flatT tE).root] 34)).cell? ⟨w7.heap.size, 1, none⟩ = some (.int .i64 (flatT tX).root) := K2.out.blk.cell 1
  go_wp2_with fail
  clear d20 d21
  refine Calls.mono (repno_f (by decide) (by decide) HE.out HL.out K2.out.tree HX.out.stX (by decide)) ?_
  rintro e w23 ⟨A23, c23, x25, rfl, V23, B23⟩
  replace HE := Lib.hid (HE.out.below B23.out)
  replace HL := Lib.hid (HL.out.below B23.out)
  replace K1 := Lib.hid (K1.out.below B23.out)
  replace K2 := Lib.hid (K2.out.below B23.out)
  replace K3 := Lib.hid (K3.out.below B23.out)
  replace K4 := Lib.hid (K4.out.below B23.out)
  replace K5 := Lib.hid (K5.out.below B23.out)
  replace K7 := Lib.hid (K7.out.below B23.out)
  replace K9 := Lib.hid (K9.out.below B23.out)
  replace K11 := Lib.hid (K11.out.below B23.out)
  replace K13 := Lib.hid (K13.out.below B23.out)
  replace K15 := Lib.hid (K15.out.below B23.out)
  replace K17 := Lib.hid (K17.out.below B23.out)
  replace K19 := Lib.hid (K19.out.below B23.out)
  replace K21 := Lib.hid (K21.out.below B23.out)
  replace K23 := Lib.hid (K23.out.below B23.out)
  have K25 := Lib.hid (TB.newN (g := w23.heap.size) V23.out rfl)
  replace HE := Lib.hid (HE.out.alloc (.cells #[.slice A23 x25.nodes.length c23, .int .i64 x25.root] 34))
  replace HL := Lib.hid (BL.boxN (g := w23.heap.size) HL.out (.cells #[.slice A23 x25.nodes.length c23, .int .i64 x25.root] 34) rfl)
  replace K1 := Lib.hid (TB.boxN (g := w23.heap.size) K1.out (.cells #[.slice A23 x25.nodes.length c23, .int .i64 x25.root] 34) rfl)
  replace K2 := Lib.hid (TB.boxN (g := w23.heap.size) K2.out (.cells #[.slice A23 x25.nodes.length c23, .int .i64 x25.root] 34) rfl)
  replace K3 := Lib.hid (TB.boxN (g := w23.heap.size) K3.out (.cells #[.slice A23 x25.nodes.length c23, .int .i64 x25.root] 34) rfl)
  replace K4 := Lib.hid (TB.boxN (g := w23.heap.size) K4.out (.cells #[.slice A23 x25.nodes.length c23, .int .i64 x25.root] 34) rfl)
  replace K5 := Lib.hid (TB.boxN (g := w23.heap.size) K5.out (.cells #[.slice A23 x25.nodes.length c23, .int .i64 x25.root] 34) rfl)
  replace K7 := Lib.hid (TB.boxN (g := w23.heap.size) K7.out (.cells #[.slice A23 x25.nodes.length c23, .int .i64 x25.root] 34) rfl)
  replace K9 := Lib.hid (TB.boxN (g := w23.heap.size) K9.out (.cells #[.slice A23 x25.nodes.length c23, .int .i64 x25.root] 34) rfl)
  replace K11 := Lib.hid (TB.boxN (g := w23.heap.size) K11.out (.cells #[.slice A23 x25.nodes.length c23, .int .i64 x25.root] 34) rfl)
  replace K13 := Lib.hid (TB.boxN (g := w23.heap.size) K13.out (.cells #[.slice A23 x25.nodes.length c23, .int .i64 x25.root] 34) rfl)
  replace K15 := Lib.hid (TB.boxN (g := w23.heap.size) K15.out (.cells #[.slice A23 x25.nodes.length c23, .int .i64 x25.root] 34) rfl)
  replace K17 := Lib.hid (TB.boxN (g := w23.heap.size) K17.out (.cells #[.slice A23 x25.nodes.length c23, .int .i64 x25.root] 34) rfl)
  replace K19 := Lib.hid (TB.boxN (g := w23.heap.size) K19.out (.cells #[.slice A23 x25.nodes.length c23, .int .i64 x25.root] 34) rfl)
  replace K21 := Lib.hid (TB.boxN (g := w23.heap.size) K21.out (.cells #[.slice A23 x25.nodes.length c23, .int .i64 x25.root] 34) rfl)
  replace K23 := Lib.hid (TB.boxN (g := w23.heap.size) K23.out (.cells #[.slice A23 x25.nodes.length c23, .int .i64 x25.root] 34) rfl)
  go_wp2_with fail
  obtain ⟨wv, hwv⟩ : ∃ wv, wv = w23.alloc (.cells #[.slice A23 x25.nodes.length c23, .int .i64 x25.root] 34) := ⟨_, rfl⟩
  rw [← hwv] at HE HL K1 K2 K3 K4 K5 K7 K9 K11 K13 K15 K17 K19 K21 K23 K25 ⊢
  clear hwv
  obtain ⟨bs, hbs⟩ : ∃ bs : List Nat, bs = (w23.heap.size) :: (w22.heap.size) :: (w21.heap.size) :: (w20.heap.size) :: (w19.heap.size) :: (w18.heap.size) :: (w17.heap.size) :: g11 :: (w16.heap.size) :: (w14.heap.size) :: (w13.heap.size) :: (w7.heap.size + 1 + 1) :: (w7.heap.size + 1) :: (w7.heap.size) :: (w4.heap.size) :: [] := ⟨_, rfl⟩
  rw [← hbs] at HL K1 K2 K3 K4 K5 K7 K9 K11 K13 K15 K17 K19 K21 K23 K25
  clear hbs
  have HC1 : Hid (∀ wx, Below wv.heap.size wv wx → wx.cell? ⟨w4.heap.size, 0, none⟩ = some (.slice A4 (flatT tABC).nodes.length c4) ∧ wx.cell? ⟨w4.heap.size, 1, none⟩ = some (.int .i64 (flatT tABC).root)) := Lib.hid fun wx hx => ⟨(K1.out.blk.below hx K1.out.blk.lt).cell 0, (K1.out.blk.below hx K1.out.blk.lt).cell 1⟩
  have HC2 : Hid (∀ wx, Below wv.heap.size wv wx → wx.cell? ⟨w7.heap.size, 0, none⟩ = some (.slice A5 (flatT tX).nodes.length c5) ∧ wx.cell? ⟨w7.heap.size, 1, none⟩ = some (.int .i64 (flatT tX).root)) := Lib.hid fun wx hx => ⟨(K2.out.blk.below hx K2.out.blk.lt).cell 0, (K2.out.blk.below hx K2.out.blk.lt).cell 1⟩
  have HC3 : Hid (∀ wx, Below wv.heap.size wv wx → wx.cell? ⟨w7.heap.size + 1, 0, none⟩ = some (.slice A6 (flatT tY).nodes.length c6) ∧ wx.cell? ⟨w7.heap.size + 1, 1, none⟩ = some (.int .i64 (flatT tY).root)) := Lib.hid fun wx hx => ⟨(K3.out.blk.below hx K3.out.blk.lt).cell 0, (K3.out.blk.below hx K3.out.blk.lt).cell 1⟩
  have HC4 : Hid (∀ wx, Below wv.heap.size wv wx → wx.cell? ⟨w7.heap.size + 1 + 1, 0, none⟩ = some (.slice A7 (flatT tZ).nodes.length c7) ∧ wx.cell? ⟨w7.heap.size + 1 + 1, 1, none⟩ = some (.int .i64 (flatT tZ).root)) := Lib.hid fun wx hx => ⟨(K4.out.blk.below hx K4.out.blk.lt).cell 0, (K4.out.blk.below hx K4.out.blk.lt).cell 1⟩
  have HC5 : Hid (∀ wx, Below wv.heap.size wv wx → wx.cell? ⟨w13.heap.size, 0, none⟩ = some (.slice A13 (flatT tABC).nodes.length c13) ∧ wx.cell? ⟨w13.heap.size, 1, none⟩ = some (.int .i64 (flatT tABC).root)) := Lib.hid fun wx hx => ⟨(K5.out.blk.below hx K5.out.blk.lt).cell 0, (K5.out.blk.below hx K5.out.blk.lt).cell 1⟩
  have HC7 : Hid (∀ wx, Below wv.heap.size wv wx → wx.cell? ⟨w14.heap.size, 0, none⟩ = some (.slice A14 (flatT tE).nodes.length c14) ∧ wx.cell? ⟨w14.heap.size, 1, none⟩ = some (.int .i64 (flatT tE).root)) := Lib.hid fun wx hx => ⟨(K7.out.blk.below hx K7.out.blk.lt).cell 0, (K7.out.blk.below hx K7.out.blk.lt).cell 1⟩
  have HC9 : Hid (∀ wx, Below wv.heap.size wv wx → wx.cell? ⟨w16.heap.size, 0, none⟩ = some (.slice A16 (flatT tE).nodes.length c16) ∧ wx.cell? ⟨w16.heap.size, 1, none⟩ = some (.int .i64 (flatT tE).root)) := Lib.hid fun wx hx => ⟨(K9.out.blk.below hx K9.out.blk.lt).cell 0, (K9.out.blk.below hx K9.out.blk.lt).cell 1⟩
  have HC11 : Hid (∀ wx, Below wv.heap.size wv wx → wx.cell? ⟨g11, 0, none⟩ = some (.slice A11 (flatT tXYZ).nodes.length c11) ∧ wx.cell? ⟨g11, 1, none⟩ = some (.int .i64 (flatT tXYZ).root)) := Lib.hid fun wx hx => ⟨(K11.out.blk.below hx K11.out.blk.lt).cell 0, (K11.out.blk.below hx K11.out.blk.lt).cell 1⟩
  have HC13 : Hid (∀ wx, Below wv.heap.size wv wx → wx.cell? ⟨w17.heap.size, 0, none⟩ = some (.slice A17 (flatT tN).nodes.length c17) ∧ wx.cell? ⟨w17.heap.size, 1, none⟩ = some (.int .i64 (flatT tN).root)) := Lib.hid fun wx hx => ⟨(K13.out.blk.below hx K13.out.blk.lt).cell 0, (K13.out.blk.below hx K13.out.blk.lt).cell 1⟩
  have HC15 : Hid (∀ wx, Below wv.heap.size wv wx → wx.cell? ⟨w18.heap.size, 0, none⟩ = some (.slice A18 (flatT tA).nodes.length c18) ∧ wx.cell? ⟨w18.heap.size, 1, none⟩ = some (.int .i64 (flatT tA).root)) := Lib.hid fun wx hx => ⟨(K15.out.blk.below hx K15.out.blk.lt).cell 0, (K15.out.blk.below hx K15.out.blk.lt).cell 1⟩
  have HC17 : Hid (∀ wx, Below wv.heap.size wv wx → wx.cell? ⟨w19.heap.size, 0, none⟩ = some (.slice A19 (flatT tBC).nodes.length c19) ∧ wx.cell? ⟨w19.heap.size, 1, none⟩ = some (.int .i64 (flatT tBC).root)) := Lib.hid fun wx hx => ⟨(K17.out.blk.below hx K17.out.blk.lt).cell 0, (K17.out.blk.below hx K17.out.blk.lt).cell 1⟩
  have HC19 : Hid (∀ wx, Below wv.heap.size wv wx → wx.cell? ⟨w20.heap.size, 0, none⟩ = some (.slice A20 (flatT tR).nodes.length c20) ∧ wx.cell? ⟨w20.heap.size, 1, none⟩ = some (.int .i64 (flatT tR).root)) := Lib.hid fun wx hx => ⟨(K19.out.blk.below hx K19.out.blk.lt).cell 0, (K19.out.blk.below hx K19.out.blk.lt).cell 1⟩
  have HC21 : Hid (∀ wx, Below wv.heap.size wv wx → wx.cell? ⟨w21.heap.size, 0, none⟩ = some (.slice A21 (flatT tR).nodes.length c21) ∧ wx.cell? ⟨w21.heap.size, 1, none⟩ = some (.int .i64 (flatT tR).root)) := Lib.hid fun wx hx => ⟨(K21.out.blk.below hx K21.out.blk.lt).cell 0, (K21.out.blk.below hx K21.out.blk.lt).cell 1⟩
  have HC23 : Hid (∀ wx, Below wv.heap.size wv wx → wx.cell? ⟨w22.heap.size, 0, none⟩ = some (.slice A22 (flatT tE).nodes.length c22) ∧ wx.cell? ⟨w22.heap.size, 1, none⟩ = some (.int .i64 (flatT tE).root)) := Lib.hid fun wx hx => ⟨(K23.out.blk.below hx K23.out.blk.lt).cell 0, (K23.out.blk.below hx K23.out.blk.lt).cell 1⟩
  refine wp_region_inv (G := Unit) () UE UN
    [fun v _ => v = .agg #[.slice A13 (flatT tABC).nodes.length c13, .int .i64 (flatT tABC).root], fun v _ => v = .bool true, fun v _ => v = .agg #[.slice A4 (flatT tABC).nodes.length c4, .int .i64 (flatT tABC).root], fun v _ => v = .bool true, fun v _ => v = .bool true, fun v _ => v = .agg #[.slice A14 (flatT tE).nodes.length c14, .int .i64 (flatT tE).root], fun v _ => v = .bool true, fun v s => FR bs tE v s.2, fun v _ => v = .bool true, fun v _ => v = .bool true, fun v _ => v = .bool true, fun v _ => v = .agg #[.slice A16 (flatT tE).nodes.length c16, .int .i64 (flatT tE).root], fun v _ => v = .bool true, fun v s => FR bs tE v s.2, fun v _ => v = .bool true, fun v _ => v = .bool true, fun v _ => v = .bool true, fun v _ => v = .agg #[.slice A11 (flatT tXYZ).nodes.length c11, .int .i64 (flatT tXYZ).root], fun v _ => v = .bool true, fun v _ => v = .agg #[.slice A5 (flatT tX).nodes.length c5, .int .i64 (flatT tX).root], fun v _ => v = .agg #[.slice A6 (flatT tY).nodes.length c6, .int .i64 (flatT tY).root], fun v _ => v = .agg #[.slice A7 (flatT tZ).nodes.length c7, .int .i64 (flatT tZ).root], fun v s => FL [tX, tY, tZ] v s.2, fun v s => FR bs tXYZ v s.2, fun v _ => v = .bool true, fun v _ => v = .bool true, fun v _ => v = .bool true, fun v _ => v = .agg #[.slice A17 (flatT tN).nodes.length c17, .int .i64 (flatT tN).root], fun v _ => v = .bool true, fun v _ => v = .agg #[.int .u64 0, .int .u64 0, .int .u64 0, .int .u64 0], fun v s => FR bs tN v s.2, fun v _ => v = .bool true, fun v _ => v = .bool true, fun v _ => v = .bool true, fun v _ => v = .agg #[.slice A18 (flatT tA).nodes.length c18, .int .i64 (flatT tA).root], fun v _ => v = .bool true, fun v s => FR bs tA v s.2, fun v _ => v = .bool true, fun v _ => v = .bool true, fun v _ => v = .bool true, fun v _ => v = .agg #[.slice A19 (flatT tBC).nodes.length c19, .int .i64 (flatT tBC).root], fun v _ => v = .bool true, fun v s => FR bs tB v s.2, fun v s => FR bs tC v s.2, fun v s => FL [tB, tC] v s.2, fun v s => FR bs tBC v s.2, fun v _ => v = .bool true, fun v _ => v = .bool true, fun v _ => v = .bool true, fun v _ => v = .bool true, fun v _ => v = .bool true, fun v _ => v = .bool true, fun v _ => v = .agg #[.slice A21 (flatT tR).nodes.length c21, .int .i64 (flatT tR).root], fun v _ => v = .bool true, fun v _ => v = .agg #[.slice A20 (flatT tR).nodes.length c20, .int .i64 (flatT tR).root], fun v _ => v = .bool true, fun v _ => v = .bool true, fun v _ => v = .bool true, fun v _ => v = .agg #[.slice A22 (flatT tE).nodes.length c22, .int .i64 (flatT tE).root], fun v _ => v = .bool true, fun v s => FR bs tE v s.2, fun v _ => v = .bool true, fun v _ => v = .bool true, fun v _ => v = .bool true, fun v _ => v = .bool false, fun v _ => v = .bool true, fun v _ => v = .bool true, fun v _ => v = .bool true]
    (by kernel_rfl) UE.trans (UE.refl _) (by kernel_rfl) (by kernel_rfl) (fun _ => trivial) ?rstq14 ?rstepsq14 ?rfinq14
  case rstq14 =>
    intro R hR v s s' _ h hr
    simp only [List.mem_cons, List.not_mem_nil, or_false] at hR
    rcases hR with rfl | rfl | rfl | rfl | rfl | rfl | rfl | rfl | rfl | rfl | rfl | rfl | rfl | rfl | rfl | rfl | rfl | rfl | rfl | rfl | rfl | rfl | rfl | rfl | rfl | rfl | rfl | rfl | rfl | rfl | rfl | rfl | rfl | rfl | rfl | rfl | rfl | rfl | rfl | rfl | rfl | rfl | rfl | rfl | rfl | rfl | rfl | rfl | rfl | rfl | rfl | rfl | rfl | rfl | rfl | rfl | rfl | rfl | rfl | rfl | rfl | rfl | rfl | rfl | rfl | rfl | rfl | rfl
    · exact hr
    · exact hr
    · exact hr
    · exact hr
    · exact hr
    · exact hr
    · exact hr
    · exact FR.below hr h
    · exact hr
    · exact hr
    · exact hr
    · exact hr
    · exact hr
    · exact FR.below hr h
    · exact hr
    · exact hr
    · exact hr
    · exact hr
    · exact hr
    · exact hr
    · exact hr
    · exact hr
    · exact FL.below hr h
    · exact FR.below hr h
    · exact hr
    · exact hr
    · exact hr
    · exact hr
    · exact hr
    · exact hr
    · exact FR.below hr h
    · exact hr
    · exact hr
    · exact hr
    · exact hr
    · exact hr
    · exact FR.below hr h
    · exact hr
    · exact hr
    · exact hr
    · exact hr
    · exact hr
    · exact FR.below hr h
    · exact FR.below hr h
    · exact FL.below hr h
    · exact FR.below hr h
    · exact hr
    · exact hr
    · exact hr
    · exact hr
    · exact hr
    · exact hr
    · exact hr
    · exact hr
    · exact hr
    · exact hr
    · exact hr
    · exact hr
    · exact hr
    · exact hr
    · exact FR.below hr h
    · exact hr
    · exact hr
    · exact hr
    · exact hr
    · exact hr
    · exact hr
    · exact hr
  case rstepsq14 =>
    refine ⟨?_, ?_, ?_, ?_, ?_, ?_, ?_, ?_, ?_, ?_, ?_, ?_, ?_, ?_, ?_, ?_, ?_, ?_, ?_, ?_, ?_, ?_, ?_, ?_, ?_, ?_, ?_, ?_, ?_, ?_, ?_, ?_, ?_, ?_, ?_, ?_, ?_, ?_, ?_, ?_, ?_, ?_, ?_, ?_, ?_, ?_, ?_, ?_, ?_, ?_, ?_, ?_, ?_, ?_, ?_, ?_, ?_, ?_, ?_, ?_, ?_, ?_, ?_, ?_, ?_, ?_, ?_, ?_, trivial⟩
    · intro a γ wx hB hE hN hW K hK
      have hw := UE.start hE
      have h5 : a.tmps[5]? = some (.pointer (some ⟨w13.heap.size, 0, none⟩)) := (hB.at_ 5 (of_decide_eq_true (by kernel_rfl))).trans rfl
      have hc := HC5.out _ hw
      clear hB hN hE
      go_simp
      exact hK (.agg #[.slice A13 (flatT tABC).nodes.length c13, .int .i64 (flatT tABC).root]) () _ (UE.refl _) (fun _ _ h => h) rfl
    · intro a γ wx hB hE hN hW K hK
      have hw := UE.start hE
      have h6 : a.tmps[6]? = some (.bool true) := (hB.at_ 6 (of_decide_eq_true (by kernel_rfl))).trans rfl
      clear hB hN hE
      go_simp
      exact hK (.bool true) () _ (UE.refl _) (fun _ _ h => h) rfl
    · intro a γ wx hB hE hN hW K hK
      have hw := UE.start hE
      have h1 : a.tmps[1]? = some (.pointer (some ⟨w4.heap.size, 0, none⟩)) := (hB.at_ 1 (of_decide_eq_true (by kernel_rfl))).trans rfl
      have hc := HC1.out _ hw
      clear hB hN hE
      go_simp
      exact hK (.agg #[.slice A4 (flatT tABC).nodes.length c4, .int .i64 (flatT tABC).root]) () _ (UE.refl _) (fun _ _ h => h) rfl
    · intro a γ wx hB hE hN hW K hK
      have hw := UE.start hE
      obtain ⟨⟨_, h100, rfl⟩, ⟨_, h101, rfl⟩, ⟨_, h102, rfl⟩, -⟩ := hW
      clear hB hN hE
      go_simp
      refine (is_f (HE.out.below hw) (K5.out.tree.below hw) (K1.out.tree.below hw) HX.out.stABC).mono ?_
      rintro e w' ⟨rfl, hbb⟩
      exact hK _ () _ hbb (fun _ _ h => h) rfl
    · intro a γ wx hB hE hN hW K hK
      have hw := UE.start hE
      obtain ⟨⟨_, h103, rfl⟩, -⟩ := hW
      clear hB hN hE
      go_simp
      exact hK (.bool true) () _ (UE.refl _) (fun _ _ h => h) rfl
    · intro a γ wx hB hE hN hW K hK
      have hw := UE.start hE
      obtain ⟨⟨_, h104, rfl⟩, -⟩ := hW
      have h7 : a.tmps[7]? = some (.pointer (some ⟨w14.heap.size, 0, none⟩)) := (hB.at_ 7 (of_decide_eq_true (by kernel_rfl))).trans rfl
      have hc := HC7.out _ hw
      clear hB hN hE
      go_simp
      exact hK (.agg #[.slice A14 (flatT tE).nodes.length c14, .int .i64 (flatT tE).root]) () _ (UE.refl _) (fun _ _ h => h) rfl
    · intro a γ wx hB hE hN hW K hK
      have hw := UE.start hE
      obtain ⟨⟨_, h104, rfl⟩, -⟩ := hW
      have h8 : a.tmps[8]? = some (.bool true) := (hB.at_ 8 (of_decide_eq_true (by kernel_rfl))).trans rfl
      clear hB hN hE
      go_simp
      exact hK (.bool true) () _ (UE.refl _) (fun _ _ h => h) rfl
    · intro a γ wx hB hE hN hW K hK
      have hw := UE.start hE
      obtain ⟨⟨_, h104, rfl⟩, -⟩ := hW
      clear hB hN hE
      go_simp
      refine (leaf_f (HL.out.below hw) (Empty_g _) HX.out.etE).mono ?_
      rintro e w' ⟨A, c, rfl, hu, hb0⟩
      have hbb := hb0.out
      exact hK _ () _ hbb (fun _ _ h => h) ⟨A, c, rfl, hu.out⟩
    · intro a γ wx hB hE hN hW K hK
      have hw := UE.start hE
      obtain ⟨⟨_, h105, rfl⟩, ⟨_, h106, rfl⟩, ⟨v107, h107, ⟨A107, c107, rfl, r107⟩⟩, -, ⟨_, h104, rfl⟩, -⟩ := hW
      clear hB hN hE
      go_simp
      refine (is_f (HE.out.below hw) (K7.out.tree.below hw) r107 HX.out.stE).mono ?_
      rintro e w' ⟨rfl, hbb⟩
      exact hK _ () _ hbb (fun _ _ h => h) rfl
    · intro a γ wx hB hE hN hW K hK
      have hw := UE.start hE
      obtain ⟨⟨_, h104, rfl⟩, ⟨_, h108, rfl⟩, -⟩ := hW
      clear hB hN hE
      go_simp
      exact hK (.bool true) () _ (UE.refl _) (fun _ _ h => h) rfl
    · intro a γ wx hB hE hN hW K hK
      have hw := UE.start hE
      obtain ⟨⟨_, h109, rfl⟩, -⟩ := hW
      clear hB hN hE
      go_simp
      exact hK (.bool true) () _ (UE.refl _) (fun _ _ h => h) rfl
    · intro a γ wx hB hE hN hW K hK
      have hw := UE.start hE
      obtain ⟨⟨_, h110, rfl⟩, -⟩ := hW
      have h9 : a.tmps[9]? = some (.pointer (some ⟨w16.heap.size, 0, none⟩)) := (hB.at_ 9 (of_decide_eq_true (by kernel_rfl))).trans rfl
      have hc := HC9.out _ hw
      clear hB hN hE
      go_simp
      exact hK (.agg #[.slice A16 (flatT tE).nodes.length c16, .int .i64 (flatT tE).root]) () _ (UE.refl _) (fun _ _ h => h) rfl
    · intro a γ wx hB hE hN hW K hK
      have hw := UE.start hE
      obtain ⟨⟨_, h110, rfl⟩, -⟩ := hW
      have h10 : a.tmps[10]? = some (.bool true) := (hB.at_ 10 (of_decide_eq_true (by kernel_rfl))).trans rfl
      clear hB hN hE
      go_simp
      exact hK (.bool true) () _ (UE.refl _) (fun _ _ h => h) rfl
    · intro a γ wx hB hE hN hW K hK
      have hw := UE.start hE
      obtain ⟨⟨_, h110, rfl⟩, -⟩ := hW
      clear hB hN hE
      go_simp
      refine (leaf_f (HL.out.below hw) (Empty_g _) HX.out.etE).mono ?_
      rintro e w' ⟨A, c, rfl, hu, hb0⟩
      have hbb := hb0.out
      exact hK _ () _ hbb (fun _ _ h => h) ⟨A, c, rfl, hu.out⟩
    · intro a γ wx hB hE hN hW K hK
      have hw := UE.start hE
      obtain ⟨⟨_, h111, rfl⟩, ⟨_, h112, rfl⟩, ⟨v113, h113, ⟨A113, c113, rfl, r113⟩⟩, -, ⟨_, h110, rfl⟩, -⟩ := hW
      clear hB hN hE
      go_simp
      refine (is_f (HE.out.below hw) (K9.out.tree.below hw) r113 HX.out.stE).mono ?_
      rintro e w' ⟨rfl, hbb⟩
      exact hK _ () _ hbb (fun _ _ h => h) rfl
    · intro a γ wx hB hE hN hW K hK
      have hw := UE.start hE
      obtain ⟨⟨_, h110, rfl⟩, ⟨_, h114, rfl⟩, -⟩ := hW
      clear hB hN hE
      go_simp
      exact hK (.bool true) () _ (UE.refl _) (fun _ _ h => h) rfl
    · intro a γ wx hB hE hN hW K hK
      have hw := UE.start hE
      obtain ⟨⟨_, h115, rfl⟩, -⟩ := hW
      clear hB hN hE
      go_simp
      exact hK (.bool true) () _ (UE.refl _) (fun _ _ h => h) rfl
    · intro a γ wx hB hE hN hW K hK
      have hw := UE.start hE
      obtain ⟨⟨_, h116, rfl⟩, -⟩ := hW
      have h11 : a.tmps[11]? = some (.pointer (some ⟨g11, 0, none⟩)) := (hB.at_ 11 (of_decide_eq_true (by kernel_rfl))).trans rfl
      have hc := HC11.out _ hw
      clear hB hN hE
      go_simp
      exact hK (.agg #[.slice A11 (flatT tXYZ).nodes.length c11, .int .i64 (flatT tXYZ).root]) () _ (UE.refl _) (fun _ _ h => h) rfl
    · intro a γ wx hB hE hN hW K hK
      have hw := UE.start hE
      obtain ⟨⟨_, h116, rfl⟩, -⟩ := hW
      have h12 : a.tmps[12]? = some (.bool true) := (hB.at_ 12 (of_decide_eq_true (by kernel_rfl))).trans rfl
      clear hB hN hE
      go_simp
      exact hK (.bool true) () _ (UE.refl _) (fun _ _ h => h) rfl
    · intro a γ wx hB hE hN hW K hK
      have hw := UE.start hE
      obtain ⟨⟨_, h116, rfl⟩, -⟩ := hW
      have h2 : a.tmps[2]? = some (.pointer (some ⟨w7.heap.size, 0, none⟩)) := (hB.at_ 2 (of_decide_eq_true (by kernel_rfl))).trans rfl
      have hc := HC2.out _ hw
      clear hB hN hE
      go_simp
      exact hK (.agg #[.slice A5 (flatT tX).nodes.length c5, .int .i64 (flatT tX).root]) () _ (UE.refl _) (fun _ _ h => h) rfl
    · intro a γ wx hB hE hN hW K hK
      have hw := UE.start hE
      obtain ⟨⟨_, h116, rfl⟩, -⟩ := hW
      have h3 : a.tmps[3]? = some (.pointer (some ⟨w7.heap.size + 1, 0, none⟩)) := (hB.at_ 3 (of_decide_eq_true (by kernel_rfl))).trans rfl
      have hc := HC3.out _ hw
      clear hB hN hE
      go_simp
      exact hK (.agg #[.slice A6 (flatT tY).nodes.length c6, .int .i64 (flatT tY).root]) () _ (UE.refl _) (fun _ _ h => h) rfl
    · intro a γ wx hB hE hN hW K hK
      have hw := UE.start hE
      obtain ⟨⟨_, h116, rfl⟩, -⟩ := hW
      have h4 : a.tmps[4]? = some (.pointer (some ⟨w7.heap.size + 1 + 1, 0, none⟩)) := (hB.at_ 4 (of_decide_eq_true (by kernel_rfl))).trans rfl
      have hc := HC4.out _ hw
      clear hB hN hE
      go_simp
      exact hK (.agg #[.slice A7 (flatT tZ).nodes.length c7, .int .i64 (flatT tZ).root]) () _ (UE.refl _) (fun _ _ h => h) rfl
    · intro a γ wx hB hE hN hW K hK
      have hw := UE.start hE
      obtain ⟨⟨_, h119, rfl⟩, ⟨_, h120, rfl⟩, ⟨_, h121, rfl⟩, ⟨_, h116, rfl⟩, -⟩ := hW
      have h_119 := (K2.out.tree.below hw)
      have h_120 := (K3.out.tree.below hw)
      have h_121 := (K4.out.tree.below hw)
      clear hB hN hE
      go_simp
      exact hK _ () _ UE.alloc (fun _ _ h => h) (FL.three h_119 h_120 h_121)
    · intro a γ wx hB hE hN hW K hK
      have hw := UE.start hE
      obtain ⟨⟨v122, h122, r122⟩, ⟨_, h116, rfl⟩, -⟩ := hW
      clear hB hN hE
      go_simp
      refine (ofL_f (L := [tX, tY, tZ]) (by decide) (HE.out.below hw) (HL.out.below hw) r122 (by simp [HX.out.stX, HX.out.stY, HX.out.stZ]) (by simp) (show fits (kindD 5) ((3 : Nat) : Int) = true by decide) HX.out.mtXYZ).mono ?_
      rintro e w' ⟨A, c, rfl, hu, hb0⟩
      have hbb := hb0.out
      exact hK _ () _ hbb (fun _ _ h => h) ⟨A, c, rfl, hu.out⟩
    · intro a γ wx hB hE hN hW K hK
      have hw := UE.start hE
      obtain ⟨⟨_, h117, rfl⟩, ⟨_, h118, rfl⟩, ⟨v123, h123, ⟨A123, c123, rfl, r123⟩⟩, -, ⟨_, h116, rfl⟩, -⟩ := hW
      clear hB hN hE
      go_simp
      refine (is_f (HE.out.below hw) (K11.out.tree.below hw) r123 HX.out.stXYZ).mono ?_
      rintro e w' ⟨rfl, hbb⟩
      exact hK _ () _ hbb (fun _ _ h => h) rfl
    · intro a γ wx hB hE hN hW K hK
      have hw := UE.start hE
      obtain ⟨⟨_, h116, rfl⟩, ⟨_, h124, rfl⟩, -⟩ := hW
      clear hB hN hE
      go_simp
      exact hK (.bool true) () _ (UE.refl _) (fun _ _ h => h) rfl
    · intro a γ wx hB hE hN hW K hK
      have hw := UE.start hE
      obtain ⟨⟨_, h125, rfl⟩, -⟩ := hW
      clear hB hN hE
      go_simp
      exact hK (.bool true) () _ (UE.refl _) (fun _ _ h => h) rfl
    · intro a γ wx hB hE hN hW K hK
      have hw := UE.start hE
      obtain ⟨⟨_, h126, rfl⟩, -⟩ := hW
      have h13 : a.tmps[13]? = some (.pointer (some ⟨w17.heap.size, 0, none⟩)) := (hB.at_ 13 (of_decide_eq_true (by kernel_rfl))).trans rfl
      have hc := HC13.out _ hw
      clear hB hN hE
      go_simp
      exact hK (.agg #[.slice A17 (flatT tN).nodes.length c17, .int .i64 (flatT tN).root]) () _ (UE.refl _) (fun _ _ h => h) rfl
    · intro a γ wx hB hE hN hW K hK
      have hw := UE.start hE
      obtain ⟨⟨_, h126, rfl⟩, -⟩ := hW
      have h14 : a.tmps[14]? = some (.bool true) := (hB.at_ 14 (of_decide_eq_true (by kernel_rfl))).trans rfl
      clear hB hN hE
      go_simp
      exact hK (.bool true) () _ (UE.refl _) (fun _ _ h => h) rfl
    · intro a γ wx hB hE hN hW K hK
      have hw := UE.start hE
      obtain ⟨⟨_, h126, rfl⟩, -⟩ := hW
      clear hB hN hE
      go_simp
      exact hK (.agg #[.int .u64 0, .int .u64 0, .int .u64 0, .int .u64 0]) () _ (UE.refl _) (fun _ _ h => h) rfl
    · intro a γ wx hB hE hN hW K hK
      have hw := UE.start hE
      obtain ⟨⟨_, h129, rfl⟩, ⟨_, h126, rfl⟩, -⟩ := hW
      clear hB hN hE
      go_simp
      refine (leaf_f (HL.out.below hw) (Set_g _) HX.out.etN).mono ?_
      rintro e w' ⟨A, c, rfl, hu, hb0⟩
      have hbb := hb0.out
      exact hK _ () _ hbb (fun _ _ h => h) ⟨A, c, rfl, hu.out⟩
    · intro a γ wx hB hE hN hW K hK
      have hw := UE.start hE
      obtain ⟨⟨_, h127, rfl⟩, ⟨_, h128, rfl⟩, ⟨v130, h130, ⟨A130, c130, rfl, r130⟩⟩, -, ⟨_, h126, rfl⟩, -⟩ := hW
      clear hB hN hE
      go_simp
      refine (is_f (HE.out.below hw) (K13.out.tree.below hw) r130 HX.out.stN).mono ?_
      rintro e w' ⟨rfl, hbb⟩
      exact hK _ () _ hbb (fun _ _ h => h) rfl
    · intro a γ wx hB hE hN hW K hK
      have hw := UE.start hE
      obtain ⟨⟨_, h126, rfl⟩, ⟨_, h131, rfl⟩, -⟩ := hW
      clear hB hN hE
      go_simp
      exact hK (.bool true) () _ (UE.refl _) (fun _ _ h => h) rfl
    · intro a γ wx hB hE hN hW K hK
      have hw := UE.start hE
      obtain ⟨⟨_, h132, rfl⟩, -⟩ := hW
      clear hB hN hE
      go_simp
      exact hK (.bool true) () _ (UE.refl _) (fun _ _ h => h) rfl
    · intro a γ wx hB hE hN hW K hK
      have hw := UE.start hE
      obtain ⟨⟨_, h133, rfl⟩, -⟩ := hW
      have h15 : a.tmps[15]? = some (.pointer (some ⟨w18.heap.size, 0, none⟩)) := (hB.at_ 15 (of_decide_eq_true (by kernel_rfl))).trans rfl
      have hc := HC15.out _ hw
      clear hB hN hE
      go_simp
      exact hK (.agg #[.slice A18 (flatT tA).nodes.length c18, .int .i64 (flatT tA).root]) () _ (UE.refl _) (fun _ _ h => h) rfl
    · intro a γ wx hB hE hN hW K hK
      have hw := UE.start hE
      obtain ⟨⟨_, h133, rfl⟩, -⟩ := hW
      have h16 : a.tmps[16]? = some (.bool true) := (hB.at_ 16 (of_decide_eq_true (by kernel_rfl))).trans rfl
      clear hB hN hE
      go_simp
      exact hK (.bool true) () _ (UE.refl _) (fun _ _ h => h) rfl
    · intro a γ wx hB hE hN hW K hK
      have hw := UE.start hE
      obtain ⟨⟨_, h133, rfl⟩, -⟩ := hW
      clear hB hN hE
      go_simp
      refine (text_f (s := [97]) (by decide) (HL.out.below hw) HX.out.etA).mono ?_
      rintro e w' ⟨A, c, rfl, hu, hb0⟩
      have hbb := hb0.out
      exact hK _ () _ hbb (fun _ _ h => h) ⟨A, c, rfl, hu.out⟩
    · intro a γ wx hB hE hN hW K hK
      have hw := UE.start hE
      obtain ⟨⟨_, h134, rfl⟩, ⟨_, h135, rfl⟩, ⟨v136, h136, ⟨A136, c136, rfl, r136⟩⟩, -, ⟨_, h133, rfl⟩, -⟩ := hW
      clear hB hN hE
      go_simp
      refine (is_f (HE.out.below hw) (K15.out.tree.below hw) r136 HX.out.stA).mono ?_
      rintro e w' ⟨rfl, hbb⟩
      exact hK _ () _ hbb (fun _ _ h => h) rfl
    · intro a γ wx hB hE hN hW K hK
      have hw := UE.start hE
      obtain ⟨⟨_, h133, rfl⟩, ⟨_, h137, rfl⟩, -⟩ := hW
      clear hB hN hE
      go_simp
      exact hK (.bool true) () _ (UE.refl _) (fun _ _ h => h) rfl
    · intro a γ wx hB hE hN hW K hK
      have hw := UE.start hE
      obtain ⟨⟨_, h138, rfl⟩, -⟩ := hW
      clear hB hN hE
      go_simp
      exact hK (.bool true) () _ (UE.refl _) (fun _ _ h => h) rfl
    · intro a γ wx hB hE hN hW K hK
      have hw := UE.start hE
      obtain ⟨⟨_, h139, rfl⟩, -⟩ := hW
      have h17 : a.tmps[17]? = some (.pointer (some ⟨w19.heap.size, 0, none⟩)) := (hB.at_ 17 (of_decide_eq_true (by kernel_rfl))).trans rfl
      have hc := HC17.out _ hw
      clear hB hN hE
      go_simp
      exact hK (.agg #[.slice A19 (flatT tBC).nodes.length c19, .int .i64 (flatT tBC).root]) () _ (UE.refl _) (fun _ _ h => h) rfl
    · intro a γ wx hB hE hN hW K hK
      have hw := UE.start hE
      obtain ⟨⟨_, h139, rfl⟩, -⟩ := hW
      have h18 : a.tmps[18]? = some (.bool true) := (hB.at_ 18 (of_decide_eq_true (by kernel_rfl))).trans rfl
      clear hB hN hE
      go_simp
      exact hK (.bool true) () _ (UE.refl _) (fun _ _ h => h) rfl
    · intro a γ wx hB hE hN hW K hK
      have hw := UE.start hE
      obtain ⟨⟨_, h139, rfl⟩, -⟩ := hW
      clear hB hN hE
      go_simp
      refine (text_f (s := [98]) (by decide) (HL.out.below hw) HX.out.etB).mono ?_
      rintro e w' ⟨A, c, rfl, hu, hb0⟩
      have hbb := hb0.out
      exact hK _ () _ hbb (fun _ _ h => h) ⟨A, c, rfl, hu.out⟩
    · intro a γ wx hB hE hN hW K hK
      have hw := UE.start hE
      obtain ⟨-, ⟨_, h139, rfl⟩, -⟩ := hW
      clear hB hN hE
      go_simp
      refine (text_f (s := [99]) (by decide) (HL.out.below hw) HX.out.etC).mono ?_
      rintro e w' ⟨A, c, rfl, hu, hb0⟩
      have hbb := hb0.out
      exact hK _ () _ hbb (fun _ _ h => h) ⟨A, c, rfl, hu.out⟩
    · intro a γ wx hB hE hN hW K hK
      have hw := UE.start hE
      obtain ⟨⟨v142, h142, ⟨A142, c142, rfl, r142⟩⟩, ⟨v143, h143, ⟨A143, c143, rfl, r143⟩⟩, ⟨_, h139, rfl⟩, -⟩ := hW
      have h_142 := r142
      have h_143 := r143
      clear hB hN hE
      go_simp
      exact hK _ () _ UE.alloc (fun _ _ h => h) (FL.two h_142 h_143)
    · intro a γ wx hB hE hN hW K hK
      have hw := UE.start hE
      obtain ⟨⟨v144, h144, r144⟩, -, ⟨_, h139, rfl⟩, -⟩ := hW
      clear hB hN hE
      go_simp
      refine (ofL_f (L := [tB, tC]) (by decide) (HE.out.below hw) (HL.out.below hw) r144 (by simp [HX.out.stB, HX.out.stC]) (by simp) (show fits (kindD 4) ((2 : Nat) : Int) = true by decide) HX.out.mtBC).mono ?_
      rintro e w' ⟨A, c, rfl, hu, hb0⟩
      have hbb := hb0.out
      exact hK _ () _ hbb (fun _ _ h => h) ⟨A, c, rfl, hu.out⟩
    · intro a γ wx hB hE hN hW K hK
      have hw := UE.start hE
      obtain ⟨⟨_, h140, rfl⟩, ⟨_, h141, rfl⟩, ⟨v145, h145, ⟨A145, c145, rfl, r145⟩⟩, -, ⟨_, h139, rfl⟩, -⟩ := hW
      clear hB hN hE
      go_simp
      refine (is_f (HE.out.below hw) (K17.out.tree.below hw) r145 HX.out.stBC).mono ?_
      rintro e w' ⟨rfl, hbb⟩
      exact hK _ () _ hbb (fun _ _ h => h) rfl
    · intro a γ wx hB hE hN hW K hK
      have hw := UE.start hE
      obtain ⟨⟨_, h139, rfl⟩, ⟨_, h146, rfl⟩, -⟩ := hW
      clear hB hN hE
      go_simp
      exact hK (.bool true) () _ (UE.refl _) (fun _ _ h => h) rfl
    · intro a γ wx hB hE hN hW K hK
      have hw := UE.start hE
      obtain ⟨⟨_, h147, rfl⟩, -⟩ := hW
      clear hB hN hE
      go_simp
      exact hK (.bool true) () _ (UE.refl _) (fun _ _ h => h) rfl
    · intro a γ wx hB hE hN hW K hK
      have hw := UE.start hE
      obtain ⟨⟨_, h148, rfl⟩, -⟩ := hW
      have h20 : a.tmps[20]? = some (.bool true) := (hB.at_ 20 (of_decide_eq_true (by kernel_rfl))).trans rfl
      clear hB hN hE
      go_simp
      exact hK (.bool true) () _ (UE.refl _) (fun _ _ h => h) rfl
    · intro a γ wx hB hE hN hW K hK
      have hw := UE.start hE
      obtain ⟨⟨_, h148, rfl⟩, ⟨_, h149, rfl⟩, -⟩ := hW
      clear hB hN hE
      go_simp
      exact hK (.bool true) () _ (UE.refl _) (fun _ _ h => h) rfl
    · intro a γ wx hB hE hN hW K hK
      have hw := UE.start hE
      obtain ⟨⟨_, h150, rfl⟩, -⟩ := hW
      clear hB hN hE
      go_simp
      exact hK (.bool true) () _ (UE.refl _) (fun _ _ h => h) rfl
    · intro a γ wx hB hE hN hW K hK
      have hw := UE.start hE
      obtain ⟨⟨_, h151, rfl⟩, -⟩ := hW
      have h21 : a.tmps[21]? = some (.pointer (some ⟨w21.heap.size, 0, none⟩)) := (hB.at_ 21 (of_decide_eq_true (by kernel_rfl))).trans rfl
      have hc := HC21.out _ hw
      clear hB hN hE
      go_simp
      exact hK (.agg #[.slice A21 (flatT tR).nodes.length c21, .int .i64 (flatT tR).root]) () _ (UE.refl _) (fun _ _ h => h) rfl
    · intro a γ wx hB hE hN hW K hK
      have hw := UE.start hE
      obtain ⟨⟨_, h151, rfl⟩, -⟩ := hW
      have h22 : a.tmps[22]? = some (.bool true) := (hB.at_ 22 (of_decide_eq_true (by kernel_rfl))).trans rfl
      clear hB hN hE
      go_simp
      exact hK (.bool true) () _ (UE.refl _) (fun _ _ h => h) rfl
    · intro a γ wx hB hE hN hW K hK
      have hw := UE.start hE
      obtain ⟨⟨_, h151, rfl⟩, -⟩ := hW
      have h19 : a.tmps[19]? = some (.pointer (some ⟨w20.heap.size, 0, none⟩)) := (hB.at_ 19 (of_decide_eq_true (by kernel_rfl))).trans rfl
      have hc := HC19.out _ hw
      clear hB hN hE
      go_simp
      exact hK (.agg #[.slice A20 (flatT tR).nodes.length c20, .int .i64 (flatT tR).root]) () _ (UE.refl _) (fun _ _ h => h) rfl
    · intro a γ wx hB hE hN hW K hK
      have hw := UE.start hE
      obtain ⟨⟨_, h152, rfl⟩, ⟨_, h153, rfl⟩, ⟨_, h154, rfl⟩, ⟨_, h151, rfl⟩, -⟩ := hW
      clear hB hN hE
      go_simp
      refine (is_f (HE.out.below hw) (K21.out.tree.below hw) (K19.out.tree.below hw) HX.out.stR).mono ?_
      rintro e w' ⟨rfl, hbb⟩
      exact hK _ () _ hbb (fun _ _ h => h) rfl
    · intro a γ wx hB hE hN hW K hK
      have hw := UE.start hE
      obtain ⟨⟨_, h151, rfl⟩, ⟨_, h155, rfl⟩, -⟩ := hW
      clear hB hN hE
      go_simp
      exact hK (.bool true) () _ (UE.refl _) (fun _ _ h => h) rfl
    · intro a γ wx hB hE hN hW K hK
      have hw := UE.start hE
      obtain ⟨⟨_, h156, rfl⟩, -⟩ := hW
      clear hB hN hE
      go_simp
      exact hK (.bool true) () _ (UE.refl _) (fun _ _ h => h) rfl
    · intro a γ wx hB hE hN hW K hK
      have hw := UE.start hE
      obtain ⟨⟨_, h157, rfl⟩, -⟩ := hW
      have h23 : a.tmps[23]? = some (.pointer (some ⟨w22.heap.size, 0, none⟩)) := (hB.at_ 23 (of_decide_eq_true (by kernel_rfl))).trans rfl
      have hc := HC23.out _ hw
      clear hB hN hE
      go_simp
      exact hK (.agg #[.slice A22 (flatT tE).nodes.length c22, .int .i64 (flatT tE).root]) () _ (UE.refl _) (fun _ _ h => h) rfl
    · intro a γ wx hB hE hN hW K hK
      have hw := UE.start hE
      obtain ⟨⟨_, h157, rfl⟩, -⟩ := hW
      have h24 : a.tmps[24]? = some (.bool true) := (hB.at_ 24 (of_decide_eq_true (by kernel_rfl))).trans rfl
      clear hB hN hE
      go_simp
      exact hK (.bool true) () _ (UE.refl _) (fun _ _ h => h) rfl
    · intro a γ wx hB hE hN hW K hK
      have hw := UE.start hE
      obtain ⟨⟨_, h157, rfl⟩, -⟩ := hW
      clear hB hN hE
      go_simp
      refine (leaf_f (HL.out.below hw) (Empty_g _) HX.out.etE).mono ?_
      rintro e w' ⟨A, c, rfl, hu, hb0⟩
      have hbb := hb0.out
      exact hK _ () _ hbb (fun _ _ h => h) ⟨A, c, rfl, hu.out⟩
    · intro a γ wx hB hE hN hW K hK
      have hw := UE.start hE
      obtain ⟨⟨_, h158, rfl⟩, ⟨_, h159, rfl⟩, ⟨v160, h160, ⟨A160, c160, rfl, r160⟩⟩, -, ⟨_, h157, rfl⟩, -⟩ := hW
      clear hB hN hE
      go_simp
      refine (is_f (HE.out.below hw) (K23.out.tree.below hw) r160 HX.out.stE).mono ?_
      rintro e w' ⟨rfl, hbb⟩
      exact hK _ () _ hbb (fun _ _ h => h) rfl
    · intro a γ wx hB hE hN hW K hK
      have hw := UE.start hE
      obtain ⟨⟨_, h157, rfl⟩, ⟨_, h161, rfl⟩, -⟩ := hW
      clear hB hN hE
      go_simp
      exact hK (.bool true) () _ (UE.refl _) (fun _ _ h => h) rfl
    · intro a γ wx hB hE hN hW K hK
      have hw := UE.start hE
      obtain ⟨⟨_, h162, rfl⟩, -⟩ := hW
      clear hB hN hE
      go_simp
      exact hK (.bool true) () _ (UE.refl _) (fun _ _ h => h) rfl
    · intro a γ wx hB hE hN hW K hK
      have hw := UE.start hE
      obtain ⟨⟨_, h163, rfl⟩, -⟩ := hW
      have h26 : a.tmps[26]? = some (.bool false) := (hB.at_ 26 (of_decide_eq_true (by kernel_rfl))).trans rfl
      clear hB hN hE
      go_simp
      exact hK (.bool false) () _ (UE.refl _) (fun _ _ h => h) rfl
    · intro a γ wx hB hE hN hW K hK
      have hw := UE.start hE
      obtain ⟨⟨_, h164, rfl⟩, ⟨_, h163, rfl⟩, -⟩ := hW
      clear hB hN hE
      go_simp
      exact hK (.bool true) () _ (UE.refl _) (fun _ _ h => h) rfl
    · intro a γ wx hB hE hN hW K hK
      have hw := UE.start hE
      obtain ⟨⟨_, h163, rfl⟩, ⟨_, h165, rfl⟩, -⟩ := hW
      clear hB hN hE
      go_simp
      exact hK (.bool true) () _ (UE.refl _) (fun _ _ h => h) rfl
    · intro a γ wx hB hE hN hW K hK
      have hw := UE.start hE
      obtain ⟨⟨_, h166, rfl⟩, -⟩ := hW
      clear hB hN hE
      go_simp
      exact hK (.bool true) () _ (UE.refl _) (fun _ _ h => h) rfl
  intro a' γ wz hB hE hK
  obtain ⟨_, h100, rfl⟩ := hK 0 (of_decide_eq_true (by kernel_rfl))
  obtain ⟨_, h101, rfl⟩ := hK 1 (of_decide_eq_true (by kernel_rfl))
  obtain ⟨_, h102, rfl⟩ := hK 2 (of_decide_eq_true (by kernel_rfl))
  obtain ⟨_, h103, rfl⟩ := hK 3 (of_decide_eq_true (by kernel_rfl))
  obtain ⟨_, h104, rfl⟩ := hK 4 (of_decide_eq_true (by kernel_rfl))
  obtain ⟨_, h105, rfl⟩ := hK 5 (of_decide_eq_true (by kernel_rfl))
  obtain ⟨_, h106, rfl⟩ := hK 6 (of_decide_eq_true (by kernel_rfl))
  obtain ⟨v107, h107, ⟨A107, c107, rfl, r107⟩⟩ := hK 7 (of_decide_eq_true (by kernel_rfl))
  obtain ⟨_, h108, rfl⟩ := hK 8 (of_decide_eq_true (by kernel_rfl))
  obtain ⟨_, h109, rfl⟩ := hK 9 (of_decide_eq_true (by kernel_rfl))
  obtain ⟨_, h110, rfl⟩ := hK 10 (of_decide_eq_true (by kernel_rfl))
  obtain ⟨_, h111, rfl⟩ := hK 11 (of_decide_eq_true (by kernel_rfl))
  obtain ⟨_, h112, rfl⟩ := hK 12 (of_decide_eq_true (by kernel_rfl))
  obtain ⟨v113, h113, ⟨A113, c113, rfl, r113⟩⟩ := hK 13 (of_decide_eq_true (by kernel_rfl))
  obtain ⟨_, h114, rfl⟩ := hK 14 (of_decide_eq_true (by kernel_rfl))
  obtain ⟨_, h115, rfl⟩ := hK 15 (of_decide_eq_true (by kernel_rfl))
  obtain ⟨_, h116, rfl⟩ := hK 16 (of_decide_eq_true (by kernel_rfl))
  obtain ⟨_, h117, rfl⟩ := hK 17 (of_decide_eq_true (by kernel_rfl))
  obtain ⟨_, h118, rfl⟩ := hK 18 (of_decide_eq_true (by kernel_rfl))
  obtain ⟨_, h119, rfl⟩ := hK 19 (of_decide_eq_true (by kernel_rfl))
  obtain ⟨_, h120, rfl⟩ := hK 20 (of_decide_eq_true (by kernel_rfl))
  obtain ⟨_, h121, rfl⟩ := hK 21 (of_decide_eq_true (by kernel_rfl))
  obtain ⟨v122, h122, r122⟩ := hK 22 (of_decide_eq_true (by kernel_rfl))
  obtain ⟨v123, h123, ⟨A123, c123, rfl, r123⟩⟩ := hK 23 (of_decide_eq_true (by kernel_rfl))
  obtain ⟨_, h124, rfl⟩ := hK 24 (of_decide_eq_true (by kernel_rfl))
  obtain ⟨_, h125, rfl⟩ := hK 25 (of_decide_eq_true (by kernel_rfl))
  obtain ⟨_, h126, rfl⟩ := hK 26 (of_decide_eq_true (by kernel_rfl))
  obtain ⟨_, h127, rfl⟩ := hK 27 (of_decide_eq_true (by kernel_rfl))
  obtain ⟨_, h128, rfl⟩ := hK 28 (of_decide_eq_true (by kernel_rfl))
  obtain ⟨_, h129, rfl⟩ := hK 29 (of_decide_eq_true (by kernel_rfl))
  obtain ⟨v130, h130, ⟨A130, c130, rfl, r130⟩⟩ := hK 30 (of_decide_eq_true (by kernel_rfl))
  obtain ⟨_, h131, rfl⟩ := hK 31 (of_decide_eq_true (by kernel_rfl))
  obtain ⟨_, h132, rfl⟩ := hK 32 (of_decide_eq_true (by kernel_rfl))
  obtain ⟨_, h133, rfl⟩ := hK 33 (of_decide_eq_true (by kernel_rfl))
  obtain ⟨_, h134, rfl⟩ := hK 34 (of_decide_eq_true (by kernel_rfl))
  obtain ⟨_, h135, rfl⟩ := hK 35 (of_decide_eq_true (by kernel_rfl))
  obtain ⟨v136, h136, ⟨A136, c136, rfl, r136⟩⟩ := hK 36 (of_decide_eq_true (by kernel_rfl))
  obtain ⟨_, h137, rfl⟩ := hK 37 (of_decide_eq_true (by kernel_rfl))
  obtain ⟨_, h138, rfl⟩ := hK 38 (of_decide_eq_true (by kernel_rfl))
  obtain ⟨_, h139, rfl⟩ := hK 39 (of_decide_eq_true (by kernel_rfl))
  obtain ⟨_, h140, rfl⟩ := hK 40 (of_decide_eq_true (by kernel_rfl))
  obtain ⟨_, h141, rfl⟩ := hK 41 (of_decide_eq_true (by kernel_rfl))
  obtain ⟨v142, h142, ⟨A142, c142, rfl, r142⟩⟩ := hK 42 (of_decide_eq_true (by kernel_rfl))
  obtain ⟨v143, h143, ⟨A143, c143, rfl, r143⟩⟩ := hK 43 (of_decide_eq_true (by kernel_rfl))
  obtain ⟨v144, h144, r144⟩ := hK 44 (of_decide_eq_true (by kernel_rfl))
  obtain ⟨v145, h145, ⟨A145, c145, rfl, r145⟩⟩ := hK 45 (of_decide_eq_true (by kernel_rfl))
  obtain ⟨_, h146, rfl⟩ := hK 46 (of_decide_eq_true (by kernel_rfl))
  obtain ⟨_, h147, rfl⟩ := hK 47 (of_decide_eq_true (by kernel_rfl))
  obtain ⟨_, h148, rfl⟩ := hK 48 (of_decide_eq_true (by kernel_rfl))
  obtain ⟨_, h149, rfl⟩ := hK 49 (of_decide_eq_true (by kernel_rfl))
  obtain ⟨_, h150, rfl⟩ := hK 50 (of_decide_eq_true (by kernel_rfl))
  obtain ⟨_, h151, rfl⟩ := hK 51 (of_decide_eq_true (by kernel_rfl))
  obtain ⟨_, h152, rfl⟩ := hK 52 (of_decide_eq_true (by kernel_rfl))
  obtain ⟨_, h153, rfl⟩ := hK 53 (of_decide_eq_true (by kernel_rfl))
  obtain ⟨_, h154, rfl⟩ := hK 54 (of_decide_eq_true (by kernel_rfl))
  obtain ⟨_, h155, rfl⟩ := hK 55 (of_decide_eq_true (by kernel_rfl))
  obtain ⟨_, h156, rfl⟩ := hK 56 (of_decide_eq_true (by kernel_rfl))
  obtain ⟨_, h157, rfl⟩ := hK 57 (of_decide_eq_true (by kernel_rfl))
  obtain ⟨_, h158, rfl⟩ := hK 58 (of_decide_eq_true (by kernel_rfl))
  obtain ⟨_, h159, rfl⟩ := hK 59 (of_decide_eq_true (by kernel_rfl))
  obtain ⟨v160, h160, ⟨A160, c160, rfl, r160⟩⟩ := hK 60 (of_decide_eq_true (by kernel_rfl))
  obtain ⟨_, h161, rfl⟩ := hK 61 (of_decide_eq_true (by kernel_rfl))
  obtain ⟨_, h162, rfl⟩ := hK 62 (of_decide_eq_true (by kernel_rfl))
  obtain ⟨_, h163, rfl⟩ := hK 63 (of_decide_eq_true (by kernel_rfl))
  obtain ⟨_, h164, rfl⟩ := hK 64 (of_decide_eq_true (by kernel_rfl))
  obtain ⟨_, h165, rfl⟩ := hK 65 (of_decide_eq_true (by kernel_rfl))
  obtain ⟨_, h166, rfl⟩ := hK 66 (of_decide_eq_true (by kernel_rfl))
  obtain ⟨_, h0, rfl⟩ := hK 67 (of_decide_eq_true (by kernel_rfl))
  have ha := hB.eq [(100, .agg #[.slice A13 (flatT tABC).nodes.length c13, .int .i64 (flatT tABC).root]), (101, .bool true), (102, .agg #[.slice A4 (flatT tABC).nodes.length c4, .int .i64 (flatT tABC).root]), (103, .bool true), (104, .bool true), (105, .agg #[.slice A14 (flatT tE).nodes.length c14, .int .i64 (flatT tE).root]), (106, .bool true), (107, .agg #[.slice A107 (flatT tE).nodes.length c107, .int .i64 (flatT tE).root]), (108, .bool true), (109, .bool true), (110, .bool true), (111, .agg #[.slice A16 (flatT tE).nodes.length c16, .int .i64 (flatT tE).root]), (112, .bool true), (113, .agg #[.slice A113 (flatT tE).nodes.length c113, .int .i64 (flatT tE).root]), (114, .bool true), (115, .bool true), (116, .bool true), (117, .agg #[.slice A11 (flatT tXYZ).nodes.length c11, .int .i64 (flatT tXYZ).root]), (118, .bool true), (119, .agg #[.slice A5 (flatT tX).nodes.length c5, .int .i64 (flatT tX).root]), (120, .agg #[.slice A6 (flatT tY).nodes.length c6, .int .i64 (flatT tY).root]), (121, .agg #[.slice A7 (flatT tZ).nodes.length c7, .int .i64 (flatT tZ).root]), (122, v122), (123, .agg #[.slice A123 (flatT tXYZ).nodes.length c123, .int .i64 (flatT tXYZ).root]), (124, .bool true), (125, .bool true), (126, .bool true), (127, .agg #[.slice A17 (flatT tN).nodes.length c17, .int .i64 (flatT tN).root]), (128, .bool true), (129, .agg #[.int .u64 0, .int .u64 0, .int .u64 0, .int .u64 0]), (130, .agg #[.slice A130 (flatT tN).nodes.length c130, .int .i64 (flatT tN).root]), (131, .bool true), (132, .bool true), (133, .bool true), (134, .agg #[.slice A18 (flatT tA).nodes.length c18, .int .i64 (flatT tA).root]), (135, .bool true), (136, .agg #[.slice A136 (flatT tA).nodes.length c136, .int .i64 (flatT tA).root]), (137, .bool true), (138, .bool true), (139, .bool true), (140, .agg #[.slice A19 (flatT tBC).nodes.length c19, .int .i64 (flatT tBC).root]), (141, .bool true), (142, .agg #[.slice A142 (flatT tB).nodes.length c142, .int .i64 (flatT tB).root]), (143, .agg #[.slice A143 (flatT tC).nodes.length c143, .int .i64 (flatT tC).root]), (144, v144), (145, .agg #[.slice A145 (flatT tBC).nodes.length c145, .int .i64 (flatT tBC).root]), (146, .bool true), (147, .bool true), (148, .bool true), (149, .bool true), (150, .bool true), (151, .bool true), (152, .agg #[.slice A21 (flatT tR).nodes.length c21, .int .i64 (flatT tR).root]), (153, .bool true), (154, .agg #[.slice A20 (flatT tR).nodes.length c20, .int .i64 (flatT tR).root]), (155, .bool true), (156, .bool true), (157, .bool true), (158, .agg #[.slice A22 (flatT tE).nodes.length c22, .int .i64 (flatT tE).root]), (159, .bool true), (160, .agg #[.slice A160 (flatT tE).nodes.length c160, .int .i64 (flatT tE).root]), (161, .bool true), (162, .bool true), (163, .bool true), (164, .bool false), (165, .bool true), (166, .bool true), (0, .bool true)] rfl (by kernel_rfl) ⟨h100, h101, h102, h103, h104, h105, h106, h107, h108, h109, h110, h111, h112, h113, h114, h115, h116, h117, h118, h119, h120, h121, h122, h123, h124, h125, h126, h127, h128, h129, h130, h131, h132, h133, h134, h135, h136, h137, h138, h139, h140, h141, h142, h143, h144, h145, h146, h147, h148, h149, h150, h151, h152, h153, h154, h155, h156, h157, h158, h159, h160, h161, h162, h163, h164, h165, h166, h0, trivial⟩
  subst ha
  have hz := UE.start hE
  clear hK hB hE h100 h101 h102 h103 h104 h105 h106 h107 h108 h109 h110 h111 h112 h113 h114 h115 h116 h117 h118 h119 h120 h121 h122 h123 h124 h125 h126 h127 h128 h129 h130 h131 h132 h133 h134 h135 h136 h137 h138 h139 h140 h141 h142 h143 h144 h145 h146 h147 h148 h149 h150 h151 h152 h153 h154 h155 h156 h157 h158 h159 h160 h161 h162 h163 h164 h165 h166 h0
  simp only [putAll, List.foldl_cons, List.foldl_nil, List.setIfInBounds_toArray, List.set_cons_succ, List.set_cons_zero]
  clear HC1 HC2 HC3 HC4 HC5 HC7 HC9 HC11 HC13 HC15 HC17 HC19 HC21 HC23
  go_wp2_with fail
  go_ret
  exact ⟨rfl, HE.out.bel.trans (hz.mono HE.out.bel.size)⟩
end Go.Proofs.YtclfpjfjebheoaaDoor
/- What laws keep of their boxes; the guards. -/
namespace Go.Proofs.YtclfpjfjebheoaaDoor
set_option linter.unusedSimpArgs false
open Go.RowKit
open Classical

theorem ge_box {w0 w : World} {bs : List Nat} {g : Nat} (h : ∀ b ∈ bs, w0.heap.size ≤ b) (hE : Ev w0 w) (hg : w.heap.size = g) : ∀ b ∈ g :: bs, w0.heap.size ≤ b := fun b hm => by
  rcases List.mem_cons.1 hm with rfl | hm
  · rw [← hg]; exact hE.bel.size
  · exact h b hm
theorem nd_box {w : World} {bs : List Nat} {g : Nat} (h : bs.Nodup) (hl : BL w bs) (hg : w.heap.size = g) : (g :: bs).Nodup := List.nodup_cons.2 ⟨fun hm => by have := hl g hm; omega, h⟩
theorem nodup_ne {bs : List Nat} (h : bs.Nodup) {a b : Nat} (i j : Nat) (hij : i ≠ j) (hi : bs[i]? = some a) (hj : bs[j]? = some b) : a ≠ b := fun e => by
  subst e
  have hil := (List.getElem?_eq_some_iff.1 hi).1
  exact hij ((List.getElem?_inj hil h).1 (hi.trans hj.symm))
section
variable {w0 w : World} {bs : List Nat} {A A2 A3 : Option Addr} {c c2 c3 g : Nat} {x y z : Tr}
def GPost (ts : List Tr) (w : World) (e : Ending) (w' : World) : Prop := ∃ r : Bool, e = .returned (.bool r) ∧ Hid (r = false → Short5 ts) ∧ Hid (Below w.heap.size w w')
theorem large1_c (h1 : RT w bs A c x) (hg : w.heap.size = g) :
    Calls Tryd.prog 18 #[.slice (some ⟨g, 0, none⟩) 1 1] (w.alloc (.cells #[.slice A x.nodes.length c, .int .i64 x.root] 34)) (GPost [x] w) := by
  subst hg
  exact (large_g (row1 h1) (fun b hb => by simpa using hb)).mono fun e w' ⟨r, he, hs, hb⟩ => ⟨r, he, Lib.hid hs, Lib.hid ((below_row _ _).trans (hb.mono (by simp)))⟩
theorem large3_c (h1 : RT w bs A c x) (h2 : RT w bs A2 c2 y) (h3 : RT w bs A3 c3 z) (hg : w.heap.size = g) :
    Calls Tryd.prog 18 #[.slice (some ⟨g, 0, none⟩) 3 3] (w.alloc (.cells #[.slice A x.nodes.length c, .int .i64 x.root, .slice A2 y.nodes.length c2, .int .i64 y.root, .slice A3 z.nodes.length c3, .int .i64 z.root] 34)) (GPost [x, y, z] w) := by
  subst hg
  exact (large_g (row3 h1 h2 h3) (fun b hb => by simpa using hb)).mono fun e w' ⟨r, he, hs, hb⟩ => ⟨r, he, Lib.hid hs, Lib.hid ((below_row _ _).trans (hb.mono (by simp)))⟩
theorem awake_c (hE : Ev w0 w) : Calls Tryd.prog 19 #[] w fun e w' => e = .returned (.bool true) ∧ Hid (Below w.heap.size w w') :=
  (awake_g hE.ktab hE.tog).mono fun e w' ⟨he, hb⟩ => ⟨he, Lib.hid hb⟩
theorem right_c (hE : Ev w0 w) (h1 : RT w bs A c x) (hs : x.nodes.length ≤ 500000) : Calls Tryd.prog 16 #[.agg #[.slice A x.nodes.length c, .int .i64 x.root]] w fun e w' => e = .returned (.bool (decide (RightT x))) ∧ Hid (Below w.heap.size w w') :=
  (right_g (h1.given hE hs)).mono fun e w' ⟨he, hb⟩ => ⟨he, Lib.hid hb⟩
theorem is_cc {b : Bool} (hE : Ev w0 w) (h1 : RT w bs A c x) (h2 : RT w bs A2 c2 y) (hxy : x = y) (hs : x.nodes.length ≤ 500000) (hb : b = true) :
    Calls Tryd.prog 21 #[.agg #[.slice A x.nodes.length c, .int .i64 x.root], .bool b, .agg #[.slice A2 y.nodes.length c2, .int .i64 y.root]] w fun e w' => e = .returned (.bool true) ∧ Hid (Below w.heap.size w w') :=
  (is_c hE h1 h2 hxy hs hb).mono fun e w' ⟨he, hb⟩ => ⟨he, Lib.hid hb⟩
end
end Go.Proofs.YtclfpjfjebheoaaDoor

/- ExprPuts: for every input the law answers true and the input reads as it did (the tied card: the listed package variables lie as their text lays them). No other condition. -/
import Derived.Test.YtclfpjfjebheoaaDoorZPutsa
import Derived.Test.YtclfpjfjebheoaaDoorCards
import Derived.Test.YtclfpjfjebheoaaDoorTie
import Derived.LaidHandle
import Derived.LaidSub
/- The contracts of bonsairef05.Make and bonsairef05.Of. -/
namespace Go.Proofs.YtclfpjfjebheoaaDoor
set_option linter.unusedSimpArgs false
open Go.RowKit
open Classical

theorem nfTr_flatT {x : T} (h : FitT x) : nfTr (flatT x) = flatT (nf x) := by unfold nfTr; rw [if_pos (right_flat h), treeOf_flat]
def RMakeC (t : Tr) : Prop := ∀ (v : Value) (S : Nat → Prop) (w : World), GivenR t v S w → t.nodes.length ≤ 100000 → Calls Tryd.prog 82 #[v] w (MakePost t w)

set_option maxRecDepth 20000 in
set_option maxHeartbeats 8000000 in
theorem rMake_step {t : Tr} (hM : ∀ k ∈ kidsOfT t, RMakeC k) : RMakeC t := by
  intro v S w h hlen
  obtain ⟨nv, rfl, hns, hr1, hr2⟩ := h.given.read
  obtain ⟨A, c, rfl, hc, hs, -⟩ := hns.at_
  obtain ⟨ws, hws⟩ : ∃ ws, ws = (w.alloc (.cells #[.slice A t.nodes.length c, .int .i64 t.root] 34)).alloc (.cells #[.slice none 0 0, .int .i64 0] 34) := ⟨_, rfl⟩
  have hbs : Below w.heap.size w ws := by rw [hws]; exact ((Below.refl _ _).alloc (Nat.le_refl _) _).alloc (by simp) _
  have hss : ws.heap.size = w.heap.size + 2 := by rw [hws]; simp
  have hBT : Blk ws w.heap.size 34 #[.slice A t.nodes.length c, .int .i64 t.root] := by rw [hws]; exact (Blk.new _ _ _).alloc _
  have HBT := Lib.hid hBT
  have HBR := Lib.hid (show Blk ws (w.heap.size + 1) 34 #[.slice none 0 0, .int .i64 0] by rw [hws]; exact Blk.new1 _ _ _ _)
  have HG := Lib.hid (h.below hbs)
  have HBS := Lib.hid hbs
  have HSS := Lib.hid hss
  have HRI := Lib.hid (rright_g (h.below hbs))
  have HM := Lib.hid hM
  have HLN := Lib.hid hlen
  obtain ⟨i0, hi0, hz0, hz1, hz2⟩ := info_parts tree_info
  have hia : Hid (Tryd.prog.info? 34 = some i0 ∧ i0.zero = some (.agg #[.slice none 0 0, .int .i64 0]) ∧ i0.size = 2 ∧ i0.bytes = 32) := Lib.hid ⟨hi0, hz0, hz1, hz2⟩
  have b0 : ws.cell? ⟨w.heap.size, 0, none⟩ = some (.slice A t.nodes.length c) := hBT.cell 0
  have b1 : ws.cell? ⟨w.heap.size, 1, none⟩ = some (.int .i64 t.root) := hBT.cell 1
  rw [hws] at b0 b1
  clear h hM hns hBT hbs hss hi0 hz0 hz1 hz2 hlen
  by_cases hr : RightT t
  · have hp := HRI.out
    rw [decide_eq_true hr] at hp
    have HRI2 := Lib.hid hp
    have HR := Lib.hid hr
    clear hp hr HRI
    go_enter Tryd.func82, Tryd.ntmps82
    go_wp2_with fail
    rw [← hws]
    clear hws b0 b1
    refine Calls.mono HRI2.out ?_
    rintro e w2 ⟨rfl, hb2⟩
    have HB2 := Lib.hid hb2
    have b0 : w2.cell? ⟨w.heap.size, 0, none⟩ = some (.slice A t.nodes.length c) := (HBT.out.below hb2 HBT.out.lt).cell 0
    have b1 : w2.cell? ⟨w.heap.size, 1, none⟩ = some (.int .i64 t.root) := (HBT.out.below hb2 HBT.out.lt).cell 1
    have HKI := Lib.hid (rKids_g (HG.out.below hb2))
    clear hb2
    go_wp2_with fail
    clear b0 b1
    refine Calls.mono HKI.out ?_
    rintro e w3 ⟨u3, rfl, hu3, hb3⟩
    obtain ⟨K, hK⟩ : ∃ K, K = (treeOf t).kids := ⟨_, rfl⟩
    have hkk : kidsOfT t = K.map flatT := by rw [kidsOfT_right HR.out, hK]
    rw [hkk] at hu3
    have hKz : sizes K + 1 = t.nodes.length := by
      have h1 := HR.out.size
      have h2 := size_kids (treeOf t)
      rw [← hK] at h2
      omega
    have hKl : K.length ≤ 100000 := by have := sizes_len K; have := HLN.out; omega
    have HB3 := Lib.hid (HB2.out.trans (hb3.mono HB2.out.size))
    have HRG := Lib.hid (show RG5 (fun b => w2.heap.size ≤ b ∧ b < w3.heap.size ∧ Soft w3 b) K u3 w3 from ⟨OwnList.soft hu3, fun b hb => hb.2, by rw [hK]; exact HR.out.fitT.kids, HG.out.given.tab.below HB3.out, by have := HLN.out; omega⟩)
    obtain ⟨A3, c3, e3, -⟩ := HRG.out.row.at_
    rw [List.length_map] at e3
    subst e3
    have HMK := Lib.hid (show ∀ x ∈ K, RMakeC (flatT x) from fun x hx => HM.out _ (by rw [hkk]; exact List.mem_map.2 ⟨x, hx, rfl⟩))
    have HKE := Lib.hid hK
    have HW23 := Lib.hid (show ws.heap.size ≤ w3.heap.size from HB3.out.size)
    have HFK := Lib.hid (show ∀ x ∈ K, FitT x by rw [hK]; exact HR.out.fitT.kids)
    have HKZ := Lib.hid hKz
    clear hu3 hb3 hkk hK hKz
    obtain ⟨n, hn⟩ : ∃ n, n = K.length := ⟨_, rfl⟩
    rw [← hn] at hKl HRG ⊢
    have HNN := Lib.hid hn
    clear hn
    go_wp2_with fail
    go_loopw [4, 6] (fun vo i wr => ∃ (j : Nat) (Ao : Option Addr) (co : Nat), j ≤ n ∧ i = .int .i64 j ∧ vo = .slice Ao j co ∧ Hid (OL wr w3.heap.size (fun b => w3.heap.size ≤ b) (.slice Ao j co) (((K.take j).map nf).map flatT)) ∧ Hid (Below w3.heap.size w3 wr)) (fun _ i _ => n - (intOf i).toNat)
    case atStart => exact ⟨0, none, 0, Nat.zero_le _, rfl, rfl, Lib.hid (OL.nil_ _ _ _), Lib.hid (Below.refl _ _)⟩
    case round =>
      obtain ⟨wo, rfl⟩ : ∃ wo, wo = wr := ⟨_, rfl⟩
      obtain ⟨j, Ao, co, hj, rfl, rfl, HO, HW⟩ := hrel
      by_cases hlt : j < n
      · obtain ⟨x, hx⟩ : ∃ x, K[j]? = some x := ⟨_, List.getElem?_eq_getElem (by have := HNN.out; omega)⟩
        have hxm := List.mem_of_getElem? hx
        have hxz : x.size ≤ 100000 := by have := size_mem5 hxm; have := HKZ.out; have := HLN.out; omega
        have hfx := HFK.out x hxm
        obtain ⟨b, off, Ak, ck, rfl, -, hbw, hxt, d0, d1⟩ := (HRG.out.below HW.out).at_ hx
        have hgr := RG5.givenR hxt (fun b hb => ((HRG.out.below HW.out).soft b hb).1) (HRG.out.below HW.out).tab hxz
        have hmk := HMK.out x hxm _ _ _ hgr (by rw [flatT_len]; exact hxz)
        obtain ⟨tx, htx⟩ : ∃ tx, tx = flatT x := ⟨_, rfl⟩
        obtain ⟨y, hy⟩ : ∃ y, y = flatT (nf x) := ⟨_, rfl⟩
        have hmk2 : Calls Tryd.prog 82 #[.agg #[.slice Ak tx.nodes.length ck, .int .i64 tx.root]] wo fun e w' => ∃ u, e = .returned (.tuple #[u, .bool true]) ∧ XTree w' (fun b => wo.heap.size ≤ b) u y ∧ Below wo.heap.size wo w' := by
          rw [htx, hy, ← nfTr_flatT hfx]
          refine hmk.mono fun e w' hp => ?_
          obtain ⟨u, he, hu, hb⟩ := (show MakePost (flatT x) wo e w' from hp)
          rw [decide_eq_true (right_flat hfx)] at he
          exact ⟨u, he, hu, hb⟩
        rw [← htx] at d0 d1
        have HMK2 := Lib.hid hmk2
        have HY := Lib.hid hy
        have HLEN := Lib.hid (show (((K.take j).map nf).map flatT).length = j by rw [List.length_map, List.length_map, List.length_take]; have := HNN.out; omega)
        have HTK := Lib.hid (show ((K.take (j + 1)).map nf).map flatT = ((K.take j).map nf).map flatT ++ [y] by rw [List.take_add_one, hx, hy]; simp)
        have HWS := Lib.hid (show w3.heap.size ≤ wo.heap.size from HW.out.size)
        have hj0 : (0 : Int) ≤ (j : Int) := by omega
        have hj1 : (j : Int) < (n : Int) := by omega
        clear hx hxm hfx hxt hgr hmk htx hy hmk2
        go_wp2_with fail
        clear d0 d1
        refine Calls.mono HMK2.out ?_
        rintro e w4 ⟨u, rfl, hu, hb4⟩
        obtain ⟨Au, cu, rfl⟩ := hu.agg
        have hby : Below wo.heap.size wo (w4.alloc (.cells #[.slice Au y.nodes.length cu, .int .i64 y.root] 34)) := hb4.trans ((below_row0 w4 _).mono hb4.size)
        have hOy := HO.out.below hby
        have huy := hu.below (below_row0 w4 (.cells #[.slice Au y.nodes.length cu, .int .i64 y.root] 34))
        obtain ⟨nvs, hnl, hrow, hns⟩ := id hOy
        rw [HLEN.out] at hrow
        have HROW := Lib.hid hrow
        have HNV := Lib.hid (And.intro hnl hns)
        have HUY := Lib.hid huy
        have HBY := Lib.hid hby
        have HBS := Lib.hid (show w3.heap.size ≤ (w4.alloc (.cells #[.slice Au y.nodes.length cu, .int .i64 y.root] 34)).heap.size by have := hby.size; have := HW.out.size; omega)
        have HRB := Lib.hid (fun r (hr : (Value.slice Ao j co).ownBlock = some r) => HO.out.lt hr)
        clear hu hb4 hby hOy huy hrow hnl hns
        go_wp2_with (first
          | (at_builtin
             refine wpList_append1N (w4.alloc (.cells #[.slice Au y.nodes.length cu, .int .i64 y.root] 34)) (w4.heap.size + 1) (by simp) rfl (.tmp 29) (.tmp 31) _ rfl w3.heap.size 34 i0 _ 2 32 Tryd.underlying48 hia.out.1 hia.out.2.1 hia.out.2.2.1 hia.out.2.2.2 rfl (by omega) (.slice Ao j co) j (treesCells (((K.take j).map nf).map flatT) nvs) rfl HROW.out [_, _] rfl rfl (by simp [Value.oneCell']) (by unfold maxLen; omega) (by omega) HBS.out ?_
             intro v5 w5 hown5 hg5 hat5
             obtain ⟨A5, c5, rfl, _, _, _⟩ := own_slice hown5)
          | fail)
        obtain ⟨nv, hv, hn1, hn2, hn3⟩ := HUY.out
        have ev : nv = .slice Au y.nodes.length cu := by simp at hv; exact hv.symm
        subst ev
        have hp := OL.push HNV.out.1 HNV.out.2 hn1 hn2 hn3 (fun b hb => ⟨by have := hb.1; have := HWS.out; omega, hb.2.1, fun e => by have := (HRB.out b e).2; have := hb.1; have := HWS.out; omega, hb.2.2⟩) (by rw [HLEN.out]; exact hown5) hg5 (by
          rcases hat5 with h | h
          · exact .inl h
          · exact .inr fun g hg => by rw [h] at hg; injection hg; omega)
        have hb5 := (HW.out.trans (HBY.out.mono HW.out.size)).trans (below_of_grown hg5 (by have := HBS.out; omega) fun r hr => (HRB.out r hr).1)
        go_roundw
        case measure => simp [intOf]; omega
        case rel => exact ⟨j + 1, A5, c5, by omega, by go_num, rfl, Lib.hid (by rw [HTK.out]; exact hp), Lib.hid hb5⟩
      · obtain rfl : j = n := by omega
        have hB2 := HB3.out.trans (HW.out.mono HW23.out)
        have b0 : wo.cell? ⟨w.heap.size, 0, none⟩ = some (.slice A t.nodes.length c) := (HBT.out.below hB2 HBT.out.lt).cell 0
        have b1 : wo.cell? ⟨w.heap.size, 1, none⟩ = some (.int .i64 t.root) := (HBT.out.below hB2 HBT.out.lt).cell 1
        obtain ⟨d, hd⟩ : ∃ d, d = (treeOf t).d := ⟨_, rfl⟩
        have HRO := Lib.hid (show Calls Tryd.prog 93 #[.agg #[.slice A t.nodes.length c, .int .i64 t.root]] wo fun e w' => e = .returned (.agg #[.int .u8 d.kind, .int .u64 d.s0, .int .u64 d.s1, .int .u64 d.s2, .int .u64 d.s3, .string ⟨d.text.toArray⟩, .int .i64 d.min, .int .i64 d.max, .slice none 0 0]) ∧ Below wo.heap.size wo w' from
          (rRoot_g (HG.out.below hB2)).mono fun e w' h => by
            obtain ⟨⟨N0, he, hN0⟩, hbb⟩ := h
            rw [root_of_right HR.out, ← hd] at hN0
            exact ⟨by rw [he, hN0]; rfl, hbb⟩)
        have hok : d.Ok := by have := root_ok HG.out.given.read; rw [root_of_right HR.out] at this; rw [hd]; exact this
        have hfit : fits d j = true := by rw [hd, HNN.out, HKE.out]; exact HR.out.fitT.fit
        have hl : (((K.take j).map nf).map flatT) = (K.map nf).map flatT := by rw [List.take_of_length_le (by have := HNN.out; omega)]
        have hOL := HO.out
        rw [hl] at hOL
        have HOL := Lib.hid hOL
        have HB2o := Lib.hid hB2
        have HPU := Lib.hid (fun (wx : World) (hx : Below wo.heap.size wo wx) => rput_g hok (fun h => (fits_four hfit h).1) (fun h => (fits_five hfit h).1) (L := K.map nf) (v := .slice Ao j co) (w := wx)
          ⟨ol_soft (HOL.out.below hx), fun b hb => hb, fun y hy => by
            obtain ⟨k, hk, rfl⟩ := List.mem_map.1 hy
            exact nf_fit k (HFK.out k hk), (HG.out.given.tab.below hB2).below hx, by have := sizes_nf K; have := HKZ.out; have := HLN.out; omega⟩ (fun y hy => by
            obtain ⟨k, hk, rfl⟩ := List.mem_map.1 hy
            exact nf_nt k))
        have HEQ := Lib.hid (show decide (d.kind = 4 ∨ d.kind = 5 ∨ fits d (K.map nf).length = true) = true from decide_eq_true (.inr (.inr (by rw [List.length_map, ← HNN.out]; exact hfit))))
        have HNF := Lib.hid (show flatT (tog d (K.map nf)) = nfTr t by
          unfold nfTr
          rw [if_pos HR.out, hd, HKE.out, ← nf_node]
          exact congrArg (fun z => flatT (nf z)) (T.eta _).symm)
        have HW3W := Lib.hid (show ws.heap.size ≤ wo.heap.size from hB2.size)
        clear hB2 hok hfit hl hOL hd
        go_wp2_with fail
        clear b0 b1
        refine Calls.mono HRO.out ?_
        rintro e w5 ⟨rfl, hb5⟩
        have HB5 := Lib.hid hb5
        have HPU5 := Lib.hid (HPU.out w5 hb5)
        clear hb5
        go_wp2_with fail
        refine Calls.mono HPU5.out ?_
        rintro e w6 ⟨u6, bb, x6, rfl, hbb, hx6, hu6, hb6⟩
        rw [HEQ.out] at hbb
        subst hbb
        simp only [if_true] at hx6
        rw [HNF.out] at hx6
        have HX6 := Lib.hid hx6
        have hbw3 : Below ws.heap.size ws w6 := (HB2o.out.trans (HB5.out.mono HB2o.out.size)).trans (hb6.mono (Nat.le_trans HB2o.out.size HB5.out.size))
        have hx3 : XTree w6 (fun b => w.heap.size + 2 ≤ b) u6 x6 := hu6.weaken fun b hb _ => by have := HB5.out.size; have := HW3W.out; have := HSS.out; omega
        clear hu6 hb6 hx6
        obtain ⟨A6, c6, rfl⟩ := hx3.agg
        have hR3 := HBR.out.below hbw3 HBR.out.lt
        have g0 : w6.cell? ⟨w.heap.size + 1, 0, none⟩ = some (.slice none 0 0) := hR3.cell 0
        have g1 : w6.cell? ⟨w.heap.size + 1, 1, none⟩ = some (.int .i64 0) := hR3.cell 1
        have f0 := hR3.frozen 0
        have f1 := hR3.frozen 1
        have HEND := Lib.hid (put_end (cs := #[]) (HBS.out.trans (hbw3.mono HBS.out.size)) hx3 hR3)
        clear hx3 hR3 hbw3
        go_wp2_with fail
        refine bodyPost_ret (results_cell2 rfl _ _ (w.heap.size + 1) _ _ _ rfl HEND.out.1 Tryd.underlying34 rfl tree_size) rfl ?_
        exact (show MakePost t w _ _ from ⟨_, by rw [decide_eq_true HR.out]; rfl, by rw [← HX6.out]; exact HEND.out.2.1, HEND.out.2.2⟩)
  · have hp := HRI.out
    rw [decide_eq_false hr] at hp
    have HRI2 := Lib.hid hp
    have HR := Lib.hid hr
    clear hp hr HRI
    go_enter Tryd.func82, Tryd.ntmps82
    go_wp2_with fail
    rw [← hws]
    clear hws b0 b1
    refine Calls.mono HRI2.out ?_
    rintro e w2 ⟨rfl, hb2⟩
    have HC2 := Lib.hid (HBR.out.below hb2 HBR.out.lt)
    have Hb2 := Lib.hid (HBS.out.trans (hb2.mono HBS.out.size))
    clear hb2
    have g0 : w2.cell? ⟨w.heap.size + 1, 0, none⟩ = some (.slice none 0 0) := HC2.out.cell 0
    have g1 : w2.cell? ⟨w.heap.size + 1, 1, none⟩ = some (.int .i64 0) := HC2.out.cell 1
    have f0 := HC2.out.frozen 0
    have f1 := HC2.out.frozen 1
    go_wp2_with fail
    obtain ⟨w9, hw9⟩ : ∃ w9, w9 = (w2.setCell ⟨w.heap.size + 1, 0, none⟩ (.slice none 0 0)).setCell ⟨w.heap.size + 1, 1, none⟩ (.int .i64 0) := ⟨_, rfl⟩
    have hB9 : Blk w9 (w.heap.size + 1) 34 #[.slice none 0 0, .int .i64 0] := by rw [hw9]; exact HC2.out.set2 (.slice none 0 0) (.int .i64 0)
    have hb9 : Below w.heap.size w w9 := by rw [hw9]; exact (Hb2.out.setCell (by simp) _).setCell (by simp) _
    rw [← hw9]
    refine bodyPost_ret (results_cell2 rfl _ _ (w.heap.size + 1) _ _ _ rfl hB9 Tryd.underlying34 rfl tree_size) rfl ?_
    exact (show MakePost t w _ _ from ⟨_, by rw [decide_eq_false HR.out]; rfl, by rw [show nfTr t = zeroT from if_neg HR.out]; exact XTree.zero _ _, hb9⟩)
theorem rMake_g (t : Tr) : RMakeC t := by
  have : ∀ (n : Nat) (t : Tr), t.nodes.length < n → RMakeC t := by
    intro n
    induction n with
    | zero => intro t h; omega
    | succ n ih =>
      intro t h
      refine rMake_step fun k hk => ih k ?_
      by_cases hr : RightT t
      · have h1 := kidsOfT_sum hr
        have h2 := sum_mem hk
        omega
      · rw [show kidsOfT t = [] from if_neg hr] at hk; simp at hk
  exact this (t.nodes.length + 1) t (Nat.lt_succ_self _)

set_option maxRecDepth 20000 in
set_option maxHeartbeats 8000000 in
theorem rOf5_g {d : Dt} (hd : d.Ok) (h4 : d.kind = 4 → d = seqD) (h5 : d.kind = 5 → d = choiceD) {ts : List Tr} {v : Value} {S : Nat → Prop} {w : World} (h : GivenL ts v S w) (hkids : ∀ t ∈ ts, ∀ n ∈ t.nodes, n.kids.length ≤ 1000000) (hsum : (ts.map (·.nodes.length)).sum ≤ 100000) (hfew : ts.length ≤ 100000) :
    Calls Tryd.prog 66 #[.agg #[.int .u8 d.kind, .int .u64 d.s0, .int .u64 d.s1, .int .u64 d.s2, .int .u64 d.s3, .string ⟨d.text.toArray⟩, .int .i64 d.min, .int .i64 d.max, .slice none 0 0], v] w (OfPost d ts w) := by
  obtain ⟨A, c, rfl, -, -, -⟩ := h.read.at_
  obtain ⟨ws, hws⟩ : ∃ ws, ws = (w.alloc (.cells #[.int .u8 d.kind, .int .u64 d.s0, .int .u64 d.s1, .int .u64 d.s2, .int .u64 d.s3, .string ⟨d.text.toArray⟩, .int .i64 d.min, .int .i64 d.max, .slice none 0 0] 65)).alloc (.cells #[.slice none 0 0, .int .i64 0] 34) := ⟨_, rfl⟩
  have hbs : Below w.heap.size w ws := by rw [hws]; exact ((Below.refl _ _).alloc (Nat.le_refl _) _).alloc (by simp) _
  have hss : ws.heap.size = w.heap.size + 2 := by rw [hws]; simp
  have HBN := Lib.hid (show Blk ws w.heap.size 65 #[.int .u8 d.kind, .int .u64 d.s0, .int .u64 d.s1, .int .u64 d.s2, .int .u64 d.s3, .string ⟨d.text.toArray⟩, .int .i64 d.min, .int .i64 d.max, .slice none 0 0] by rw [hws]; exact (Blk.new _ _ _).alloc _)
  have HBR := Lib.hid (show Blk ws (w.heap.size + 1) 34 #[.slice none 0 0, .int .i64 0] by rw [hws]; exact Blk.new1 _ _ _ _)
  have HG := Lib.hid (h.below hbs)
  have HKD := Lib.hid hkids
  have HSM := Lib.hid hsum
  have HD := Lib.hid (And.intro hd (And.intro h4 h5))
  have HBS := Lib.hid hbs
  have HSS := Lib.hid hss
  obtain ⟨i0, hi0, hz0, hz1, hz2⟩ := info_parts tree_info
  have hia : Hid (Tryd.prog.info? 34 = some i0 ∧ i0.zero = some (.agg #[.slice none 0 0, .int .i64 0]) ∧ i0.size = 2 ∧ i0.bytes = 32) := Lib.hid ⟨hi0, hz0, hz1, hz2⟩
  clear h hkids hsum hd h4 h5 hbs hss hi0 hz0 hz1 hz2
  obtain ⟨n, hn⟩ : ∃ n, n = ts.length := ⟨_, rfl⟩
  rw [← hn] at hfew HG ⊢
  have HNN := Lib.hid hn
  clear hn
  go_enter Tryd.func66, Tryd.ntmps66
  go_wp2_with fail
  rw [← hws]
  clear hws
  go_loopw [6, 7] (fun vo i wr => ∃ (j : Nat) (Ao : Option Addr) (co : Nat), j ≤ n ∧ i = .int .i64 j ∧ vo = .slice Ao j co ∧ Hid (∀ t ∈ ts.take j, RightT t) ∧ Hid (OL wr ws.heap.size (fun b => ws.heap.size ≤ b) (.slice Ao j co) ((ts.take j).map nfTr)) ∧ Hid (Below ws.heap.size ws wr)) (fun _ i _ => n - (intOf i).toNat)
  case atStart => exact ⟨0, none, 0, Nat.zero_le _, rfl, rfl, Lib.hid (by simp), Lib.hid (OL.nil_ _ _ _), Lib.hid (Below.refl _ _)⟩
  case round =>
    obtain ⟨wo, rfl⟩ : ∃ wo, wo = wr := ⟨_, rfl⟩
    obtain ⟨j, Ao, co, hj, rfl, rfl, HT, HO, HW⟩ := hrel
    by_cases hlt : j < n
    · obtain ⟨t, ht⟩ : ∃ t, ts[j]? = some t := ⟨_, List.getElem?_eq_getElem (by have := HNN.out; omega)⟩
      have htm := List.mem_of_getElem? ht
      have htz : t.nodes.length ≤ 100000 := Nat.le_trans (sum_mem htm) HSM.out
      obtain ⟨b, off, Ak, ck, hA, hSb, hg, d0, d1⟩ := (show GivenL ts (.slice A n c) S wo from HG.out.below HW.out).at_ j t ht
      subst hA
      have hmk := rMake_g t _ _ _ (show GivenR t _ S wo from ⟨hg, HKD.out t htm⟩) htz
      have HTJ := Lib.hid ht
      have HWS := Lib.hid (show ws.heap.size ≤ wo.heap.size from HW.out.size)
      have hj0 : (0 : Int) ≤ (j : Int) := by omega
      have hj1 : (j : Int) < (n : Int) := by omega
      obtain ⟨y, hy⟩ : ∃ y, y = nfTr t := ⟨_, rfl⟩
      have HLEN := Lib.hid (show ((ts.take j).map nfTr).length = j by rw [List.length_map, List.length_take]; have := HNN.out; omega)
      have HTK := Lib.hid (show (ts.take (j + 1)).map nfTr = (ts.take j).map nfTr ++ [y] by rw [List.take_add_one, ht, hy]; simp)
      by_cases hr : RightT t
      · have hmk2 : Calls Tryd.prog 82 #[.agg #[.slice Ak t.nodes.length ck, .int .i64 t.root]] wo fun e w' => ∃ u, e = .returned (.tuple #[u, .bool true]) ∧ XTree w' (fun b => wo.heap.size ≤ b) u y ∧ Below wo.heap.size wo w' := by
          rw [hy]
          refine hmk.mono fun e w' hp => ?_
          obtain ⟨u, he, hu, hb⟩ := (show MakePost t wo e w' from hp)
          rw [decide_eq_true hr] at he
          exact ⟨u, he, hu, hb⟩
        have HMK2 := Lib.hid hmk2
        have HR := Lib.hid hr
        clear hmk hmk2 hr hg ht htm hy
        go_wp2_with fail
        clear d0 d1
        refine Calls.mono HMK2.out ?_
        rintro e w4 ⟨u, rfl, hu, hb4⟩
        obtain ⟨Au, cu, rfl⟩ := hu.agg
        have hby : Below wo.heap.size wo (w4.alloc (.cells #[.slice Au y.nodes.length cu, .int .i64 y.root] 34)) := hb4.trans ((below_row0 w4 _).mono hb4.size)
        have hOy := HO.out.below hby
        have huy := hu.below (below_row0 w4 (.cells #[.slice Au y.nodes.length cu, .int .i64 y.root] 34))
        obtain ⟨nvs, hnl, hrow, hns⟩ := id hOy
        rw [HLEN.out] at hrow
        have HROW := Lib.hid hrow
        have HNV := Lib.hid (And.intro hnl hns)
        have HUY := Lib.hid huy
        have HBY := Lib.hid hby
        have HBS := Lib.hid (show ws.heap.size ≤ (w4.alloc (.cells #[.slice Au y.nodes.length cu, .int .i64 y.root] 34)).heap.size by have := hby.size; have := HW.out.size; omega)
        have HRB := Lib.hid (fun r (hr : (Value.slice Ao j co).ownBlock = some r) => HO.out.lt hr)
        clear hu hb4 hby hOy huy hrow hnl hns
        go_wp2_with (first
          | (at_builtin
             refine wpList_append1N (w4.alloc (.cells #[.slice Au y.nodes.length cu, .int .i64 y.root] 34)) (w4.heap.size + 1) (by simp) rfl (.tmp 27) (.tmp 29) _ rfl ws.heap.size 34 i0 _ 2 32 Tryd.underlying48 hia.out.1 hia.out.2.1 hia.out.2.2.1 hia.out.2.2.2 rfl (by omega) (.slice Ao j co) j (treesCells ((ts.take j).map nfTr) nvs) rfl HROW.out [_, _] rfl rfl (by simp [Value.oneCell']) (by unfold maxLen; omega) (by omega) HBS.out ?_
             intro v5 w5 hown5 hg5 hat5
             obtain ⟨A5, c5, rfl, _, _, _⟩ := own_slice hown5)
          | fail)
        obtain ⟨nv, hv, hn1, hn2, hn3⟩ := HUY.out
        have ev : nv = .slice Au y.nodes.length cu := by simp at hv; exact hv.symm
        subst ev
        have hp := OL.push HNV.out.1 HNV.out.2 hn1 hn2 hn3 (fun b hb => ⟨by have := hb.1; have := HWS.out; omega, hb.2.1, fun e => by have := (HRB.out b e).2; have := hb.1; have := HWS.out; omega, hb.2.2⟩) (by rw [HLEN.out]; exact hown5) hg5 (by
          rcases hat5 with h | h
          · exact .inl h
          · exact .inr fun g hg => by rw [h] at hg; injection hg; omega)
        have hb5 := (HW.out.trans (HBY.out.mono HW.out.size)).trans (below_of_grown hg5 (by have := HBS.out; omega) fun r hr => (HRB.out r hr).1)
        go_roundw
        case measure => simp [intOf]; omega
        case rel => exact ⟨j + 1, A5, c5, by omega, by go_num, rfl, Lib.hid (fun x hx => by
            rw [List.take_add_one, HTJ.out] at hx
            rcases List.mem_append.1 hx with hx | hx
            · exact HT.out x hx
            · simp at hx; subst hx; exact HR.out), Lib.hid (by rw [HTK.out]; exact hp), Lib.hid hb5⟩
      · have hmk2 : Calls Tryd.prog 82 #[.agg #[.slice Ak t.nodes.length ck, .int .i64 t.root]] wo fun e w' => ∃ u, e = .returned (.tuple #[u, .bool false]) ∧ XTree w' (fun b => wo.heap.size ≤ b) u y ∧ Below wo.heap.size wo w' := by
          rw [hy]
          refine hmk.mono fun e w' hp => ?_
          obtain ⟨u, he, hu, hb⟩ := (show MakePost t wo e w' from hp)
          rw [decide_eq_false hr] at he
          exact ⟨u, he, hu, hb⟩
        have HMK2 := Lib.hid hmk2
        have HNA := Lib.hid (show ¬ ∀ t ∈ ts, RightT t from fun h => hr (h t htm))
        clear hmk hmk2 hr hg ht htm hy
        go_wp2_with fail
        clear d0 d1
        refine Calls.mono HMK2.out ?_
        rintro e w4 ⟨u, rfl, hu, hb4⟩
        obtain ⟨Au, cu, rfl⟩ := hu.agg
        have hby : Below wo.heap.size wo (w4.alloc (.cells #[.slice Au y.nodes.length cu, .int .i64 y.root] 34)) := hb4.trans ((below_row0 w4 _).mono hb4.size)
        obtain ⟨w5, hw5⟩ : ∃ w5, w5 = w4.alloc (.cells #[.slice Au y.nodes.length cu, .int .i64 y.root] 34) := ⟨_, rfl⟩
        rw [← hw5] at hby
        have hbw := HW.out.trans (hby.mono HW.out.size)
        have HC2 := Lib.hid (HBR.out.below hbw HBR.out.lt)
        have Hb2 := Lib.hid (HBS.out.trans (hbw.mono HBS.out.size))
        clear hu hb4 hby hbw
        subst hw5
        have g0 : (w4.alloc (.cells #[.slice Au y.nodes.length cu, .int .i64 y.root] 34)).cell? ⟨w.heap.size + 1, 0, none⟩ = some (.slice none 0 0) := HC2.out.cell 0
        have g1 : (w4.alloc (.cells #[.slice Au y.nodes.length cu, .int .i64 y.root] 34)).cell? ⟨w.heap.size + 1, 1, none⟩ = some (.int .i64 0) := HC2.out.cell 1
        have f0 := HC2.out.frozen 0
        have f1 := HC2.out.frozen 1
        go_wp2_with fail
        obtain ⟨w9, hw9⟩ : ∃ w9, w9 = ((w4.alloc (.cells #[.slice Au y.nodes.length cu, .int .i64 y.root] 34)).setCell ⟨w.heap.size + 1, 0, none⟩ (.slice none 0 0)).setCell ⟨w.heap.size + 1, 1, none⟩ (.int .i64 0) := ⟨_, rfl⟩
        have hB9 : Blk w9 (w.heap.size + 1) 34 #[.slice none 0 0, .int .i64 0] := by rw [hw9]; exact HC2.out.set2 (.slice none 0 0) (.int .i64 0)
        have hb9 : Below w.heap.size w w9 := by rw [hw9]; exact (Hb2.out.setCell (by simp) _).setCell (by simp) _
        rw [← hw9]
        refine bodyPost_ret (results_cell2 rfl _ _ (w.heap.size + 1) _ _ _ rfl hB9 Tryd.underlying34 rfl tree_size) rfl ?_
        exact (show OfPost d ts w _ _ from ⟨_, by rw [show ofEB d ts = false from decide_eq_false fun h => HNA.out h.1]; rfl, by rw [show ofET d ts = zeroT from if_neg fun h => HNA.out h.1]; exact XTree.zero _ _, hb9⟩)
    · obtain rfl : j = n := by omega
      have hall : ts.take j = ts := List.take_of_length_le (by have := HNN.out; omega)
      have HALL := Lib.hid (show ∀ t ∈ ts, RightT t by have := HT.out; rwa [hall] at this)
      have hOL := HO.out
      rw [hall, nfTr_map HALL.out] at hOL
      have HOL := Lib.hid hOL
      obtain ⟨e0, e1, e2, e3, e4, e5, e6, e7, e8⟩ := (HBN.out.below HW.out HBN.out.lt).nine
      have HPU := Lib.hid (rput_g HD.out.1 HD.out.2.1 HD.out.2.2 (L := ts.map fun t => nf (treeOf t)) (v := .slice Ao j co) (w := wo)
          ⟨ol_soft HOL.out, fun b hb => hb, nf_fits HALL.out, HG.out.tab.below HW.out, by
            have h1 := sizes_nf (ts.map treeOf)
            rw [sizes_treeOf HALL.out, List.map_map] at h1
            exact Nat.le_trans h1 HSM.out⟩ (fun y hy => by
            obtain ⟨k, hk, rfl⟩ := List.mem_map.1 hy
            exact nf_nt _))
      clear hOL hall
      go_wp2_with fail
      clear e0 e1 e2 e3 e4 e5 e6 e7 e8
      refine Calls.mono HPU.out ?_
      rintro e w6 ⟨u6, bb, x6, rfl, hbb, hx6, hu6, hb6⟩
      have hbo : bb = ofEB d ts := by
        unfold ofEB
        rw [hbb, Bool.eq_iff_iff, decide_eq_true_iff, decide_eq_true_iff, List.length_map]
        exact ⟨fun h => ⟨HALL.out, h⟩, fun h => h.2⟩
      have hxo : x6 = ofET d ts := by
        rw [hx6, hbo]
        unfold ofET ofEB
        by_cases hh : (∀ t ∈ ts, RightT t) ∧ (d.kind = 4 ∨ d.kind = 5 ∨ fits d ts.length = true)
        · rw [if_pos hh, if_pos (decide_eq_true hh)]
        · rw [if_neg hh, if_neg (by simpa using hh)]
      have HBO := Lib.hid hbo
      have HX6 := Lib.hid hxo
      have hbw3 : Below ws.heap.size ws w6 := HW.out.trans (hb6.mono HW.out.size)
      have hx3 : XTree w6 (fun b => w.heap.size + 2 ≤ b) u6 x6 := hu6.weaken fun b hb _ => by have := HW.out.size; have := HSS.out; omega
      clear hu6 hb6 hx6 hbb hbo hxo
      obtain ⟨A6, c6, rfl⟩ := hx3.agg
      have hR3 := HBR.out.below hbw3 HBR.out.lt
      have g0 : w6.cell? ⟨w.heap.size + 1, 0, none⟩ = some (.slice none 0 0) := hR3.cell 0
      have g1 : w6.cell? ⟨w.heap.size + 1, 1, none⟩ = some (.int .i64 0) := hR3.cell 1
      have f0 := hR3.frozen 0
      have f1 := hR3.frozen 1
      have HEND := Lib.hid (put_end (cs := #[]) (HBS.out.trans (hbw3.mono HBS.out.size)) hx3 hR3)
      clear hx3 hR3 hbw3
      go_wp2_with fail
      refine bodyPost_ret (results_cell2 rfl _ _ (w.heap.size + 1) _ _ _ rfl HEND.out.1 Tryd.underlying34 rfl tree_size) rfl ?_
      exact (show OfPost d ts w _ _ from ⟨_, by rw [← HBO.out]; rfl, by rw [← HX6.out]; exact HEND.out.2.1, HEND.out.2.2⟩)
end Go.Proofs.YtclfpjfjebheoaaDoor
/- The contracts of bonsairef05's Seq, Choice, Rep, And, Not, Cap. -/
namespace Go.Proofs.YtclfpjfjebheoaaDoor
set_option linter.unusedSimpArgs false
open Go.RowKit
open Classical

/-- The rows of kids are short. -/
def KB (t : Tr) : Prop := ∀ n ∈ t.nodes, n.kids.length ≤ 1000000
theorem ofR_g {d : Dt} (hd : d.Ok) (h4 : d.kind = 4 → d = seqD) (h5 : d.kind = 5 → d = choiceD) {ts : List Tr} {v : Value} {S : Nat → Prop} {w : World} (h : GivenEL ts v S w) (hk : ∀ t ∈ ts, KB t) :
    Calls Tryd.prog 66 #[.agg #[.int .u8 d.kind, .int .u64 d.s0, .int .u64 d.s1, .int .u64 d.s2, .int .u64 d.s3, .string ⟨d.text.toArray⟩, .int .i64 d.min, .int .i64 d.max, .slice none 0 0], v] w (OfPost d ts w) :=
  rOf5_g hd h4 h5 ⟨h.read, h.old, h.tab, fun t ht => by have := sum_mem ht; have := h.sum; omega, by have := h.few; omega⟩ hk h.sum h.few

set_option maxHeartbeats 4000000 in
theorem rSeq_g {ts : List Tr} {v : Value} {S : Nat → Prop} {w : World} (h : GivenEL ts v S w) (hkb : ∀ t ∈ ts, KB t) : Calls Tryd.prog 28 #[v] w (OfPost seqD ts w) := by
  obtain ⟨Av, cv, rfl, -⟩ := h.read.at_
  have hO : ∀ wx, Below w.heap.size w wx → Calls Tryd.prog 66 #[.agg #[.int .u8 4, .int .u64 0, .int .u64 0, .int .u64 0, .int .u64 0, .string ⟨#[]⟩, .int .i64 0, .int .i64 0, .slice none 0 0], .slice Av ts.length cv] wx (OfPost seqD ts wx) := fun wx hx =>
    ofR_g (d := seqD) ⟨by decide, by decide, by decide, by decide, by decide⟩ (fun h => by first | rfl | exact absurd h (by decide)) (fun h => by first | rfl | exact absurd h (by decide)) (h.below hx) hkb
  have HO := Lib.hid hO
  clear h hkb hO
  go_enter Tryd.func28, Tryd.ntmps28
  go_wp2_with fail
  refine (HO.out _ ((Below.refl _ _).alloc (Nat.le_refl _) _)).mono ?_
  rintro e w2 ⟨u, rfl, hu, hb2⟩
  obtain ⟨bb, hbb⟩ : ∃ bb, bb = ofEB seqD ts := ⟨_, rfl⟩
  obtain ⟨x0, hx0⟩ : ∃ x0, x0 = ofET seqD ts := ⟨_, rfl⟩
  rw [← hx0] at hu
  rw [← hbb]
  obtain ⟨A, c, rfl⟩ := hu.agg
  have hB2 : Blk w2 w.heap.size 34 #[.slice none 0 0, .int .i64 0] := (Blk.new w _ _).below hb2 (by simp)
  have hW2 : Below w.heap.size w w2 := ((Below.refl _ _).alloc (Nat.le_refl _) _).trans (hb2.mono (by simp))
  have c0 : w2.cell? ⟨w.heap.size, 0, none⟩ = some (.slice none 0 0) := hB2.cell 0
  have c1 : w2.cell? ⟨w.heap.size, 1, none⟩ = some (.int .i64 0) := hB2.cell 1
  have f0 : w2.frozen? ⟨w.heap.size, 0, none⟩ = false := hB2.frozen 0
  have f1 : w2.frozen? ⟨w.heap.size, 1, none⟩ = false := hB2.frozen 1
  have HBZ := Lib.hid (hB2.set2 (.slice A x0.nodes.length c) (.int .i64 x0.root))
  have HE := Lib.hid (end_tree hW2 hu (Nat.le_refl _) (by simp))
  have HX := Lib.hid (And.intro hbb hx0)
  clear hB2 hW2 hu hb2 hbb hx0
  go_wp2_with fail
  refine bodyPost_ret (results_cell2 rfl _ _ w.heap.size _ _ _ rfl HBZ.out Tryd.underlying34 rfl tree_size) rfl ?_
  exact (show OfPost seqD ts w _ _ from ⟨_, by rw [← HX.out.1]; rfl, by rw [← HX.out.2]; exact HE.out.1, HE.out.2⟩)

set_option maxHeartbeats 4000000 in
theorem rChoice_g {ts : List Tr} {v : Value} {S : Nat → Prop} {w : World} (h : GivenEL ts v S w) (hkb : ∀ t ∈ ts, KB t) : Calls Tryd.prog 29 #[v] w (OfPost choiceD ts w) := by
  obtain ⟨Av, cv, rfl, -⟩ := h.read.at_
  have hO : ∀ wx, Below w.heap.size w wx → Calls Tryd.prog 66 #[.agg #[.int .u8 5, .int .u64 0, .int .u64 0, .int .u64 0, .int .u64 0, .string ⟨#[]⟩, .int .i64 0, .int .i64 0, .slice none 0 0], .slice Av ts.length cv] wx (OfPost choiceD ts wx) := fun wx hx =>
    ofR_g (d := choiceD) ⟨by decide, by decide, by decide, by decide, by decide⟩ (fun h => by first | rfl | exact absurd h (by decide)) (fun h => by first | rfl | exact absurd h (by decide)) (h.below hx) hkb
  have HO := Lib.hid hO
  clear h hkb hO
  go_enter Tryd.func29, Tryd.ntmps29
  go_wp2_with fail
  refine (HO.out _ ((Below.refl _ _).alloc (Nat.le_refl _) _)).mono ?_
  rintro e w2 ⟨u, rfl, hu, hb2⟩
  obtain ⟨bb, hbb⟩ : ∃ bb, bb = ofEB choiceD ts := ⟨_, rfl⟩
  obtain ⟨x0, hx0⟩ : ∃ x0, x0 = ofET choiceD ts := ⟨_, rfl⟩
  rw [← hx0] at hu
  rw [← hbb]
  obtain ⟨A, c, rfl⟩ := hu.agg
  have hB2 : Blk w2 w.heap.size 34 #[.slice none 0 0, .int .i64 0] := (Blk.new w _ _).below hb2 (by simp)
  have hW2 : Below w.heap.size w w2 := ((Below.refl _ _).alloc (Nat.le_refl _) _).trans (hb2.mono (by simp))
  have c0 : w2.cell? ⟨w.heap.size, 0, none⟩ = some (.slice none 0 0) := hB2.cell 0
  have c1 : w2.cell? ⟨w.heap.size, 1, none⟩ = some (.int .i64 0) := hB2.cell 1
  have f0 : w2.frozen? ⟨w.heap.size, 0, none⟩ = false := hB2.frozen 0
  have f1 : w2.frozen? ⟨w.heap.size, 1, none⟩ = false := hB2.frozen 1
  have HBZ := Lib.hid (hB2.set2 (.slice A x0.nodes.length c) (.int .i64 x0.root))
  have HE := Lib.hid (end_tree hW2 hu (Nat.le_refl _) (by simp))
  have HX := Lib.hid (And.intro hbb hx0)
  clear hB2 hW2 hu hb2 hbb hx0
  go_wp2_with fail
  refine bodyPost_ret (results_cell2 rfl _ _ w.heap.size _ _ _ rfl HBZ.out Tryd.underlying34 rfl tree_size) rfl ?_
  exact (show OfPost choiceD ts w _ _ from ⟨_, by rw [← HX.out.1]; rfl, by rw [← HX.out.2]; exact HE.out.1, HE.out.2⟩)


set_option maxHeartbeats 4000000 in
theorem rAnd_g {t : Tr} {v : Value} {S : Nat → Prop} {w : World} (h : GivenE t v S w) (hkb : KB t) : Calls Tryd.prog 34 #[v] w (OfPost andD [t] w) := by
  obtain ⟨nv, rfl, hns, hr1, hr2⟩ := h.given.read
  obtain ⟨A, c, rfl, hc, hs, _⟩ := hns.at_
  have hO : Calls Tryd.prog 66 #[.agg #[.int .u8 7, .int .u64 0, .int .u64 0, .int .u64 0, .int .u64 0, .string ⟨#[]⟩, .int .i64 0, .int .i64 0, .slice none 0 0], .slice (some ⟨w.heap.size + 2, 0, none⟩) 1 1] (((w.alloc (.cells #[.slice A t.nodes.length c, .int .i64 t.root] 34)).alloc (.cells #[.slice none 0 0, .int .i64 0] 34)).alloc (.cells #[.slice A t.nodes.length c, .int .i64 t.root] 34)) (OfPost andD [t] (((w.alloc (.cells #[.slice A t.nodes.length c, .int .i64 t.root] 34)).alloc (.cells #[.slice none 0 0, .int .i64 0] 34)).alloc (.cells #[.slice A t.nodes.length c, .int .i64 t.root] 34))) := by
    have hb : Below w.heap.size w (((w.alloc (.cells #[.slice A t.nodes.length c, .int .i64 t.root] 34)).alloc (.cells #[.slice none 0 0, .int .i64 0] 34)).alloc (.cells #[.slice A t.nodes.length c, .int .i64 t.root] 34)) := (((Below.refl _ _).alloc (Nat.le_refl _) _).alloc (by simp) _).alloc (by simp; omega) _
    have hB := Blk.new ((w.alloc (.cells #[.slice A t.nodes.length c, .int .i64 t.root] 34)).alloc (.cells #[.slice none 0 0, .int .i64 0] 34)) 34 #[.slice A t.nodes.length c, .int .i64 t.root]
    simp only [World.size_alloc] at hB
    refine ofR_g (d := andD) (ts := [t]) (S := fun b => b < w.heap.size + 3) ⟨by decide, by decide, by decide, by decide, by decide⟩ (fun h => absurd h (by decide)) (fun h => absurd h (by decide)) ⟨?_, fun b hb => by simpa using hb, h.given.tab.below hb, h.tog.below hb, by simpa using h.less, by simp⟩ (fun x hx => by simp at hx; subst hx; exact hkb)
    exact RTrees.one (ty := 34) (t := t) (nv := .slice A t.nodes.length c) hB (by omega) ((h.given.read.below hb h.given.old).more fun b hb => by have := h.given.old b hb; omega)
  have HO := Lib.hid hO
  clear h hkb hO hns
  go_enter Tryd.func34, Tryd.ntmps34
  go_wp2_with fail
  refine HO.out.mono ?_
  rintro e w2 ⟨u, rfl, hu, hb2⟩
  obtain ⟨bb, hbb⟩ : ∃ bb, bb = ofEB andD [t] := ⟨_, rfl⟩
  obtain ⟨x0, hx0⟩ : ∃ x0, x0 = ofET andD [t] := ⟨_, rfl⟩
  rw [← hx0] at hu
  rw [← hbb]
  obtain ⟨A2, c2, rfl⟩ := hu.agg
  have hB2 : Blk w2 (w.heap.size + 1) 34 #[.slice none 0 0, .int .i64 0] := ((Blk.new1 _ _ _ _).alloc _).below hb2 (by simp)
  have hW2 : Below w.heap.size w w2 := ((((Below.refl _ _).alloc (Nat.le_refl _) _).alloc (by simp) _).alloc (by simp; omega) _).trans (hb2.mono (by simp; omega))
  have c0 : w2.cell? ⟨w.heap.size + 1, 0, none⟩ = some (.slice none 0 0) := hB2.cell 0
  have c1 : w2.cell? ⟨w.heap.size + 1, 1, none⟩ = some (.int .i64 0) := hB2.cell 1
  have f0 : w2.frozen? ⟨w.heap.size + 1, 0, none⟩ = false := hB2.frozen 0
  have f1 : w2.frozen? ⟨w.heap.size + 1, 1, none⟩ = false := hB2.frozen 1
  have HBZ := Lib.hid (hB2.set2 (.slice A2 x0.nodes.length c2) (.int .i64 x0.root))
  have HE := Lib.hid (end_tree (g := w.heap.size + 1) hW2 hu (by omega) (by simp))
  have HX := Lib.hid (And.intro hbb hx0)
  clear hB2 hW2 hu hb2 hbb hx0
  go_wp2_with fail
  refine bodyPost_ret (results_cell2 rfl _ _ (w.heap.size + 1) _ _ _ rfl HBZ.out Tryd.underlying34 rfl tree_size) rfl ?_
  exact (show OfPost andD [t] w _ _ from ⟨_, by rw [← HX.out.1]; rfl, by rw [← HX.out.2]; exact HE.out.1, HE.out.2⟩)

set_option maxHeartbeats 4000000 in
theorem rNot_g {t : Tr} {v : Value} {S : Nat → Prop} {w : World} (h : GivenE t v S w) (hkb : KB t) : Calls Tryd.prog 36 #[v] w (OfPost notD [t] w) := by
  obtain ⟨nv, rfl, hns, hr1, hr2⟩ := h.given.read
  obtain ⟨A, c, rfl, hc, hs, _⟩ := hns.at_
  have hO : Calls Tryd.prog 66 #[.agg #[.int .u8 8, .int .u64 0, .int .u64 0, .int .u64 0, .int .u64 0, .string ⟨#[]⟩, .int .i64 0, .int .i64 0, .slice none 0 0], .slice (some ⟨w.heap.size + 2, 0, none⟩) 1 1] (((w.alloc (.cells #[.slice A t.nodes.length c, .int .i64 t.root] 34)).alloc (.cells #[.slice none 0 0, .int .i64 0] 34)).alloc (.cells #[.slice A t.nodes.length c, .int .i64 t.root] 34)) (OfPost notD [t] (((w.alloc (.cells #[.slice A t.nodes.length c, .int .i64 t.root] 34)).alloc (.cells #[.slice none 0 0, .int .i64 0] 34)).alloc (.cells #[.slice A t.nodes.length c, .int .i64 t.root] 34))) := by
    have hb : Below w.heap.size w (((w.alloc (.cells #[.slice A t.nodes.length c, .int .i64 t.root] 34)).alloc (.cells #[.slice none 0 0, .int .i64 0] 34)).alloc (.cells #[.slice A t.nodes.length c, .int .i64 t.root] 34)) := (((Below.refl _ _).alloc (Nat.le_refl _) _).alloc (by simp) _).alloc (by simp; omega) _
    have hB := Blk.new ((w.alloc (.cells #[.slice A t.nodes.length c, .int .i64 t.root] 34)).alloc (.cells #[.slice none 0 0, .int .i64 0] 34)) 34 #[.slice A t.nodes.length c, .int .i64 t.root]
    simp only [World.size_alloc] at hB
    refine ofR_g (d := notD) (ts := [t]) (S := fun b => b < w.heap.size + 3) ⟨by decide, by decide, by decide, by decide, by decide⟩ (fun h => absurd h (by decide)) (fun h => absurd h (by decide)) ⟨?_, fun b hb => by simpa using hb, h.given.tab.below hb, h.tog.below hb, by simpa using h.less, by simp⟩ (fun x hx => by simp at hx; subst hx; exact hkb)
    exact RTrees.one (ty := 34) (t := t) (nv := .slice A t.nodes.length c) hB (by omega) ((h.given.read.below hb h.given.old).more fun b hb => by have := h.given.old b hb; omega)
  have HO := Lib.hid hO
  clear h hkb hO hns
  go_enter Tryd.func36, Tryd.ntmps36
  go_wp2_with fail
  refine HO.out.mono ?_
  rintro e w2 ⟨u, rfl, hu, hb2⟩
  obtain ⟨bb, hbb⟩ : ∃ bb, bb = ofEB notD [t] := ⟨_, rfl⟩
  obtain ⟨x0, hx0⟩ : ∃ x0, x0 = ofET notD [t] := ⟨_, rfl⟩
  rw [← hx0] at hu
  rw [← hbb]
  obtain ⟨A2, c2, rfl⟩ := hu.agg
  have hB2 : Blk w2 (w.heap.size + 1) 34 #[.slice none 0 0, .int .i64 0] := ((Blk.new1 _ _ _ _).alloc _).below hb2 (by simp)
  have hW2 : Below w.heap.size w w2 := ((((Below.refl _ _).alloc (Nat.le_refl _) _).alloc (by simp) _).alloc (by simp; omega) _).trans (hb2.mono (by simp; omega))
  have c0 : w2.cell? ⟨w.heap.size + 1, 0, none⟩ = some (.slice none 0 0) := hB2.cell 0
  have c1 : w2.cell? ⟨w.heap.size + 1, 1, none⟩ = some (.int .i64 0) := hB2.cell 1
  have f0 : w2.frozen? ⟨w.heap.size + 1, 0, none⟩ = false := hB2.frozen 0
  have f1 : w2.frozen? ⟨w.heap.size + 1, 1, none⟩ = false := hB2.frozen 1
  have HBZ := Lib.hid (hB2.set2 (.slice A2 x0.nodes.length c2) (.int .i64 x0.root))
  have HE := Lib.hid (end_tree (g := w.heap.size + 1) hW2 hu (by omega) (by simp))
  have HX := Lib.hid (And.intro hbb hx0)
  clear hB2 hW2 hu hb2 hbb hx0
  go_wp2_with fail
  refine bodyPost_ret (results_cell2 rfl _ _ (w.heap.size + 1) _ _ _ rfl HBZ.out Tryd.underlying34 rfl tree_size) rfl ?_
  exact (show OfPost notD [t] w _ _ from ⟨_, by rw [← HX.out.1]; rfl, by rw [← HX.out.2]; exact HE.out.1, HE.out.2⟩)

set_option maxHeartbeats 4000000 in
theorem rRep_g {mn mx : Int} {t : Tr} {v : Value} {S : Nat → Prop} {w : World} (hmn : -9223372036854775808 ≤ mn ∧ mn ≤ 9223372036854775807) (hmx : -9223372036854775808 ≤ mx ∧ mx ≤ 9223372036854775807) (h : GivenE t v S w) (hkb : KB t) : Calls Tryd.prog 32 #[v, .int .i64 mn, .int .i64 mx] w (OfPost (repD mn mx) [t] w) := by
  obtain ⟨nv, rfl, hns, hr1, hr2⟩ := h.given.read
  obtain ⟨A, c, rfl, hc, hs, _⟩ := hns.at_
  have hO : Calls Tryd.prog 66 #[.agg #[.int .u8 6, .int .u64 0, .int .u64 0, .int .u64 0, .int .u64 0, .string ⟨#[]⟩, .int .i64 mn, .int .i64 mx, .slice none 0 0], .slice (some ⟨w.heap.size + 2, 0, none⟩) 1 1] (((w.alloc (.cells #[.slice A t.nodes.length c, .int .i64 t.root] 34)).alloc (.cells #[.slice none 0 0, .int .i64 0] 34)).alloc (.cells #[.slice A t.nodes.length c, .int .i64 t.root] 34)) (OfPost (repD mn mx) [t] (((w.alloc (.cells #[.slice A t.nodes.length c, .int .i64 t.root] 34)).alloc (.cells #[.slice none 0 0, .int .i64 0] 34)).alloc (.cells #[.slice A t.nodes.length c, .int .i64 t.root] 34))) := by
    have hb : Below w.heap.size w (((w.alloc (.cells #[.slice A t.nodes.length c, .int .i64 t.root] 34)).alloc (.cells #[.slice none 0 0, .int .i64 0] 34)).alloc (.cells #[.slice A t.nodes.length c, .int .i64 t.root] 34)) := (((Below.refl _ _).alloc (Nat.le_refl _) _).alloc (by simp) _).alloc (by simp; omega) _
    have hB := Blk.new ((w.alloc (.cells #[.slice A t.nodes.length c, .int .i64 t.root] 34)).alloc (.cells #[.slice none 0 0, .int .i64 0] 34)) 34 #[.slice A t.nodes.length c, .int .i64 t.root]
    simp only [World.size_alloc] at hB
    refine ofR_g (d := (repD mn mx)) (ts := [t]) (S := fun b => b < w.heap.size + 3) (repD_ok hmn hmx) (fun h => absurd h (by simp [repD])) (fun h => absurd h (by simp [repD])) ⟨?_, fun b hb => by simpa using hb, h.given.tab.below hb, h.tog.below hb, by simpa using h.less, by simp⟩ (fun x hx => by simp at hx; subst hx; exact hkb)
    exact RTrees.one (ty := 34) (t := t) (nv := .slice A t.nodes.length c) hB (by omega) ((h.given.read.below hb h.given.old).more fun b hb => by have := h.given.old b hb; omega)
  have HO := Lib.hid hO
  clear h hkb hO hns
  go_enter Tryd.func32, Tryd.ntmps32
  go_wp2_with fail
  refine HO.out.mono ?_
  rintro e w2 ⟨u, rfl, hu, hb2⟩
  obtain ⟨bb, hbb⟩ : ∃ bb, bb = ofEB (repD mn mx) [t] := ⟨_, rfl⟩
  obtain ⟨x0, hx0⟩ : ∃ x0, x0 = ofET (repD mn mx) [t] := ⟨_, rfl⟩
  rw [← hx0] at hu
  rw [← hbb]
  obtain ⟨A2, c2, rfl⟩ := hu.agg
  have hB2 : Blk w2 (w.heap.size + 1) 34 #[.slice none 0 0, .int .i64 0] := ((Blk.new1 _ _ _ _).alloc _).below hb2 (by simp)
  have hW2 : Below w.heap.size w w2 := ((((Below.refl _ _).alloc (Nat.le_refl _) _).alloc (by simp) _).alloc (by simp; omega) _).trans (hb2.mono (by simp; omega))
  have c0 : w2.cell? ⟨w.heap.size + 1, 0, none⟩ = some (.slice none 0 0) := hB2.cell 0
  have c1 : w2.cell? ⟨w.heap.size + 1, 1, none⟩ = some (.int .i64 0) := hB2.cell 1
  have f0 : w2.frozen? ⟨w.heap.size + 1, 0, none⟩ = false := hB2.frozen 0
  have f1 : w2.frozen? ⟨w.heap.size + 1, 1, none⟩ = false := hB2.frozen 1
  have HBZ := Lib.hid (hB2.set2 (.slice A2 x0.nodes.length c2) (.int .i64 x0.root))
  have HE := Lib.hid (end_tree (g := w.heap.size + 1) hW2 hu (by omega) (by simp))
  have HX := Lib.hid (And.intro hbb hx0)
  clear hB2 hW2 hu hb2 hbb hx0
  go_wp2_with fail
  refine bodyPost_ret (results_cell2 rfl _ _ (w.heap.size + 1) _ _ _ rfl HBZ.out Tryd.underlying34 rfl tree_size) rfl ?_
  exact (show OfPost (repD mn mx) [t] w _ _ from ⟨_, by rw [← HX.out.1]; rfl, by rw [← HX.out.2]; exact HE.out.1, HE.out.2⟩)

set_option maxHeartbeats 4000000 in
theorem rCap_g {s : List UInt8} {t : Tr} {v : Value} {S : Nat → Prop} {w : World} (hsl : s.length ≤ maxLen) (h : GivenE t v S w) (hkb : KB t) : Calls Tryd.prog 38 #[.string ⟨s.toArray⟩, v] w (OfPost (capD s) [t] w) := by
  obtain ⟨nv, rfl, hns, hr1, hr2⟩ := h.given.read
  obtain ⟨A, c, rfl, hc, hs, _⟩ := hns.at_
  have hO : Calls Tryd.prog 66 #[.agg #[.int .u8 9, .int .u64 0, .int .u64 0, .int .u64 0, .int .u64 0, .string ⟨s.toArray⟩, .int .i64 0, .int .i64 0, .slice none 0 0], .slice (some ⟨w.heap.size + 2, 0, none⟩) 1 1] (((w.alloc (.cells #[.slice A t.nodes.length c, .int .i64 t.root] 34)).alloc (.cells #[.slice none 0 0, .int .i64 0] 34)).alloc (.cells #[.slice A t.nodes.length c, .int .i64 t.root] 34)) (OfPost (capD s) [t] (((w.alloc (.cells #[.slice A t.nodes.length c, .int .i64 t.root] 34)).alloc (.cells #[.slice none 0 0, .int .i64 0] 34)).alloc (.cells #[.slice A t.nodes.length c, .int .i64 t.root] 34))) := by
    have hb : Below w.heap.size w (((w.alloc (.cells #[.slice A t.nodes.length c, .int .i64 t.root] 34)).alloc (.cells #[.slice none 0 0, .int .i64 0] 34)).alloc (.cells #[.slice A t.nodes.length c, .int .i64 t.root] 34)) := (((Below.refl _ _).alloc (Nat.le_refl _) _).alloc (by simp) _).alloc (by simp; omega) _
    have hB := Blk.new ((w.alloc (.cells #[.slice A t.nodes.length c, .int .i64 t.root] 34)).alloc (.cells #[.slice none 0 0, .int .i64 0] 34)) 34 #[.slice A t.nodes.length c, .int .i64 t.root]
    simp only [World.size_alloc] at hB
    refine ofR_g (d := (capD s)) (ts := [t]) (S := fun b => b < w.heap.size + 3) (capD_ok hsl) (fun h => absurd h (by simp [capD])) (fun h => absurd h (by simp [capD])) ⟨?_, fun b hb => by simpa using hb, h.given.tab.below hb, h.tog.below hb, by simpa using h.less, by simp⟩ (fun x hx => by simp at hx; subst hx; exact hkb)
    exact RTrees.one (ty := 34) (t := t) (nv := .slice A t.nodes.length c) hB (by omega) ((h.given.read.below hb h.given.old).more fun b hb => by have := h.given.old b hb; omega)
  have HO := Lib.hid hO
  clear h hkb hO hns
  go_enter Tryd.func38, Tryd.ntmps38
  go_wp2_with fail
  refine HO.out.mono ?_
  rintro e w2 ⟨u, rfl, hu, hb2⟩
  obtain ⟨bb, hbb⟩ : ∃ bb, bb = ofEB (capD s) [t] := ⟨_, rfl⟩
  obtain ⟨x0, hx0⟩ : ∃ x0, x0 = ofET (capD s) [t] := ⟨_, rfl⟩
  rw [← hx0] at hu
  rw [← hbb]
  obtain ⟨A2, c2, rfl⟩ := hu.agg
  have hB2 : Blk w2 (w.heap.size + 1) 34 #[.slice none 0 0, .int .i64 0] := ((Blk.new1 _ _ _ _).alloc _).below hb2 (by simp)
  have hW2 : Below w.heap.size w w2 := ((((Below.refl _ _).alloc (Nat.le_refl _) _).alloc (by simp) _).alloc (by simp; omega) _).trans (hb2.mono (by simp; omega))
  have c0 : w2.cell? ⟨w.heap.size + 1, 0, none⟩ = some (.slice none 0 0) := hB2.cell 0
  have c1 : w2.cell? ⟨w.heap.size + 1, 1, none⟩ = some (.int .i64 0) := hB2.cell 1
  have f0 : w2.frozen? ⟨w.heap.size + 1, 0, none⟩ = false := hB2.frozen 0
  have f1 : w2.frozen? ⟨w.heap.size + 1, 1, none⟩ = false := hB2.frozen 1
  have HBZ := Lib.hid (hB2.set2 (.slice A2 x0.nodes.length c2) (.int .i64 x0.root))
  have HE := Lib.hid (end_tree (g := w.heap.size + 1) hW2 hu (by omega) (by simp))
  have HX := Lib.hid (And.intro hbb hx0)
  clear hB2 hW2 hu hb2 hbb hx0
  go_wp2_with fail
  refine bodyPost_ret (results_cell2 rfl _ _ (w.heap.size + 1) _ _ _ rfl HBZ.out Tryd.underlying34 rfl tree_size) rfl ?_
  exact (show OfPost (capD s) [t] w _ _ from ⟨_, by rw [← HX.out.1]; rfl, by rw [← HX.out.2]; exact HE.out.1, HE.out.2⟩)
end Go.Proofs.YtclfpjfjebheoaaDoor
/- The contract of law05's spoil: it writes into what is new alone. -/
namespace Go.Proofs.YtclfpjfjebheoaaDoor
set_option linter.unusedSimpArgs false
open Go.RowKit

structure SpR (lo : Nat) (w wr : World) : Prop where
  below : Below lo w wr
  sp : Spoilt w wr
  soft : SoftKept w wr
theorem SpR.next_i64 {lo : Nat} {w wr : World} {p : Addr} {z : Int} (h : SpR lo w wr) (hp : lo ≤ p.block) (hw : p.block < w.heap.size) (hc : w.cell? p = some (.int .i64 z)) : SpR lo w (wr.setCell p (.int .i64 (-7))) :=
  ⟨h.below.setCell hp _, h.sp.set_i64 h.below.size hc (by obtain ⟨z', h1, _⟩ := h.sp.i64 hw hc; exact ⟨z', h1⟩), h.soft.setCell _ _⟩
theorem SpR.next_u8 {lo : Nat} {w wr : World} {p : Addr} {z : Int} (h : SpR lo w wr) (hp : lo ≤ p.block) (hw : p.block < w.heap.size) (hc : w.cell? p = some (.int .u8 z)) : SpR lo w (wr.setCell p (.int .u8 77)) :=
  ⟨h.below.setCell hp _, h.sp.set_u8 h.below.size hc (by obtain ⟨z', h1, _⟩ := h.sp.u8 hw hc; exact ⟨z', h1⟩), h.soft.setCell _ _⟩
set_option maxRecDepth 20000 in
set_option maxHeartbeats 4000000 in
theorem spoilL_g {us : List Tr} {v : Value} {lo : Nat} {w : World} (h : XL w lo v us) :
    Calls Tryd.prog 30 #[v] w fun e w' => e = .returned (.tuple #[]) ∧ Below lo w w' := by
  obtain ⟨A, c, rfl, hc, hs, hr⟩ := h.at_
  obtain ⟨m, hm⟩ : ∃ m, m = us.length := ⟨_, rfl⟩
  have HM := Lib.hid hm
  have HR0 := Lib.hid hr
  rw [← hm] at hs ⊢
  unfold maxLen at hs
  clear h hm hc hr
  go_enter Tryd.func30, Tryd.ntmps30
  go_wp2_with fail
  go_loopw [2] (fun i wr => ∃ j : Nat, j ≤ m ∧ i = .int .i64 j ∧ Hid (SpR lo w wr)) (fun i _ => m - (intOf i).toNat)
  case atStart => exact ⟨0, Nat.zero_le _, rfl, Lib.hid ⟨Below.refl _ _, Spoilt.refl _, fun _ _ h => h⟩⟩
  case round =>
    obtain ⟨j, hj, rfl, HJ⟩ := hrel
    by_cases hjl : j < m
    · obtain ⟨t, ht⟩ : ∃ t, us[j]? = some t := ⟨_, List.getElem?_eq_getElem (by have := HM.out; omega)⟩
      obtain ⟨b0, o0, hA, hS0, hcell⟩ := HR0.out (by have := HM.out; omega)
      subst hA
      obtain ⟨nv, hns, hrt, d0, d1⟩ := hcell j t ht
      obtain ⟨A1, c1, rfl, hc1, hs1, -⟩ := hns.at_
      obtain ⟨n, hn⟩ : ∃ n, n = t.nodes.length := ⟨_, rfl⟩
      have HN := Lib.hid hn
      rw [← hn] at hs1 d0 hns
      unfold maxLen at hs1
      have HNS := Lib.hid hns
      have HD0 := Lib.hid d0
      have HS0 := Lib.hid hS0
      have hj0 : (0 : Int) ≤ (j : Int) := by omega
      have hj1 : (j : Int) < (m : Int) := by omega
      clear hns hn hcell ht hrt d0 d1 hS0
      go_wp2_with fail
      go_loopw [3] (fun i wr => ∃ k : Nat, k ≤ n ∧ i = .int .i64 k ∧ Hid (SpR lo w wr)) (fun i _ => n - (intOf i).toNat)
      case atStart => exact ⟨0, Nat.zero_le _, rfl, HJ⟩
      case round =>
        obtain ⟨wo, rfl⟩ : ∃ wo, wo = wr := ⟨_, rfl⟩
        obtain ⟨k, hk, rfl, HR⟩ := hrel
        have d0 : wo.cell? ⟨b0, o0 + j * 2, none⟩ = some (.slice A1 n c1) := HR.out.sp.same (p := ⟨b0, o0 + j * 2, none⟩) HS0.out.2.1 HD0.out (fun z e => by cases e) (fun z e => by cases e)
        by_cases hlt : k < n
        · obtain ⟨N, hN⟩ : ∃ N, t.nodes[k]? = some N := ⟨_, List.getElem?_eq_getElem (by rw [← HN.out]; exact hlt)⟩
          obtain ⟨b, off, Ak, ck, rfl, hbS, hki, hdo, c0, -, -, -, -, -, -, -, c8⟩ := (by have := HNS.out; rw [HN.out] at this; exact this : RNodes w _ (.slice A1 t.nodes.length c1) t.nodes).get k N hN
          have hkl : N.kids.length ≤ maxLen := hki.small
          unfold maxLen at hkl
          have hlt' : (k : Int) < (n : Int) := by omega
          have hk0 : (0 : Int) ≤ (k : Int) := by omega
          have HKI := Lib.hid hki
          have HC0 := Lib.hid c0
          have HC8 := Lib.hid c8
          have HBS := Lib.hid hbS
          clear hki hdo hN c0 c8 hbS
          go_wp2_with fail
          go_loopw [4] (fun i wr => ∃ q : Nat, q ≤ N.kids.length ∧ i = .int .i64 q ∧ Hid (SpR lo w wr)) (fun i _ => N.kids.length - (intOf i).toNat)
          case atStart => exact ⟨0, Nat.zero_le _, rfl, HR⟩
          case round =>
            clear d0
            obtain ⟨q, hq, rfl, HI⟩ := hrel
            have d0 : wr.cell? ⟨b0, o0 + j * 2, none⟩ = some (.slice (some ⟨b, off, none⟩) n c1) := HI.out.sp.same (p := ⟨b0, o0 + j * 2, none⟩) HS0.out.2.1 HD0.out (fun z e => by cases e) (fun z e => by cases e)
            have c8 : wr.cell? ⟨b, off + k * 9 + 8, none⟩ = some (.slice Ak N.kids.length ck) := HI.out.sp.same HBS.out.2.1 HC8.out (fun z e => by cases e) (fun z e => by cases e)
            by_cases hql : q < N.kids.length
            · obtain ⟨z, hz⟩ : ∃ z, N.kids[q]? = some z := ⟨_, List.getElem?_eq_getElem hql⟩
              obtain ⟨bk, ok, rfl, hbk, hkc⟩ := HKI.out.get q z hz
              obtain ⟨z', cq, _⟩ := HI.out.sp.i64 (p := ⟨bk, ok + q, none⟩) hbk.2.1 hkc
              have fq : wr.frozen? ⟨bk, ok + q, none⟩ = false := HI.out.soft bk hbk.2.1 hbk.2.2 _
              have HKC := Lib.hid hkc
              have HBK := Lib.hid hbk
              have hql' : (q : Int) < (N.kids.length : Int) := by omega
              have hq0 : (0 : Int) ≤ (q : Int) := by omega
              clear hz hkc hbk
              go_wp2_with fail
              go_roundw
              case measure => simp [intOf]; omega
              case rel => exact ⟨q + 1, by omega, by go_num, Lib.hid (HI.out.next_i64 HBK.out.1 HBK.out.2.1 HKC.out)⟩
            · obtain rfl : q = N.kids.length := by omega
              obtain ⟨z', c0, _⟩ := HI.out.sp.u8 (p := ⟨b, off + k * 9, none⟩) HBS.out.2.1 HC0.out
              have f0 : wr.frozen? ⟨b, off + k * 9, none⟩ = false := HI.out.soft b HBS.out.2.1 HBS.out.2.2 _
              go_wp2_with fail
              go_roundw
              case measure => simp [intOf]; omega
              case rel => exact ⟨k + 1, by omega, by go_num, Lib.hid (HI.out.next_u8 HBS.out.1 HBS.out.2.1 HC0.out)⟩
        · go_wp2_with fail
          go_roundw
          case measure => simp [intOf]; omega
          case rel => exact ⟨j + 1, by omega, by go_num, HR⟩
    · go_wp2_with fail
      go_end0
      exact ⟨rfl, HJ.out.below⟩
end Go.Proofs.YtclfpjfjebheoaaDoor
/- The contract of law05's own: a tree in new memory. -/
namespace Go.Proofs.YtclfpjfjebheoaaDoor
set_option linter.unusedSimpArgs false
open Go.RowKit

theorem nodesCells_set (ns : List Nd) (kvs : List Value) (hl : kvs.length = ns.length) (k : Nat) (u : Value) : (nodesCells ns kvs).set (k * 9 + 8) u = nodesCells ns (kvs.set k u) := by
  induction ns generalizing kvs k with
  | nil =>
    have : kvs = [] := List.eq_nil_of_length_eq_zero (by simpa using hl)
    subst this; simp [nodesCells]
  | cons n ns ih =>
    cases kvs with
    | nil => simp at hl
    | cons kv kvs =>
      have e : ∀ (x : Value) (ys : List Value), nodesCells (n :: ns) (x :: ys) = nodeCells n x ++ nodesCells ns ys := fun x ys => by simp [nodesCells]
      cases k with
      | zero =>
        rw [e, List.set_cons_zero, e]
        simp [nodeCells]
      | succ k =>
        rw [e, List.set_cons_succ, e, List.set_append_right _ _ (by show 9 ≤ _; omega)]
        rw [show (k + 1) * 9 + 8 - (nodeCells n kv).length = k * 9 + 8 from by show (k + 1) * 9 + 8 - 9 = _; omega, ih kvs (by simpa using hl)]
theorem nodesCells_at {ns : List Nd} {kvs : List Value} {k : Nat} {n : Nd} {kv : Value} (hn : ns[k]? = some n) (hk : kvs[k]? = some kv) : (nodesCells ns kvs)[k * 9 + 8]? = some kv := by
  unfold nodesCells
  rw [zip_cells nodeCells 9 (fun _ _ => rfl) ns kvs k n kv hn hk 8 (by omega)]
  rfl
theorem nodesCells_len (ns : List Nd) (kvs : List Value) (hl : kvs.length = ns.length) : (nodesCells ns kvs).length = ns.length * 9 := by
  induction ns generalizing kvs with
  | nil => simp [nodesCells]
  | cons n ns ih =>
    cases kvs with
    | nil => simp at hl
    | cons kv kvs =>
      have := ih kvs (by simpa using hl)
      simp only [nodesCells, List.zipWith_cons_cons, List.flatten_cons, List.length_append, List.length_cons] at this ⊢
      rw [this]
      show 9 + _ = _
      omega
theorem nodes_one : ∀ (ns : List Nd) (kvs : List Value), (∀ kv ∈ kvs, kv.oneCell' = true) → ∀ u ∈ nodesCells ns kvs, u.oneCell' = true
  | [], _, _ => fun u hu => by simp [nodesCells] at hu
  | _ :: _, [], _ => fun u hu => by simp [nodesCells] at hu
  | n :: ns, kv :: kvs, h => fun u hu => by
    have e : nodesCells (n :: ns) (kv :: kvs) = nodeCells n kv ++ nodesCells ns kvs := by simp [nodesCells]
    rw [e, List.mem_append] at hu
    rcases hu with hu | hu
    · simp only [nodeCells, List.mem_cons, List.not_mem_nil, or_false] at hu
      rcases hu with rfl | rfl | rfl | rfl | rfl | rfl | rfl | rfl | rfl <;> first | rfl | exact h _ (by simp)
    · exact nodes_one ns kvs (fun x hx => h x (by simp [hx])) u hu
/-- What stands behind each round. -/
structure O5 (t : Tr) (S : Nat → Prop) (w : World) (cs : Array Value) (v3 : Value) (j : Nat) (kvs : List Value) (wr : World) : Prop where
  len : kvs.length = t.nodes.length
  row : wr.ownsRow (w.heap.size + 2) 65 9 v3 t.nodes.length (nodesCells t.nodes kvs)
  new : ∀ (i : Nat) (n : Nd) (kv : Value), i < j → t.nodes[i]? = some n → kvs[i]? = some kv → RInts wr (fun b => w.heap.size + 2 ≤ b ∧ b < wr.heap.size ∧ v3.ownBlock ≠ some b ∧ Soft wr b) kv n.kids
  old : ∀ (i : Nat) (n : Nd) (kv : Value), j ≤ i → t.nodes[i]? = some n → kvs[i]? = some kv → RInts w S kv n.kids
  oks : ∀ (i : Nat) (n : Nd), t.nodes[i]? = some n → n.d.Ok
  below : Below w.heap.size w wr
  box : Blk wr w.heap.size 34 cs
  res : Blk wr (w.heap.size + 1) 34 #[.slice none 0 0, .int .i64 0]
theorem O5.next {t : Tr} {S : Nat → Prop} {w wr w5 : World} {cs : Array Value} {g3 n c3 j : Nat} {v5 : Value} {kvs : List Value} {N : Nd} (h : O5 t S w cs (.slice (some ⟨g3, 0, none⟩) n c3) j kvs wr) (hn : n = t.nodes.length) (hN : t.nodes[j]? = some N)
    (hb : Below wr.heap.size wr w5) (hk : OInts w5 wr.heap.size v5 N.kids) : O5 t S w cs (.slice (some ⟨g3, 0, none⟩) n c3) (j + 1) (kvs.set j v5) (w5.setCell ⟨g3, j * 9 + 8, none⟩ v5) := by
  have hg3 := own_blk_lt h.row (g := g3) rfl
  have hjl : j < t.nodes.length := (List.getElem?_eq_some_iff.1 hN).1
  have hs := hb.size
  have r5 := h.row.kept (only_of_below hb none) (.inr (by simp [Value.ownBlock]))
  rw [hn] at r5
  have r6 := (World.ownsRow.stored r5 (j * 9 + 8) v5).1
  rw [nodesCells_set _ _ h.len] at r6
  have hg6 : w5.grownBy (w5.setCell ⟨g3, j * 9 + 8, none⟩ v5) (some g3) := (World.ownsRow.stored r5 (j * 9 + 8) v5).2
  have hb6 : Below (w.heap.size + 2) wr (w5.setCell ⟨g3, j * 9 + 8, none⟩ v5) := (hb.mono (by omega)).setCell (by exact hg3.1) _
  refine ⟨by rw [List.length_set, h.len], by rw [hn]; exact r6, fun i m kv hi hm hkv => ?_, fun i m kv hi hm hkv => ?_, h.oks, h.below.trans (hb6.mono (by omega)), h.box.below hb6 (by omega), h.res.below hb6 (by omega)⟩
  · by_cases e : i = j
    · subst e
      have hil : i < kvs.length := by rw [h.len]; exact hjl
      rw [List.getElem?_set_self hil] at hkv
      injection hkv with hkv
      subst hkv
      rw [hN] at hm; injection hm with hm; subst hm
      have hk6 : OInts (w5.setCell ⟨g3, i * 9 + 8, none⟩ v5) wr.heap.size v5 N.kids := hk.frame hg6 (by
        cases hv : v5.ownBlock with
        | none => exact .inl rfl
        | some g => exact .inr fun e => by injection e with e; have := (hk.lt g hv).1; omega)
      refine RInts.of_own hk6 fun b hb2 => ?_
      have h1 := hk6.lt b hb2
      exact ⟨by omega, h1.2, fun e => by injection e with e; simp only at e; omega, own_soft hk6 hb2⟩
    · rw [List.getElem?_set_ne (fun e2 => e e2.symm)] at hkv
      have hr := h.new i m kv (by omega) hm hkv
      refine (RInts.keep hr fun p hp => ?_).more fun b hb2 => ⟨hb2.1, Nat.lt_of_lt_of_le hb2.2.1 (Nat.le_trans hs hg6.size), hb2.2.2.1, (hb2.2.2.2.below hb hb2.2.1).setCell _ _⟩
      have hne : p.block ≠ g3 := fun e2 => hp.2.2.1 (by rw [e2]; rfl)
      exact (World.cell?_of_block (hg6.block p.block (Nat.lt_of_lt_of_le hp.2.1 hs) (fun e2 => hne (by injection e2)))).trans (hb.cell hp.2.1)
  · rw [List.getElem?_set_ne (by omega)] at hkv
    exact h.old i m kv (by omega) hm hkv
set_option maxRecDepth 20000 in
set_option maxHeartbeats 4000000 in
theorem lown_g {t : Tr} {v : Value} {S : Nat → Prop} {w : World} (h : RTree w S v t) (hS : ∀ b, S b → b < w.heap.size) (hl : t.nodes.length ≤ 1000) (hkb : ∀ n ∈ t.nodes, n.kids.length ≤ 1000000) :
    Calls Tryd.prog 27 #[v] w fun e w' => ∃ u, e = .returned u ∧ XTree w' (fun b => w.heap.size ≤ b) u t ∧ Below w.heap.size w w' := by
  obtain ⟨nv, rfl, hns, hr1, hr2⟩ := h
  obtain ⟨kvs0, hkl, hrow, hkid⟩ := hns
  obtain ⟨A, c, rfl, hc, hcell⟩ := hrow.is
  have hrd : Reads w w.heap.size 9 A t.nodes.length (nodesCells t.nodes kvs0) := ⟨hrow.len, fun hp => by
    obtain ⟨b, off, rfl, hb, hc2⟩ := hcell hp
    refine ⟨_, rfl, hS b hb, fun j u hu => ?_⟩
    rw [show (⟨b, off, none⟩ : Addr).add j = ⟨b, off + j, none⟩ by unfold Addr.add; simp]
    exact hc2 j u hu⟩
  have hone : ∀ u ∈ nodesCells t.nodes kvs0, u.oneCell' = true := nodes_one _ _ fun kv hkv => by
    obtain ⟨i, hi⟩ := List.mem_iff_getElem?.1 hkv
    obtain ⟨n, hn⟩ : ∃ n, t.nodes[i]? = some n := ⟨_, List.getElem?_eq_getElem (by have := (List.getElem?_eq_some_iff.1 hi).1; omega)⟩
    obtain ⟨A1, c1, rfl, _⟩ := (hkid i n kv hn hi).1.is
    rfl
  obtain ⟨ws, hws⟩ : ∃ ws, ws = (w.alloc (.cells #[.slice A t.nodes.length c, .int .i64 t.root] 34)).alloc (.cells #[.slice none 0 0, .int .i64 0] 34) := ⟨_, rfl⟩
  have hbs : Below w.heap.size w ws := by rw [hws]; exact ((Below.refl _ _).alloc (Nat.le_refl _) _).alloc (by simp) _
  have hss : ws.heap.size = w.heap.size + 2 := by rw [hws]; simp
  have HBT := Lib.hid (show Blk ws w.heap.size 34 #[.slice A t.nodes.length c, .int .i64 t.root] by rw [hws]; exact (Blk.new _ _ _).alloc _)
  have HBR := Lib.hid (show Blk ws (w.heap.size + 1) 34 #[.slice none 0 0, .int .i64 0] by rw [hws]; exact Blk.new1 _ _ _ _)
  have hlit := World.ownsRow_lit (base := ws.heap.size) (e := 65) (size := 9) ws #[] 0 (Nat.le_refl _) (by simp [maxLen]) rfl
  have hrd2 : Reads (ws.alloc (.cells #[] 65)) w.heap.size 9 A t.nodes.length (nodesCells t.nodes kvs0) := (hrd.below hbs).alloc (by omega) _
  obtain ⟨g0, hg0⟩ : ∃ g0, g0 = ws.heap.size := ⟨_, rfl⟩
  have HLIT := Lib.hid hlit
  have HRD := Lib.hid hrd2
  have HONE := Lib.hid hone
  have HKID := Lib.hid hkid
  have HKL := Lib.hid hkl
  have HBS := Lib.hid hbs
  have HRO := Lib.hid (And.intro hr1 hr2)
  have HKB := Lib.hid hkb
  have HSS := Lib.hid hss
  obtain ⟨i0, hi0, hz0, hz1, hz2⟩ := info_parts int_info
  obtain ⟨i1, hi1, hy0, hy1, hy2⟩ := info_parts node_info
  obtain ⟨n, hn⟩ : ∃ n, n = t.nodes.length := ⟨_, rfl⟩
  have HN := Lib.hid hn
  rw [← hn] at hl hws HBT HRD hc ⊢
  have b0 : ws.cell? ⟨w.heap.size, 0, none⟩ = some (.slice A n c) := HBT.out.cell 0
  have b1 : ws.cell? ⟨w.heap.size, 1, none⟩ = some (.int .i64 t.root) := HBT.out.cell 1
  clear hrow hkid hcell hrd hone hkl hlit hrd2 hr1 hr2 hkb hbs hg0 hn
  rw [hws] at b0 b1
  have hbase : ws.heap.size ≤ (ws.alloc (.cells #[] 65)).heap.size := by simp
  go_enter Tryd.func27, Tryd.ntmps27
  rw [hws, show ((w.alloc (.cells #[.slice A n c, .int .i64 t.root] 34)).alloc (.cells #[.slice none 0 0, .int .i64 0] 34)).heap.size = w.heap.size + 1 + 1 by simp] at HLIT hbase
  rw [hws] at HRD
  go_wp2_with (first
    | (at_builtin
       go_loud (refine wpList_append_any (((w.alloc (.cells #[.slice A n c, .int .i64 t.root] 34)).alloc (.cells #[.slice none 0 0, .int .i64 0] 34)).alloc (.cells #[] 65)) rfl (.tmp 5) (.tmp 7) _ rfl (w.heap.size + 1 + 1) 65 i1 _ 9 96 Tryd.underlying32 hi1 hy0 hy1 hy2 rfl (by omega) (.slice (some ⟨w.heap.size + 1 + 1, 0, none⟩) 0 0) 0 [] rfl HLIT.out w.heap.size A n c (nodesCells t.nodes kvs0) rfl HRD.out HONE.out (by unfold maxLen; omega) (by omega) hbase ?_)
       rw [← hws]
       intro v3 w3 hown3 hg3 hat3)
    | fail)
  simp only [Nat.zero_add, List.nil_append] at hown3
  obtain ⟨A3, c3, rfl, -⟩ := own_slice hown3
  have hb3 : Below w.heap.size w w3 := (HBS.out.trans ((below_row0 ws _).mono HBS.out.size)).trans (below_of_grown hg3 (by simp; have := HSS.out; omega) fun g e => by simp [Value.ownBlock] at e; omega)
  have HO3 := Lib.hid (show O5 t S w #[.slice A n c, .int .i64 t.root] (.slice A3 n c3) 0 kvs0 w3 from ⟨HKL.out, by rw [← HN.out]; exact hown3, fun i m kv hi => absurd hi (Nat.not_lt_zero _), fun i m kv _ hm hkv => (HKID.out i m kv hm hkv).1, fun i m hm => (HKID.out i m _ hm (List.getElem?_eq_getElem (by have := (List.getElem?_eq_some_iff.1 hm).1; have := HKL.out; omega))).2, hb3,
    (HBT.out.alloc _).grown hg3 (by simp [Value.ownBlock]; omega), (HBR.out.alloc _).grown hg3 (by simp [Value.ownBlock])⟩)
  clear hown3 hg3 hat3 hb3 b0 b1 hws hbase
  go_loopw [4] (fun i wr => ∃ (j : Nat) (kvs : List Value), j ≤ n ∧ i = .int .i64 j ∧ Hid (O5 t S w #[.slice A n c, .int .i64 t.root] (.slice A3 n c3) j kvs wr)) (fun i _ => n - (intOf i).toNat)
  case atStart => exact ⟨0, kvs0, Nat.zero_le _, rfl, HO3⟩
  case round =>
    obtain ⟨wo, rfl⟩ : ∃ wo, wo = wr := ⟨_, rfl⟩
    obtain ⟨j, kvs, hj, rfl, HR⟩ := hrel
    by_cases hlt : j < n
    · obtain ⟨N, hN⟩ : ∃ N, t.nodes[j]? = some N := ⟨_, List.getElem?_eq_getElem (by have := HN.out; omega)⟩
      obtain ⟨kv, hkv⟩ : ∃ kv, kvs[j]? = some kv := ⟨_, List.getElem?_eq_getElem (by have := HR.out.len; have := HN.out; omega)⟩
      have hrow := HR.out.row
      rw [← HN.out] at hrow
      obtain ⟨g3, rfl, hg3a, hg3b, -⟩ := own_some hrow (by omega)
      have hri := HR.out.old j N kv (Nat.le_refl _) hN hkv
      obtain ⟨Ak, ck, rfl, -⟩ := hri.is
      have c8 : wo.cell? ⟨g3, j * 9 + 8, none⟩ = some (.slice Ak N.kids.length ck) := by
        obtain ⟨ad, e, -, hcc⟩ := (Reads.of_own hrow).2 (by omega)
        injection e with e
        subst e
        have := hcc (j * 9 + 8) _ (nodesCells_at hN hkv)
        rwa [show (⟨g3, 0, none⟩ : Addr).add (j * 9 + 8) = ⟨g3, j * 9 + 8, none⟩ by unfold Addr.add; simp] at this
      have hsf : Soft wo g3 := own_soft hrow rfl
      have hkn : N.kids.length ≤ 1000000 := HKB.out N (List.mem_of_getElem? hN)
      have c8' : (wo.alloc (.cells #[] 3)).cell? ⟨g3, j * 9 + 8, none⟩ = some (.slice Ak N.kids.length ck) := ((below_row0 wo _).cell (p := ⟨g3, j * 9 + 8, none⟩) hg3b).trans c8
      have HLIT2 := Lib.hid (World.ownsRow_lit (base := wo.heap.size) (e := 3) (size := 1) wo #[] 0 (Nat.le_refl _) (by simp [maxLen]) rfl)
      have HRD2 := Lib.hid (((Row.reads (RInts.below hri HR.out.below hS) hS).alloc HR.out.below.size (.cells #[] 3) : Reads (wo.alloc (.cells #[] 3)) w.heap.size 1 Ak N.kids.length (N.kids.map (Value.int .i64))))
      have HSF := Lib.hid hsf
      have HNJ := Lib.hid hN
      have hj0 : (0 : Int) ≤ (j : Int) := by omega
      have hj1 : (j : Int) < (n : Int) := by omega
      have hbb : wo.heap.size ≤ (wo.alloc (.cells #[] 3)).heap.size := by simp
      clear hN hkv hrow hri hsf c8
      go_wp2_with (first
        | (at_builtin
           go_loud (refine wpList_append_any (wo.alloc (.cells #[] 3)) rfl (.tmp 17) (.tmp 22) _ rfl wo.heap.size 3 i0 _ 1 8 Tryd.underlying63 hi0 hz0 hz1 hz2 rfl (by omega) (.slice (some ⟨wo.heap.size, 0, none⟩) 0 0) 0 [] rfl HLIT2.out w.heap.size Ak N.kids.length ck (N.kids.map (Value.int .i64)) rfl HRD2.out (by simp [Value.oneCell']) (by unfold maxLen; omega) (by omega) hbb ?_)
           intro v5 w5 hown5 hg5 hat5
           simp only [Nat.zero_add, List.nil_append] at hown5
           obtain ⟨A5, c5, rfl, -⟩ := own_slice hown5
           have hg5' : (wo.alloc (.cells #[] 3)).grownBy w5 (some wo.heap.size) := hg5
           have c9 : w5.cell? ⟨g3, j * 9 + 8, none⟩ = some (.slice Ak N.kids.length ck) := hg5'.cell c8' (by simp; omega)
           have f9 : w5.frozen? ⟨g3, j * 9 + 8, none⟩ = false := ((HSF.out.below (below_row0 wo (.cells #[] 3)) hg3b).grown hg5' (by simp; omega) (by simp; omega)) _
           have HOWN5 := Lib.hid hown5
           have HG5 := Lib.hid hg5'
           clear hown5 hg5 hat5 hg5')
        | fail)
      have hk5 : OInts w5 wo.heap.size (.slice A5 N.kids.length c5) N.kids := HOWN5.out
      have hb5 : Below wo.heap.size wo w5 := (below_row0 wo _).trans (below_of_grown HG5.out (by simp) fun g e => by injection e with e; omega)
      go_roundw
      case measure => simp [intOf]; omega
      case rel => exact ⟨j + 1, kvs.set j (.slice A5 N.kids.length c5), by omega, by go_num, Lib.hid (HR.out.next HN.out HNJ.out hb5 hk5)⟩
    · obtain rfl : j = n := by omega
      have b1 : wo.cell? ⟨w.heap.size, 1, none⟩ = some (.int .i64 t.root) := HR.out.box.cell 1
      have g0 : wo.cell? ⟨w.heap.size + 1, 0, none⟩ = some (.slice none 0 0) := HR.out.res.cell 0
      have g1 : wo.cell? ⟨w.heap.size + 1, 1, none⟩ = some (.int .i64 0) := HR.out.res.cell 1
      have f0 := HR.out.res.frozen 0
      have f1 := HR.out.res.frozen 1
      go_wp2_with fail
      have hown : OwnNodes wo 65 (w.heap.size + 2) (fun _ => True) (.slice A3 j c3) t.nodes := ⟨kvs, HR.out.len, HR.out.row, fun i m kv hm hkv => ⟨(HR.out.new i m kv (by have := (List.getElem?_eq_some_iff.1 hm).1; have := HN.out; omega) hm hkv).more fun b hb => ⟨hb.1, hb.2.1, hb.2.2.1, trivial, hb.2.2.2⟩, HR.out.oks i m hm⟩⟩
      obtain ⟨w6, hw6⟩ : ∃ w6, w6 = (wo.setCell ⟨w.heap.size + 1, 0, none⟩ (.slice A3 j c3)).setCell ⟨w.heap.size + 1, 1, none⟩ (.int .i64 t.root) := ⟨_, rfl⟩
      have hB6 : Blk w6 (w.heap.size + 1) 34 #[.slice A3 j c3, .int .i64 t.root] := by rw [hw6]; exact HR.out.res.set2 _ _
      have hO6 : OwnTree w6 w.heap.size (.agg #[.slice A3 j c3, .int .i64 t.root]) t := ⟨_, rfl, by rw [hw6]; exact (hown.low (grown_set2 _ _ 0 1 _ _) (by omega)).base_ (by omega)⟩
      have hb6 : Below w.heap.size w w6 := by rw [hw6]; exact (HR.out.below.setCell (by simp) _).setCell (by simp) _
      rw [← hw6]
      refine bodyPost_ret (results_cell1 rfl _ _ (w.heap.size + 1) _ _ _ rfl hB6 Tryd.underlying34 rfl tree_size) rfl ?_
      exact ⟨_, rfl, XTree.of_own hO6 HRO.out.1 HRO.out.2, hb6⟩
end Go.Proofs.YtclfpjfjebheoaaDoor
/- The calls of the law ExprPuts, by what they take out of boxes and rows. -/
namespace Go.Proofs.YtclfpjfjebheoaaDoor
set_option linter.unusedSimpArgs false
open Go.RowKit
open Classical

/-- What a call that puts trees together leaves: also, the tree may be written over. -/
def TPX (lo : Nat) (y : Tr) (b : Bool) (bs : List Nat) (w : World) (e : Ending) (w' : World) : Prop :=
  ∃ A c x, e = .returned (.tuple #[.agg #[.slice A x.nodes.length c, .int .i64 x.root], .bool b]) ∧ Hid (x = y) ∧ Hid (RT w' bs A c x) ∧ Hid (XTree w' (fun z => lo ≤ z) (.agg #[.slice A x.nodes.length c, .int .i64 x.root]) x) ∧ Hid (Below w.heap.size w w')
theorem tpx {lo : Nat} {d : Dt} {ts : List Tr} {b : Bool} {bs : List Nat} {w : World} {e : Ending} {w' : World} (hl : BL w bs) (hlo : lo ≤ w.heap.size) (h : OfPost d ts w e w') (hb : ofEB d ts = b) : TPX lo (ofET d ts) b bs w e w' := by
  obtain ⟨u, rfl, hu, hb'⟩ := h
  obtain ⟨A, c, rfl⟩ := hu.agg
  exact ⟨A, c, _, by rw [hb], Lib.hid rfl, Lib.hid (RT.of_x hu hl), Lib.hid (hu.weaken fun z hz _ => Nat.le_trans hlo hz), Lib.hid hb'⟩
theorem tog_size (d : Dt) (L : List T) : (tog d L).size ≤ 1 + sizes L := by
  unfold tog
  split
  · have h1 := coll_size seqD default (openK 4 0 L)
    have h2 := sizes_open 4 0 L
    show (coll seqD default (openK 4 0 L)).size ≤ _
    omega
  · split
    · have h1 := coll_size choiceD setD0 (openK 5 5 L)
      have h2 := sizes_open 5 5 L
      show (coll choiceD setD0 (openK 5 5 L)).size ≤ _
      omega
    · simp only [T.size]; omega
theorem of_len (d : Dt) (ts : List Tr) : (ofET d ts).nodes.length ≤ 1 + (ts.map (·.nodes.length)).sum := by
  unfold ofET
  split
  · rename_i h
    rw [flatT_len]
    refine Nat.le_trans (tog_size _ _) ?_
    have h1 := sizes_nf (ts.map treeOf)
    rw [sizes_treeOf h.1, List.map_map] at h1
    have e : (ts.map fun t => nf (treeOf t)) = ts.map (nf ∘ treeOf) := rfl
    rw [e]
    omega
  · exact Nat.zero_le _
section
variable {w0 w : World} {bs : List Nat} {A A2 A3 A4 A5 A6 A7 A8 : Option Addr} {c c2 c3 c4 c5 c6 c7 c8 g g' lo : Nat} {x y z u x2 y2 z2 u2 : Tr} {b : Bool} {v : Value} {ts : List Tr} {S : Nat → Prop} {t : Tr}
theorem seqG_c (hl : BL w bs) (hlo : lo ≤ w.heap.size) (h : GivenEL ts v S w) (hb : ofEB seqD ts = b) : Calls Tryd.prog 20 #[v] w (TPX lo (ofET seqD ts) b bs w) := (Seq_g h).mono fun _ _ h => tpx hl hlo h hb
theorem choiceG_c (hl : BL w bs) (hlo : lo ≤ w.heap.size) (h : GivenEL ts v S w) (hb : ofEB choiceD ts = b) : Calls Tryd.prog 22 #[v] w (TPX lo (ofET choiceD ts) b bs w) := (Choice_g h).mono fun _ _ h => tpx hl hlo h hb
theorem rseqG_c (hl : BL w bs) (hlo : lo ≤ w.heap.size) (h : GivenEL ts v S w) (hk : ∀ t ∈ ts, KB t) (hb : ofEB seqD ts = b) : Calls Tryd.prog 28 #[v] w (TPX lo (ofET seqD ts) b bs w) := (rSeq_g h hk).mono fun _ _ h => tpx hl hlo h hb
theorem rchoiceG_c (hl : BL w bs) (hlo : lo ≤ w.heap.size) (h : GivenEL ts v S w) (hk : ∀ t ∈ ts, KB t) (hb : ofEB choiceD ts = b) : Calls Tryd.prog 29 #[v] w (TPX lo (ofET choiceD ts) b bs w) := (rChoice_g h hk).mono fun _ _ h => tpx hl hlo h hb
theorem repG_c {mn mx : Int} (hmn : -9223372036854775808 ≤ mn ∧ mn ≤ 9223372036854775807) (hmx : -9223372036854775808 ≤ mx ∧ mx ≤ 9223372036854775807) (hl : BL w bs) (hlo : lo ≤ w.heap.size) (h : GivenE t v S w) (hb : ofEB (repD mn mx) [t] = b) : Calls Tryd.prog 31 #[v, .int .i64 mn, .int .i64 mx] w (TPX lo (ofET (repD mn mx) [t]) b bs w) := (Rep_g hmn hmx h).mono fun _ _ h => tpx hl hlo h hb
theorem rrepG_c {mn mx : Int} (hmn : -9223372036854775808 ≤ mn ∧ mn ≤ 9223372036854775807) (hmx : -9223372036854775808 ≤ mx ∧ mx ≤ 9223372036854775807) (hl : BL w bs) (hlo : lo ≤ w.heap.size) (h : GivenE t v S w) (hk : KB t) (hb : ofEB (repD mn mx) [t] = b) : Calls Tryd.prog 32 #[v, .int .i64 mn, .int .i64 mx] w (TPX lo (ofET (repD mn mx) [t]) b bs w) := (rRep_g hmn hmx h hk).mono fun _ _ h => tpx hl hlo h hb
theorem andG_c (hl : BL w bs) (hlo : lo ≤ w.heap.size) (h : GivenE t v S w) (hb : ofEB andD [t] = b) : Calls Tryd.prog 33 #[v] w (TPX lo (ofET andD [t]) b bs w) := (And_g h).mono fun _ _ h => tpx hl hlo h hb
theorem randG_c (hl : BL w bs) (hlo : lo ≤ w.heap.size) (h : GivenE t v S w) (hk : KB t) (hb : ofEB andD [t] = b) : Calls Tryd.prog 34 #[v] w (TPX lo (ofET andD [t]) b bs w) := (rAnd_g h hk).mono fun _ _ h => tpx hl hlo h hb
theorem notG_c (hl : BL w bs) (hlo : lo ≤ w.heap.size) (h : GivenE t v S w) (hb : ofEB notD [t] = b) : Calls Tryd.prog 35 #[v] w (TPX lo (ofET notD [t]) b bs w) := (Not_g h).mono fun _ _ h => tpx hl hlo h hb
theorem rnotG_c (hl : BL w bs) (hlo : lo ≤ w.heap.size) (h : GivenE t v S w) (hk : KB t) (hb : ofEB notD [t] = b) : Calls Tryd.prog 36 #[v] w (TPX lo (ofET notD [t]) b bs w) := (rNot_g h hk).mono fun _ _ h => tpx hl hlo h hb
theorem capG_c {s : List UInt8} (hs : s.length ≤ maxLen) (hl : BL w bs) (hlo : lo ≤ w.heap.size) (h : GivenE t v S w) (hb : ofEB (capD s) [t] = b) : Calls Tryd.prog 37 #[.string ⟨s.toArray⟩, v] w (TPX lo (ofET (capD s) [t]) b bs w) := (Cap_g hs h).mono fun _ _ h => tpx hl hlo h hb
theorem rcapG_c {s : List UInt8} (hs : s.length ≤ maxLen) (hl : BL w bs) (hlo : lo ≤ w.heap.size) (h : GivenE t v S w) (hk : KB t) (hb : ofEB (capD s) [t] = b) : Calls Tryd.prog 38 #[.string ⟨s.toArray⟩, v] w (TPX lo (ofET (capD s) [t]) b bs w) := (rCap_g hs h hk).mono fun _ _ h => tpx hl hlo h hb
theorem RTrees.four {ty : TypeId} {nv mv lv kv : Value} (hb : Blk w g ty #[nv, .int .i64 x.root, mv, .int .i64 y.root, lv, .int .i64 z.root, kv, .int .i64 u.root]) (hS : S g)
    (h : RTree w S (.agg #[nv, .int .i64 x.root]) x) (h' : RTree w S (.agg #[mv, .int .i64 y.root]) y) (h'' : RTree w S (.agg #[lv, .int .i64 z.root]) z) (h3 : RTree w S (.agg #[kv, .int .i64 u.root]) u) : RTrees w S (.slice (some ⟨g, 0, none⟩) 4 4) [x, y, z, u] := by
  obtain ⟨nv', hv, h1⟩ := h
  obtain ⟨mv', hv', h1'⟩ := h'
  obtain ⟨lv', hv'', h1''⟩ := h''
  obtain ⟨kv', hv3, h13⟩ := h3
  have e : nv = nv' := by simpa using hv
  subst e
  have e : mv = mv' := by simpa using hv'
  subst e
  have e : lv = lv' := by simpa using hv''
  subst e
  have e : kv = kv' := by simpa using hv3
  subst e
  exact RTrees.of_blk (ts := [x, y, z, u]) (nvs := [nv, mv, lv, kv]) rfl hb hS (by simp [maxLen]) fun j t' nv' h2 h3 => by
    rcases j with _ | _ | _ | _ | j
    · simp at h2 h3; subst h2; subst h3; exact h1
    · simp at h2 h3; subst h2; subst h3; exact h1'
    · simp at h2 h3; subst h2; subst h3; exact h1''
    · simp at h2 h3; subst h2; subst h3; exact h13
    · simp at h2
/-- Two rows of two trees, the same. -/
theorem exact2_c (h1 : RT w bs A c x) (h2 : RT w bs A2 c2 y) (h3 : RT w bs A3 c3 x2) (h4 : RT w bs A4 c4 y2) (ex : x = x2) (ey : y = y2) (hs : x.nodes.length ≤ 1000000 ∧ y.nodes.length ≤ 1000000) (hg : w.heap.size = g) (hg' : w.heap.size + 1 = g') :
    Calls Tryd.prog 26 #[.slice (some ⟨g, 0, none⟩) 2 2, .slice (some ⟨g', 0, none⟩) 2 2] ((w.alloc (.cells #[.slice A x.nodes.length c, .int .i64 x.root, .slice A2 y.nodes.length c2, .int .i64 y.root] 34)).alloc (.cells #[.slice A3 x2.nodes.length c3, .int .i64 x2.root, .slice A4 y2.nodes.length c4, .int .i64 y2.root] 34))
      fun e w' => e = .returned (.bool true) ∧ Hid (Below w.heap.size w w') := by
  subst hg; subst hg'; subst ex; subst ey
  have r1 := (row2 h1 h2).below (below_row0 _ (.cells #[.slice A3 x.nodes.length c3, .int .i64 x.root, .slice A4 y.nodes.length c4, .int .i64 y.root] 34)) (fun b hb => by simpa using hb)
  have r2 := row2 (h3.alloc (.cells #[.slice A x.nodes.length c, .int .i64 x.root, .slice A2 y.nodes.length c2, .int .i64 y.root] 34)) (h4.alloc (.cells #[.slice A x.nodes.length c, .int .i64 x.root, .slice A2 y.nodes.length c2, .int .i64 y.root] 34))
  simp only [World.size_alloc] at r2
  refine (exactL_eq r1 r2 (fun b hb => by simp; omega) (fun b hb => by simp; omega) (fun t ht => by simp at ht; rcases ht with rfl | rfl; exact hs.1; exact hs.2)).mono fun e w' ⟨he, hb⟩ => ⟨he, Lib.hid ?_⟩
  exact ((below_row0 _ _).trans ((below_row0 _ _).mono (by simp))).trans (hb.mono (by simp; omega))
theorem row4 (h1 : RT w bs A c x) (h2 : RT w bs A2 c2 y) (h3 : RT w bs A3 c3 z) (h4 : RT w bs A4 c4 u) : RTrees (w.alloc (.cells #[.slice A x.nodes.length c, .int .i64 x.root, .slice A2 y.nodes.length c2, .int .i64 y.root, .slice A3 z.nodes.length c3, .int .i64 z.root, .slice A4 u.nodes.length c4, .int .i64 u.root] 34)) (fun b => b < w.heap.size + 1) (.slice (some ⟨w.heap.size, 0, none⟩) 4 4) [x, y, z, u] :=
  RTrees.four (ty := 34) (Blk.new w _ _) (Nat.lt_succ_self _) (RTree.more (h1.alloc _) fun b hb => by simpa using hb.1) (RTree.more (h2.alloc _) fun b hb => by simpa using hb.1) (RTree.more (h3.alloc _) fun b hb => by simpa using hb.1) (RTree.more (h4.alloc _) fun b hb => by simpa using hb.1)
/-- Two rows of four trees, the same. -/
theorem exact4_c (h1 : RT w bs A c x) (h2 : RT w bs A2 c2 y) (h3 : RT w bs A3 c3 z) (h4 : RT w bs A4 c4 u) (h5 : RT w bs A5 c5 x2) (h6 : RT w bs A6 c6 y2) (h7 : RT w bs A7 c7 z2) (h8 : RT w bs A8 c8 u2) (ex : x = x2) (ey : y = y2) (ez : z = z2) (eu : u = u2)
    (hs : x.nodes.length ≤ 1000000 ∧ y.nodes.length ≤ 1000000 ∧ z.nodes.length ≤ 1000000 ∧ u.nodes.length ≤ 1000000) (hg : w.heap.size = g) (hg' : w.heap.size + 1 = g') :
    Calls Tryd.prog 26 #[.slice (some ⟨g, 0, none⟩) 4 4, .slice (some ⟨g', 0, none⟩) 4 4] ((w.alloc (.cells #[.slice A x.nodes.length c, .int .i64 x.root, .slice A2 y.nodes.length c2, .int .i64 y.root, .slice A3 z.nodes.length c3, .int .i64 z.root, .slice A4 u.nodes.length c4, .int .i64 u.root] 34)).alloc (.cells #[.slice A5 x2.nodes.length c5, .int .i64 x2.root, .slice A6 y2.nodes.length c6, .int .i64 y2.root, .slice A7 z2.nodes.length c7, .int .i64 z2.root, .slice A8 u2.nodes.length c8, .int .i64 u2.root] 34))
      fun e w' => e = .returned (.bool true) ∧ Hid (Below w.heap.size w w') := by
  subst hg; subst hg'; subst ex; subst ey; subst ez; subst eu
  obtain ⟨wa, hwa⟩ : ∃ wa, wa = w.alloc (.cells #[.slice A x.nodes.length c, .int .i64 x.root, .slice A2 y.nodes.length c2, .int .i64 y.root, .slice A3 z.nodes.length c3, .int .i64 z.root, .slice A4 u.nodes.length c4, .int .i64 u.root] 34) := ⟨_, rfl⟩
  have ha : wa.heap.size = w.heap.size + 1 := by rw [hwa]; simp
  have hba : Below w.heap.size w wa := by rw [hwa]; exact below_row0 _ _
  have r1 : RTrees wa (fun b => b < w.heap.size + 1) (.slice (some ⟨w.heap.size, 0, none⟩) 4 4) [x, y, z, u] := by rw [hwa]; exact row4 h1 h2 h3 h4
  rw [← hwa]
  have r2 := row4 (h5.below hba) (h6.below hba) (h7.below hba) (h8.below hba)
  rw [ha] at r2
  obtain ⟨wb, hwb⟩ : ∃ wb, wb = wa.alloc (.cells #[.slice A5 x.nodes.length c5, .int .i64 x.root, .slice A6 y.nodes.length c6, .int .i64 y.root, .slice A7 z.nodes.length c7, .int .i64 z.root, .slice A8 u.nodes.length c8, .int .i64 u.root] 34) := ⟨_, rfl⟩
  have hb : wb.heap.size = w.heap.size + 2 := by rw [hwb]; simp; omega
  have hbb : Below wa.heap.size wa wb := by rw [hwb]; exact below_row0 _ _
  rw [← hwb] at r2 ⊢
  refine (exactL_eq (r1.below hbb (fun b hb => by omega)) r2 (fun b hb => by omega) (fun b hb => by omega) (fun t ht => by simp at ht; rcases ht with rfl | rfl | rfl | rfl; exact hs.1; exact hs.2.1; exact hs.2.2.1; exact hs.2.2.2)).mono fun e w' ⟨he, hb'⟩ => ⟨he, Lib.hid ?_⟩
  exact (hba.trans (hbb.mono (by omega))).trans (hb'.mono (by omega))
theorem XTree.lo_ {w' : World} (h : XTree w' (fun z => lo ≤ z) v t) (hS : ∀ b, lo ≤ b ∧ b < w'.heap.size ∧ Soft w' b → S b) : RTree w' S v t := RTree.more h hS
theorem spoil2_c (h1 : XTree w (fun z => lo ≤ z) (.agg #[.slice A x.nodes.length c, .int .i64 x.root]) x) (h2 : XTree w (fun z => lo ≤ z) (.agg #[.slice A2 y.nodes.length c2, .int .i64 y.root]) y) (hlo : lo ≤ w.heap.size) (hg : w.heap.size = g) :
    Calls Tryd.prog 30 #[.slice (some ⟨g, 0, none⟩) 2 2] (w.alloc (.cells #[.slice A x.nodes.length c, .int .i64 x.root, .slice A2 y.nodes.length c2, .int .i64 y.root] 34)) fun e w' => e = .returned (.tuple #[]) ∧ Hid (Below lo w w') := by
  subst hg
  obtain ⟨wa, hwa⟩ : ∃ wa, wa = w.alloc (.cells #[.slice A x.nodes.length c, .int .i64 x.root, .slice A2 y.nodes.length c2, .int .i64 y.root] 34) := ⟨_, rfl⟩
  have hba : Below w.heap.size w wa := by rw [hwa]; exact below_row0 _ _
  have hB : Blk wa w.heap.size 34 #[.slice A x.nodes.length c, .int .i64 x.root, .slice A2 y.nodes.length c2, .int .i64 y.root] := by rw [hwa]; exact Blk.new _ _ _
  rw [← hwa]
  have hx : XL wa lo (.slice (some ⟨w.heap.size, 0, none⟩) 2 2) [x, y] := RTrees.two (ty := 34) hB ⟨hlo, hB.lt, hB.soft⟩ (h1.below hba) (h2.below hba)
  exact (spoilL_g hx).mono fun e w' ⟨he, hb⟩ => ⟨he, Lib.hid ((hba.mono hlo).trans hb)⟩
theorem spoil4_c (h1 : XTree w (fun z => lo ≤ z) (.agg #[.slice A x.nodes.length c, .int .i64 x.root]) x) (h2 : XTree w (fun z => lo ≤ z) (.agg #[.slice A2 y.nodes.length c2, .int .i64 y.root]) y) (h3 : XTree w (fun z => lo ≤ z) (.agg #[.slice A3 z.nodes.length c3, .int .i64 z.root]) z) (h4 : XTree w (fun z => lo ≤ z) (.agg #[.slice A4 u.nodes.length c4, .int .i64 u.root]) u) (hlo : lo ≤ w.heap.size) (hg : w.heap.size = g) :
    Calls Tryd.prog 30 #[.slice (some ⟨g, 0, none⟩) 4 4] (w.alloc (.cells #[.slice A x.nodes.length c, .int .i64 x.root, .slice A2 y.nodes.length c2, .int .i64 y.root, .slice A3 z.nodes.length c3, .int .i64 z.root, .slice A4 u.nodes.length c4, .int .i64 u.root] 34)) fun e w' => e = .returned (.tuple #[]) ∧ Hid (Below lo w w') := by
  subst hg
  obtain ⟨wa, hwa⟩ : ∃ wa, wa = w.alloc (.cells #[.slice A x.nodes.length c, .int .i64 x.root, .slice A2 y.nodes.length c2, .int .i64 y.root, .slice A3 z.nodes.length c3, .int .i64 z.root, .slice A4 u.nodes.length c4, .int .i64 u.root] 34) := ⟨_, rfl⟩
  have hba : Below w.heap.size w wa := by rw [hwa]; exact below_row0 _ _
  have hB : Blk wa w.heap.size 34 #[.slice A x.nodes.length c, .int .i64 x.root, .slice A2 y.nodes.length c2, .int .i64 y.root, .slice A3 z.nodes.length c3, .int .i64 z.root, .slice A4 u.nodes.length c4, .int .i64 u.root] := by rw [hwa]; exact Blk.new _ _ _
  rw [← hwa]
  have hx : XL wa lo (.slice (some ⟨w.heap.size, 0, none⟩) 4 4) [x, y, z, u] := RTrees.four (ty := 34) hB ⟨hlo, hB.lt, hB.soft⟩ (h1.below hba) (h2.below hba) (h3.below hba) (h4.below hba)
  exact (spoilL_g hx).mono fun e w' ⟨he, hb⟩ => ⟨he, Lib.hid ((hba.mono hlo).trans hb)⟩
end
end Go.Proofs.YtclfpjfjebheoaaDoor
/- The law ExprPuts, walked: it answers true. -/
namespace Go.Proofs.YtclfpjfjebheoaaDoor
set_option linter.unusedSimpArgs false
open Go.RowKit
open Classical

set_option maxRecDepth 20000 in
set_option maxHeartbeats 8000000 in
theorem lexprputs_any (ts : List Tr) (vl : Value) (mn mx : Int) (nm : ByteArray) (w : World) (hts : RTrees w (fun b => b < w.heap.size) vl ts) (hmn : -9223372036854775808 ≤ mn ∧ mn ≤ 9223372036854775807) (hmx : -9223372036854775808 ≤ mx ∧ mx ≤ 9223372036854775807) (hnm : nm.size ≤ maxLen) (hk : KTab w) (ht : TogTab w) :
    Calls Tryd.prog 7 #[vl, .int .i64 mn, .int .i64 mx, .string nm] w (TruePost w) := by
  obtain ⟨s, rfl⟩ : ∃ s : List UInt8, nm = ⟨s.toArray⟩ := ⟨nm.data.toList, by simp⟩
  rw [size_mk] at hnm
  obtain ⟨Al, cl, rfl, -, hsl, -⟩ := hts.at_
  have HT := Lib.hid hts
  have HMN := Lib.hid hmn
  have HMX := Lib.hid hmx
  have HNM := Lib.hid hnm
  have HE : Hid (Ev w w) := Lib.hid ⟨Below.refl _ _, hk, ht⟩
  have HL : Hid (BL w []) := Lib.hid (BL.nil w)
  have HG : Hid (∀ b ∈ ([] : List Nat), w.heap.size ≤ b) := Lib.hid (fun b hm => by cases hm)
  have HN : Hid (([] : List Nat).Nodup) := Lib.hid List.nodup_nil
  obtain ⟨i0, hi0, hz0, hz1, hz2⟩ := info_parts tree_info
  have hia : Hid (Tryd.prog.info? 34 = some i0 ∧ i0.zero = some (.agg #[.slice none 0 0, .int .i64 0]) ∧ i0.size = 2 ∧ i0.bytes = 32) := Lib.hid ⟨hi0, hz0, hz1, hz2⟩
  have hsz : (⟨s.toArray⟩ : ByteArray).size = s.length := size_mk s
  obtain ⟨nm, hnmE⟩ : ∃ nm : ByteArray, nm = ⟨s.toArray⟩ := ⟨_, rfl⟩
  rw [← hnmE] at hsz ⊢
  have HNE := Lib.hid hnmE
  have HSL := Lib.hid hsz
  clear hts hk ht hi0 hz0 hz1 hz2 hmn hmx hnm hnmE hsz
  go_enter Tryd.func7, Tryd.ntmps7
  go_wp2_with fail
  refine Calls.mono (largeL_c HE.out HT.out) ?_
  rintro e w1 ⟨r, rfl, HS, B1⟩
  replace HE := Lib.hid (HE.out.below B1.out)
  replace HL := Lib.hid (HL.out.below B1.out)
  rcases r with _ | _
  · have HZL := Lib.hid (show (ts.map (·.nodes.length)).sum ≤ 400 ∧ ts.length ≤ 400 from ⟨(HS.out rfl).sum, (HS.out rfl).few⟩)
    have HKB := Lib.hid (show ∀ t ∈ ts, KB t from fun t ht n hn => by have := (HS.out rfl).kids t ht n hn; omega)
    clear HS
    by_cases h300 : 300 < nm.size
    · have hz3 : (300 : Int) < (nm.size : Int) := by omega
      go_wp2_with fail
      refine Calls.mono (awake_c HE.out) ?_
      rintro e w2 ⟨rfl, B2⟩
      replace HE := Lib.hid (HE.out.below B2.out)
      replace HL := Lib.hid (HL.out.below B2.out)
      go_wp2_with fail
      go_ret
      exact ⟨rfl, HE.out.bel⟩
    · have hz3 : ¬ (300 : Int) < (nm.size : Int) := by omega
      by_cases h40 : 40 < ts.length
      · have hz4 : (40 : Int) < (ts.length : Int) := by omega
        go_wp2_with fail
        refine Calls.mono (awake_c HE.out) ?_
        rintro e w2 ⟨rfl, B2⟩
        replace HE := Lib.hid (HE.out.below B2.out)
        replace HL := Lib.hid (HL.out.below B2.out)
        go_wp2_with fail
        go_ret
        exact ⟨rfl, HE.out.bel⟩
      · have hz4 : ¬ (40 : Int) < (ts.length : Int) := by omega
        have HL40 := Lib.hid h40
        go_wp2_with fail
        clear hz3 hz4 h300 h40
        have h40 : ts.length ≤ 40 := by have := HL40.out; omega
        have HGL := Lib.hid (show ∀ wx, Ev w wx → GivenL ts (.slice Al ts.length cl) (fun b => b < w.heap.size) wx from fun wx hx => ⟨HT.out.below hx.bel (fun _ h => h), fun b hb => Nat.lt_of_lt_of_le hb hx.bel.size, hx.ktab, fun t ht => by have := sum_mem ht; have := HZL.out.1; omega, by have := HZL.out.2; omega⟩)
        obtain ⟨n, hn⟩ : ∃ n, n = ts.length := ⟨_, rfl⟩
        have HNN := Lib.hid hn
        rw [← hn] at h40 HGL HT ⊢
        clear hn
        go_loopw [9, 10] (fun vo i wr => ∃ (j : Nat) (R : Option Addr) (q : Nat), vo = .slice R j q ∧ j ≤ n ∧ i = .int .i64 j ∧ Hid (OL wr w.heap.size (fun b => w.heap.size ≤ b) (.slice R j q) (ts.take j)) ∧ Hid (Ev w wr)) (fun _ i _ => n - (intOf i).toNat)
        case atStart => exact ⟨0, none, 0, rfl, Nat.zero_le _, rfl, Lib.hid (OL.nil_ _ _ _), HE⟩
        case round =>
          obtain ⟨wo, rfl⟩ : ∃ wo, wo = wr := ⟨_, rfl⟩
          obtain ⟨j, R, q, rfl, hj, rfl, HO, HEO⟩ := hrel
          clear HE HL B1
          by_cases hlt : j < n
          · obtain ⟨t, ht⟩ : ∃ t, ts[j]? = some t := ⟨_, List.getElem?_eq_getElem (by have := HNN.out; omega)⟩
            have htm := List.mem_of_getElem? ht
            obtain ⟨bb, off, Ak, ck, hA, hSb, hG, d0, d1⟩ := (show GivenL ts (.slice Al n cl) _ wo from HGL.out _ HEO.out).at_ j t ht
            subst hA
            have hz : t.nodes.length ≤ 400 := by have := sum_mem htm; have := HZL.out.1; omega
            have HOW := Lib.hid (lown_g hG.read hG.old (by omega) (HKB.out t htm))
            have HLEN := Lib.hid (show (ts.take j).length = j by rw [List.length_take]; have := HNN.out; omega)
            have HTK := Lib.hid (show ts.take (j + 1) = ts.take j ++ [t] by rw [List.take_add_one, ht]; rfl)
            have hj0 : (0 : Int) ≤ (j : Int) := by omega
            have hj1 : (j : Int) < (n : Int) := by omega
            clear hG ht htm
            go_wp2_with fail
            clear d0 d1
            refine Calls.mono HOW.out ?_
            rintro e w4 ⟨u, rfl, hu, hb4⟩
            obtain ⟨Au, cu, rfl⟩ := hu.agg
            have hOy := HO.out.below hb4
            obtain ⟨nvs, hnl, hrow, hns⟩ := id hOy
            rw [HLEN.out] at hrow
            have HROW := Lib.hid hrow
            have HNV := Lib.hid (And.intro hnl hns)
            have HUY := Lib.hid hu
            have HE4 := Lib.hid (HEO.out.below hb4)
            have HBS := Lib.hid HE4.out.bel.size
            have HWS := Lib.hid HEO.out.bel.size
            have HRB := Lib.hid (fun r (hr : (Value.slice R j q).ownBlock = some r) => HO.out.lt hr)
            have HS4 := Lib.hid hb4.size
            clear hu hb4 hOy hrow hnl hns
            go_wp2_with (first
              | (at_builtin
                 refine wpList_append1 w4 rfl (.tmp 56) (.tmp 62) _ rfl w.heap.size 34 i0 _ 2 32 Tryd.underlying48 hia.out.1 hia.out.2.1 hia.out.2.2.1 hia.out.2.2.2 rfl (by omega) (.slice R j q) j (treesCells (ts.take j) nvs) rfl HROW.out [_, _] rfl rfl (by simp [Value.oneCell']) (by unfold maxLen; omega) (by omega) HBS.out ?_
                 intro v5 w5 hown5 hg5 hat5
                 obtain ⟨A5, c5, rfl, _, _, _⟩ := own_slice hown5)
              | fail)
            obtain ⟨nv, hv, hn1, hn2, hn3⟩ := HUY.out
            have ev : nv = .slice Au t.nodes.length cu := by simp at hv; exact hv.symm
            subst ev
            have hp := OL.push HNV.out.1 HNV.out.2 hn1 hn2 hn3 (fun b hb => ⟨by have := hb.1; have := HWS.out; omega, hb.2.1, fun e => by have := (HRB.out b e).2; have := hb.1; omega, hb.2.2⟩) (by rw [HLEN.out]; exact hown5) hg5 (by
              rcases hat5 with h | h
              · exact .inl h
              · exact .inr fun g hg => by rw [h] at hg; injection hg; omega)
            have he5 := HE4.out.grown hg5 fun r hr => (HRB.out r hr).1
            go_roundw
            case measure => simp [intOf]; omega
            case rel => exact ⟨j + 1, A5, c5, rfl, by omega, by go_num, Lib.hid (by rw [HTK.out]; exact hp), Lib.hid he5⟩
          · obtain rfl : j = n := by omega
            have HX : Hid (RTrees wo (fun b => b < wo.heap.size) (.slice R j q) ts) := Lib.hid (by have := HO.out; rw [List.take_of_length_le (by have := HNN.out; omega)] at this; exact this.reads_)
            have HTX : Hid (RTrees wo (fun b => b < wo.heap.size) (.slice Al j cl) ts) := Lib.hid (HGL.out wo HEO.out).read |> fun h => Lib.hid (h.out.more fun b hb => Nat.lt_of_lt_of_le hb HEO.out.bel.size)
            have HEX : Hid (Ev wo wo) := Lib.hid ⟨Below.refl _ _, HEO.out.ktab, HEO.out.tog⟩
            have HGX := Lib.hid (show ∀ (vv : Value) wx, RTrees wo (fun b => b < wo.heap.size) vv ts → Ev wo wx → GivenEL ts vv (fun b => b < wo.heap.size) wx from fun vv wx hv hx => listE hx hv (by have := HZL.out.1; omega) (by have := HZL.out.2; omega))
            have HAT := Lib.hid (show ∀ (vv : Option Addr) (cc : Nat) wx, RTrees wo (fun b => b < wo.heap.size) (.slice vv j cc) ts → Ev wo wx → GivenL ts (.slice vv j cc) (fun b => b < wo.heap.size) wx from fun vv cc wx hv hx => ⟨hv.below hx.bel (fun _ h => h), fun b hb => Nat.lt_of_lt_of_le hb hx.bel.size, hx.ktab, fun t ht => by have := sum_mem ht; have := HZL.out.1; omega, by have := HZL.out.2; omega⟩)
            clear HO HGL hlt hj
            go_wp2_with fail
            obtain ⟨qs, hqs⟩ : ∃ qs, qs = ofEB seqD ts := ⟨_, rfl⟩
            have HQS := Lib.hid hqs.symm
            obtain ⟨qc, hqc⟩ : ∃ qc, qc = ofEB choiceD ts := ⟨_, rfl⟩
            have HQC := Lib.hid hqc.symm
            clear hqs hqc
            go_loopw [11] (fun i wr => ∃ k : Nat, k ≤ 2 ∧ i = .int .i64 k ∧ Hid (Ev wo wr)) (fun i _ => 2 - (intOf i).toNat)
            case atStart => exact ⟨0, Nat.zero_le _, rfl, HEX⟩
            case round =>
              obtain ⟨wp, rfl⟩ : ∃ wp, wp = wr := ⟨_, rfl⟩
              obtain ⟨k, hk, rfl, HE⟩ := hrel
              have HL := Lib.hid (BL.nil wp)
              have HG : Hid (∀ b ∈ ([] : List Nat), wo.heap.size ≤ b) := Lib.hid (fun b hm => by cases hm)
              have hk0 : (0 : Int) ≤ (k : Int) := by omega
              by_cases hlt2 : k < 2
              · have hk1 : (k : Int) < 2 := by omega
                have HLO := Lib.hid (show Since wp wp from Nat.le_refl _)
                have HLOW := Lib.hid (show wo.heap.size ≤ wp.heap.size from HE.out.bel.size)
                go_wp2_with fail
                refine Calls.mono (seqG_c (b := qs) HL.out HLO.out (HGX.out _ _ HX.out HE.out) HQS.out) ?_
                rintro e w2 ⟨A2, c2, x2, rfl, X2, V2, XT2, B2⟩
                have Z2 := Lib.hid (show x2.nodes.length ≤ 1000 by rw [X2.out]; have := of_len seqD ts; have := HZL.out.1; omega)
                replace HE := Lib.hid (HE.out.below B2.out)
                replace HL := Lib.hid (HL.out.below B2.out)
                replace HLO := Lib.hid (HLO.out.below B2.out)
                replace HG := Lib.hid (ge_box (g := w2.heap.size) HG.out HE.out rfl)
                replace HN := Lib.hid (nd_box (g := w2.heap.size) HN.out HL.out rfl)
                have K12 := Lib.hid (TB.newN (g := w2.heap.size) V2.out rfl)
                replace HE := Lib.hid (HE.out.alloc (.cells #[.slice A2 x2.nodes.length c2, .int .i64 x2.root] 34))
                replace HL := Lib.hid (BL.boxN (g := w2.heap.size) HL.out (.cells #[.slice A2 x2.nodes.length c2, .int .i64 x2.root] 34) rfl)
                replace HLO := Lib.hid (HLO.out.below (below_row _ (.cells #[.slice A2 x2.nodes.length c2, .int .i64 x2.root] 34)))
                replace XT2 := Lib.hid (XT2.out.below (below_row _ (.cells #[.slice A2 x2.nodes.length c2, .int .i64 x2.root] 34)))
                go_wp2_with fail
                refine Calls.mono (rseqG_c (b := qs) HL.out HLO.out (HGX.out _ _ HTX.out HE.out) HKB.out HQS.out) ?_
                rintro e w3 ⟨A3, c3, x3, rfl, X3, V3, XT3, B3⟩
                have Z3 := Lib.hid (show x3.nodes.length ≤ 1000 by rw [X3.out]; have := of_len seqD ts; have := HZL.out.1; omega)
                replace HE := Lib.hid (HE.out.below B3.out)
                replace HL := Lib.hid (HL.out.below B3.out)
                replace K12 := Lib.hid (K12.out.below B3.out)
                replace HLO := Lib.hid (HLO.out.below B3.out)
                replace XT2 := Lib.hid (XT2.out.below B3.out)
                clear XT3
                replace HG := Lib.hid (ge_box (g := w3.heap.size) HG.out HE.out rfl)
                replace HN := Lib.hid (nd_box (g := w3.heap.size) HN.out HL.out rfl)
                have K14 := Lib.hid (TB.newN (g := w3.heap.size) V3.out rfl)
                replace HE := Lib.hid (HE.out.alloc (.cells #[.slice A3 x3.nodes.length c3, .int .i64 x3.root] 34))
                replace HL := Lib.hid (BL.boxN (g := w3.heap.size) HL.out (.cells #[.slice A3 x3.nodes.length c3, .int .i64 x3.root] 34) rfl)
                replace K12 := Lib.hid (TB.boxN (g := w3.heap.size) K12.out (.cells #[.slice A3 x3.nodes.length c3, .int .i64 x3.root] 34) rfl)
                replace HLO := Lib.hid (HLO.out.below (below_row _ (.cells #[.slice A3 x3.nodes.length c3, .int .i64 x3.root] 34)))
                replace XT2 := Lib.hid (XT2.out.below (below_row _ (.cells #[.slice A3 x3.nodes.length c3, .int .i64 x3.root] 34)))
                go_wp2_with fail
                refine Calls.mono (choiceG_c (b := qc) HL.out HLO.out (HGX.out _ _ HX.out HE.out) HQC.out) ?_
                rintro e w4 ⟨A4, c4, x4, rfl, X4, V4, XT4, B4⟩
                have Z4 := Lib.hid (show x4.nodes.length ≤ 1000 by rw [X4.out]; have := of_len choiceD ts; have := HZL.out.1; omega)
                replace HE := Lib.hid (HE.out.below B4.out)
                replace HL := Lib.hid (HL.out.below B4.out)
                replace K12 := Lib.hid (K12.out.below B4.out)
                replace K14 := Lib.hid (K14.out.below B4.out)
                replace HLO := Lib.hid (HLO.out.below B4.out)
                replace XT2 := Lib.hid (XT2.out.below B4.out)
                replace HG := Lib.hid (ge_box (g := w4.heap.size) HG.out HE.out rfl)
                replace HN := Lib.hid (nd_box (g := w4.heap.size) HN.out HL.out rfl)
                have K16 := Lib.hid (TB.newN (g := w4.heap.size) V4.out rfl)
                replace HE := Lib.hid (HE.out.alloc (.cells #[.slice A4 x4.nodes.length c4, .int .i64 x4.root] 34))
                replace HL := Lib.hid (BL.boxN (g := w4.heap.size) HL.out (.cells #[.slice A4 x4.nodes.length c4, .int .i64 x4.root] 34) rfl)
                replace K12 := Lib.hid (TB.boxN (g := w4.heap.size) K12.out (.cells #[.slice A4 x4.nodes.length c4, .int .i64 x4.root] 34) rfl)
                replace K14 := Lib.hid (TB.boxN (g := w4.heap.size) K14.out (.cells #[.slice A4 x4.nodes.length c4, .int .i64 x4.root] 34) rfl)
                replace HLO := Lib.hid (HLO.out.below (below_row _ (.cells #[.slice A4 x4.nodes.length c4, .int .i64 x4.root] 34)))
                replace XT2 := Lib.hid (XT2.out.below (below_row _ (.cells #[.slice A4 x4.nodes.length c4, .int .i64 x4.root] 34)))
                replace XT4 := Lib.hid (XT4.out.below (below_row _ (.cells #[.slice A4 x4.nodes.length c4, .int .i64 x4.root] 34)))
                go_wp2_with fail
                refine Calls.mono (rchoiceG_c (b := qc) HL.out HLO.out (HGX.out _ _ HTX.out HE.out) HKB.out HQC.out) ?_
                rintro e w5 ⟨A5, c5, x5, rfl, X5, V5, XT5, B5⟩
                have Z5 := Lib.hid (show x5.nodes.length ≤ 1000 by rw [X5.out]; have := of_len choiceD ts; have := HZL.out.1; omega)
                replace HE := Lib.hid (HE.out.below B5.out)
                replace HL := Lib.hid (HL.out.below B5.out)
                replace K12 := Lib.hid (K12.out.below B5.out)
                replace K14 := Lib.hid (K14.out.below B5.out)
                replace K16 := Lib.hid (K16.out.below B5.out)
                replace HLO := Lib.hid (HLO.out.below B5.out)
                replace XT2 := Lib.hid (XT2.out.below B5.out)
                replace XT4 := Lib.hid (XT4.out.below B5.out)
                clear XT5
                replace HG := Lib.hid (ge_box (g := w5.heap.size) HG.out HE.out rfl)
                replace HN := Lib.hid (nd_box (g := w5.heap.size) HN.out HL.out rfl)
                have K18 := Lib.hid (TB.newN (g := w5.heap.size) V5.out rfl)
                replace HE := Lib.hid (HE.out.alloc (.cells #[.slice A5 x5.nodes.length c5, .int .i64 x5.root] 34))
                replace HL := Lib.hid (BL.boxN (g := w5.heap.size) HL.out (.cells #[.slice A5 x5.nodes.length c5, .int .i64 x5.root] 34) rfl)
                replace K12 := Lib.hid (TB.boxN (g := w5.heap.size) K12.out (.cells #[.slice A5 x5.nodes.length c5, .int .i64 x5.root] 34) rfl)
                replace K14 := Lib.hid (TB.boxN (g := w5.heap.size) K14.out (.cells #[.slice A5 x5.nodes.length c5, .int .i64 x5.root] 34) rfl)
                replace K16 := Lib.hid (TB.boxN (g := w5.heap.size) K16.out (.cells #[.slice A5 x5.nodes.length c5, .int .i64 x5.root] 34) rfl)
                replace HLO := Lib.hid (HLO.out.below (below_row _ (.cells #[.slice A5 x5.nodes.length c5, .int .i64 x5.root] 34)))
                replace XT2 := Lib.hid (XT2.out.below (below_row _ (.cells #[.slice A5 x5.nodes.length c5, .int .i64 x5.root] 34)))
                replace XT4 := Lib.hid (XT4.out.below (below_row _ (.cells #[.slice A5 x5.nodes.length c5, .int .i64 x5.root] 34)))
                have y140 : ((w5.alloc (.cells #[.slice A5 x5.nodes.length c5, .int .i64 x5.root] 34)).alloc (.cells #[.slice A2 x2.nodes.length c2, .int .i64 x2.root, .slice A4 x4.nodes.length c4, .int .i64 x4.root] 34)).cell? ⟨w3.heap.size, 0, none⟩ = some (.slice A3 x3.nodes.length c3) := (K14.out.alloc (.cells #[.slice A2 x2.nodes.length c2, .int .i64 x2.root, .slice A4 x4.nodes.length c4, .int .i64 x4.root] 34)).blk.cell 0
                have y141 : ((w5.alloc (.cells #[.slice A5 x5.nodes.length c5, .int .i64 x5.root] 34)).alloc (.cells #[.slice A2 x2.nodes.length c2, .int .i64 x2.root, .slice A4 x4.nodes.length c4, .int .i64 x4.root] 34)).cell? ⟨w3.heap.size, 1, none⟩ = some (.int .i64 x3.root) := (K14.out.alloc (.cells #[.slice A2 x2.nodes.length c2, .int .i64 x2.root, .slice A4 x4.nodes.length c4, .int .i64 x4.root] 34)).blk.cell 1
                have y180 : ((w5.alloc (.cells #[.slice A5 x5.nodes.length c5, .int .i64 x5.root] 34)).alloc (.cells #[.slice A2 x2.nodes.length c2, .int .i64 x2.root, .slice A4 x4.nodes.length c4, .int .i64 x4.root] 34)).cell? ⟨w5.heap.size, 0, none⟩ = some (.slice A5 x5.nodes.length c5) := (K18.out.alloc (.cells #[.slice A2 x2.nodes.length c2, .int .i64 x2.root, .slice A4 x4.nodes.length c4, .int .i64 x4.root] 34)).blk.cell 0
                have y181 : ((w5.alloc (.cells #[.slice A5 x5.nodes.length c5, .int .i64 x5.root] 34)).alloc (.cells #[.slice A2 x2.nodes.length c2, .int .i64 x2.root, .slice A4 x4.nodes.length c4, .int .i64 x4.root] 34)).cell? ⟨w5.heap.size, 1, none⟩ = some (.int .i64 x5.root) := (K18.out.alloc (.cells #[.slice A2 x2.nodes.length c2, .int .i64 x2.root, .slice A4 x4.nodes.length c4, .int .i64 x4.root] 34)).blk.cell 1
                have d120 : (w5.alloc (.cells #[.slice A5 x5.nodes.length c5, .int .i64 x5.root] 34)).cell? ⟨w2.heap.size, 0, none⟩ = some (.slice A2 x2.nodes.length c2) := K12.out.blk.cell 0
                have d121 : (w5.alloc (.cells #[.slice A5 x5.nodes.length c5, .int .i64 x5.root] 34)).cell? ⟨w2.heap.size, 1, none⟩ = some (.int .i64 x2.root) := K12.out.blk.cell 1
                have d160 : (w5.alloc (.cells #[.slice A5 x5.nodes.length c5, .int .i64 x5.root] 34)).cell? ⟨w4.heap.size, 0, none⟩ = some (.slice A4 x4.nodes.length c4) := K16.out.blk.cell 0
                have d161 : (w5.alloc (.cells #[.slice A5 x5.nodes.length c5, .int .i64 x5.root] 34)).cell? ⟨w4.heap.size, 1, none⟩ = some (.int .i64 x4.root) := K16.out.blk.cell 1
                go_wp2_with fail
                clear d120 d121 d160 d161 y140 y141 y180 y181
                refine Calls.mono (exact2_c K12.out.tree K16.out.tree K14.out.tree K18.out.tree (X2.out.trans X3.out.symm) (X4.out.trans X5.out.symm) ⟨by have := Z2.out; omega, by have := Z4.out; omega⟩ (by simp) (by simp)) ?_
                rintro e w6 ⟨rfl, B6⟩
                replace HE := Lib.hid (HE.out.below B6.out)
                replace HL := Lib.hid (HL.out.below B6.out)
                replace K12 := Lib.hid (K12.out.below B6.out)
                replace K14 := Lib.hid (K14.out.below B6.out)
                replace K16 := Lib.hid (K16.out.below B6.out)
                replace K18 := Lib.hid (K18.out.below B6.out)
                replace HLO := Lib.hid (HLO.out.below B6.out)
                replace XT2 := Lib.hid (XT2.out.below B6.out)
                replace XT4 := Lib.hid (XT4.out.below B6.out)
                have d120 : (w6).cell? ⟨w2.heap.size, 0, none⟩ = some (.slice A2 x2.nodes.length c2) := K12.out.blk.cell 0
                have d121 : (w6).cell? ⟨w2.heap.size, 1, none⟩ = some (.int .i64 x2.root) := K12.out.blk.cell 1
                have d160 : (w6).cell? ⟨w4.heap.size, 0, none⟩ = some (.slice A4 x4.nodes.length c4) := K16.out.blk.cell 0
                have d161 : (w6).cell? ⟨w4.heap.size, 1, none⟩ = some (.int .i64 x4.root) := K16.out.blk.cell 1
                go_wp2_with fail
                clear d120 d121 d160 d161
                refine Calls.mono (spoil2_c XT2.out XT4.out HLO.out (by simp)) ?_
                rintro e ws ⟨rfl, BS⟩
                have HES := Lib.hid (show Ev wo ws from ⟨HE.out.bel.trans (BS.out.mono HLOW.out), HE.out.kt, HE.out.tt⟩)
                clear HE HL HG HN BS HLO XT2 XT4 K12 K14 K16 K18
                go_wp2_with fail
                go_loopw [20] (fun i wr => ∃ p : Nat, p ≤ j ∧ i = .int .i64 p ∧ Hid (Ev wo wr)) (fun i _ => j - (intOf i).toNat)
                case atStart => exact ⟨0, Nat.zero_le _, rfl, HES⟩
                case round =>
                  obtain ⟨wi, rfl⟩ : ∃ wi, wi = wr := ⟨_, rfl⟩
                  obtain ⟨p, hp, rfl, HE⟩ := hrel
                  clear HES
                  have hp0 : (0 : Int) ≤ (p : Int) := by omega
                  by_cases hpj : p < j
                  · have hp1 : (p : Int) < (j : Int) := by omega
                    by_cases hp3 : p < 3
                    · have hp4 : (p : Int) < 3 := by omega
                      have HL := Lib.hid (BL.nil wi)
                      have HG : Hid (∀ b ∈ ([] : List Nat), wo.heap.size ≤ b) := Lib.hid (fun b hm => by cases hm)
                      have HN : Hid (([] : List Nat).Nodup) := Lib.hid List.nodup_nil
                      have HLO := Lib.hid (show Since wi wi from Nat.le_refl _)
                      have HLOI := Lib.hid (show wo.heap.size ≤ wi.heap.size from HE.out.bel.size)
                      obtain ⟨t, ht⟩ : ∃ t, ts[p]? = some t := ⟨_, List.getElem?_eq_getElem (by have := HNN.out; omega)⟩
                      have HZ := Lib.hid (show t.nodes.length ≤ 400 by have := sum_mem (List.mem_of_getElem? ht); have := HZL.out.1; omega)
                      have HKT := Lib.hid (HKB.out t (List.mem_of_getElem? ht))
                      obtain ⟨bx, ox, Ax, kx, hAx, hSx, hGx, dx0, dx1⟩ := (HAT.out _ _ wi HX.out HE.out).at_ p t ht
                      have HCx := Lib.hid (show ∀ wx, Ev wo wx → wx.cell? ⟨bx, ox + p * 2, none⟩ = some (.slice Ax t.nodes.length kx) ∧ wx.cell? ⟨bx, ox + p * 2 + 1, none⟩ = some (.int .i64 t.root) from fun wx hx => ⟨(hx.bel.cell (p := ⟨bx, ox + p * 2, none⟩) hSx).trans ((HE.out.bel.cell (p := ⟨bx, ox + p * 2, none⟩) hSx).symm.trans dx0), (hx.bel.cell (p := ⟨bx, ox + p * 2 + 1, none⟩) hSx).trans ((HE.out.bel.cell (p := ⟨bx, ox + p * 2 + 1, none⟩) hSx).symm.trans dx1)⟩)
                      have Vx : Hid (RT wi [] Ax kx t) := Lib.hid (RTree.more hGx.read fun b hb => ⟨hGx.old b hb, fun h => by cases h⟩)
                      clear hGx dx0 dx1
                      obtain ⟨bl, ol, Al, kl, hAl, hSl, hGl, dl0, dl1⟩ := (HAT.out _ _ wi HTX.out HE.out).at_ p t ht
                      have HCl := Lib.hid (show ∀ wx, Ev wo wx → wx.cell? ⟨bl, ol + p * 2, none⟩ = some (.slice Al t.nodes.length kl) ∧ wx.cell? ⟨bl, ol + p * 2 + 1, none⟩ = some (.int .i64 t.root) from fun wx hx => ⟨(hx.bel.cell (p := ⟨bl, ol + p * 2, none⟩) hSl).trans ((HE.out.bel.cell (p := ⟨bl, ol + p * 2, none⟩) hSl).symm.trans dl0), (hx.bel.cell (p := ⟨bl, ol + p * 2 + 1, none⟩) hSl).trans ((HE.out.bel.cell (p := ⟨bl, ol + p * 2 + 1, none⟩) hSl).symm.trans dl1)⟩)
                      have Vl : Hid (RT wi [] Al kl t) := Lib.hid (RTree.more hGl.read fun b hb => ⟨hGl.old b hb, fun h => by cases h⟩)
                      clear hGl dl0 dl1
                      clear ht
                      subst hAx
                      subst hAl
                      obtain ⟨q0, hq0⟩ : ∃ q0, q0 = ofEB (repD mn mx) [t] := ⟨_, rfl⟩
                      have HQ0 := Lib.hid hq0.symm
                      clear hq0
                      obtain ⟨q1, hq1⟩ : ∃ q1, q1 = ofEB (andD) [t] := ⟨_, rfl⟩
                      have HQ1 := Lib.hid hq1.symm
                      clear hq1
                      obtain ⟨q2, hq2⟩ : ∃ q2, q2 = ofEB (notD) [t] := ⟨_, rfl⟩
                      have HQ2 := Lib.hid hq2.symm
                      clear hq2
                      obtain ⟨q3, hq3⟩ : ∃ q3, q3 = ofEB (capD s) [t] := ⟨_, rfl⟩
                      have HQ3 := Lib.hid hq3.symm
                      clear hq3
                      have dx0 : (wi).cell? ⟨bx, ox + p * 2, none⟩ = some (.slice Ax t.nodes.length kx) := (HCx.out _ HE.out).1
                      have dx1 : (wi).cell? ⟨bx, ox + p * 2 + 1, none⟩ = some (.int .i64 t.root) := (HCx.out _ HE.out).2
                      go_wp2_with fail
                      clear dx0 dx1
                      refine Calls.mono (repG_c (b := q0) HMN.out HMX.out HL.out HLO.out (Vx.out.givenE HE.out (by have := HZ.out; omega)) HQ0.out) ?_
                      rintro e w8 ⟨A8, c8, x8, rfl, X8, V8, XT8, B8⟩
                      have Z8 := Lib.hid (show x8.nodes.length ≤ 1000 by rw [X8.out]; have := of_len (repD mn mx) [t]; simp at this; have := HZ.out; omega)
                      replace HE := Lib.hid (HE.out.below B8.out)
                      replace HL := Lib.hid (HL.out.below B8.out)
                      replace Vx := Lib.hid (Vx.out.below B8.out)
                      replace Vl := Lib.hid (Vl.out.below B8.out)
                      replace HLO := Lib.hid (HLO.out.below B8.out)
                      replace HG := Lib.hid (ge_box (g := w8.heap.size) HG.out HE.out rfl)
                      replace HN := Lib.hid (nd_box (g := w8.heap.size) HN.out HL.out rfl)
                      have K21 := Lib.hid (TB.newN (g := w8.heap.size) V8.out rfl)
                      replace HE := Lib.hid (HE.out.alloc (.cells #[.slice A8 x8.nodes.length c8, .int .i64 x8.root] 34))
                      replace HL := Lib.hid (BL.boxN (g := w8.heap.size) HL.out (.cells #[.slice A8 x8.nodes.length c8, .int .i64 x8.root] 34) rfl)
                      replace Vx := Lib.hid (RT.boxN (g := w8.heap.size) Vx.out (.cells #[.slice A8 x8.nodes.length c8, .int .i64 x8.root] 34) rfl)
                      replace Vl := Lib.hid (RT.boxN (g := w8.heap.size) Vl.out (.cells #[.slice A8 x8.nodes.length c8, .int .i64 x8.root] 34) rfl)
                      replace HLO := Lib.hid (HLO.out.below (below_row _ (.cells #[.slice A8 x8.nodes.length c8, .int .i64 x8.root] 34)))
                      replace XT8 := Lib.hid (XT8.out.below (below_row _ (.cells #[.slice A8 x8.nodes.length c8, .int .i64 x8.root] 34)))
                      have dl0 : (w8.alloc (.cells #[.slice A8 x8.nodes.length c8, .int .i64 x8.root] 34)).cell? ⟨bl, ol + p * 2, none⟩ = some (.slice Al t.nodes.length kl) := (HCl.out _ HE.out).1
                      have dl1 : (w8.alloc (.cells #[.slice A8 x8.nodes.length c8, .int .i64 x8.root] 34)).cell? ⟨bl, ol + p * 2 + 1, none⟩ = some (.int .i64 t.root) := (HCl.out _ HE.out).2
                      go_wp2_with fail
                      clear dl0 dl1
                      refine Calls.mono (rrepG_c (b := q0) HMN.out HMX.out HL.out HLO.out (Vl.out.givenE HE.out (by have := HZ.out; omega)) HKT.out HQ0.out) ?_
                      rintro e w9 ⟨A9, c9, x9, rfl, X9, V9, XT9, B9⟩
                      have Z9 := Lib.hid (show x9.nodes.length ≤ 1000 by rw [X9.out]; have := of_len (repD mn mx) [t]; simp at this; have := HZ.out; omega)
                      replace HE := Lib.hid (HE.out.below B9.out)
                      replace HL := Lib.hid (HL.out.below B9.out)
                      replace K21 := Lib.hid (K21.out.below B9.out)
                      replace Vx := Lib.hid (Vx.out.below B9.out)
                      replace Vl := Lib.hid (Vl.out.below B9.out)
                      replace HLO := Lib.hid (HLO.out.below B9.out)
                      replace XT8 := Lib.hid (XT8.out.below B9.out)
                      clear XT9
                      replace HG := Lib.hid (ge_box (g := w9.heap.size) HG.out HE.out rfl)
                      replace HN := Lib.hid (nd_box (g := w9.heap.size) HN.out HL.out rfl)
                      have K23 := Lib.hid (TB.newN (g := w9.heap.size) V9.out rfl)
                      replace HE := Lib.hid (HE.out.alloc (.cells #[.slice A9 x9.nodes.length c9, .int .i64 x9.root] 34))
                      replace HL := Lib.hid (BL.boxN (g := w9.heap.size) HL.out (.cells #[.slice A9 x9.nodes.length c9, .int .i64 x9.root] 34) rfl)
                      replace K21 := Lib.hid (TB.boxN (g := w9.heap.size) K21.out (.cells #[.slice A9 x9.nodes.length c9, .int .i64 x9.root] 34) rfl)
                      replace Vx := Lib.hid (RT.boxN (g := w9.heap.size) Vx.out (.cells #[.slice A9 x9.nodes.length c9, .int .i64 x9.root] 34) rfl)
                      replace Vl := Lib.hid (RT.boxN (g := w9.heap.size) Vl.out (.cells #[.slice A9 x9.nodes.length c9, .int .i64 x9.root] 34) rfl)
                      replace HLO := Lib.hid (HLO.out.below (below_row _ (.cells #[.slice A9 x9.nodes.length c9, .int .i64 x9.root] 34)))
                      replace XT8 := Lib.hid (XT8.out.below (below_row _ (.cells #[.slice A9 x9.nodes.length c9, .int .i64 x9.root] 34)))
                      have dx0 : (w9.alloc (.cells #[.slice A9 x9.nodes.length c9, .int .i64 x9.root] 34)).cell? ⟨bx, ox + p * 2, none⟩ = some (.slice Ax t.nodes.length kx) := (HCx.out _ HE.out).1
                      have dx1 : (w9.alloc (.cells #[.slice A9 x9.nodes.length c9, .int .i64 x9.root] 34)).cell? ⟨bx, ox + p * 2 + 1, none⟩ = some (.int .i64 t.root) := (HCx.out _ HE.out).2
                      go_wp2_with fail
                      clear dx0 dx1
                      refine Calls.mono (andG_c (b := q1) HL.out HLO.out (Vx.out.givenE HE.out (by have := HZ.out; omega)) HQ1.out) ?_
                      rintro e w10 ⟨A10, c10, x10, rfl, X10, V10, XT10, B10⟩
                      have Z10 := Lib.hid (show x10.nodes.length ≤ 1000 by rw [X10.out]; have := of_len (andD) [t]; simp at this; have := HZ.out; omega)
                      replace HE := Lib.hid (HE.out.below B10.out)
                      replace HL := Lib.hid (HL.out.below B10.out)
                      replace K21 := Lib.hid (K21.out.below B10.out)
                      replace K23 := Lib.hid (K23.out.below B10.out)
                      replace Vx := Lib.hid (Vx.out.below B10.out)
                      replace Vl := Lib.hid (Vl.out.below B10.out)
                      replace HLO := Lib.hid (HLO.out.below B10.out)
                      replace XT8 := Lib.hid (XT8.out.below B10.out)
                      replace HG := Lib.hid (ge_box (g := w10.heap.size) HG.out HE.out rfl)
                      replace HN := Lib.hid (nd_box (g := w10.heap.size) HN.out HL.out rfl)
                      have K25 := Lib.hid (TB.newN (g := w10.heap.size) V10.out rfl)
                      replace HE := Lib.hid (HE.out.alloc (.cells #[.slice A10 x10.nodes.length c10, .int .i64 x10.root] 34))
                      replace HL := Lib.hid (BL.boxN (g := w10.heap.size) HL.out (.cells #[.slice A10 x10.nodes.length c10, .int .i64 x10.root] 34) rfl)
                      replace K21 := Lib.hid (TB.boxN (g := w10.heap.size) K21.out (.cells #[.slice A10 x10.nodes.length c10, .int .i64 x10.root] 34) rfl)
                      replace K23 := Lib.hid (TB.boxN (g := w10.heap.size) K23.out (.cells #[.slice A10 x10.nodes.length c10, .int .i64 x10.root] 34) rfl)
                      replace Vx := Lib.hid (RT.boxN (g := w10.heap.size) Vx.out (.cells #[.slice A10 x10.nodes.length c10, .int .i64 x10.root] 34) rfl)
                      replace Vl := Lib.hid (RT.boxN (g := w10.heap.size) Vl.out (.cells #[.slice A10 x10.nodes.length c10, .int .i64 x10.root] 34) rfl)
                      replace HLO := Lib.hid (HLO.out.below (below_row _ (.cells #[.slice A10 x10.nodes.length c10, .int .i64 x10.root] 34)))
                      replace XT8 := Lib.hid (XT8.out.below (below_row _ (.cells #[.slice A10 x10.nodes.length c10, .int .i64 x10.root] 34)))
                      replace XT10 := Lib.hid (XT10.out.below (below_row _ (.cells #[.slice A10 x10.nodes.length c10, .int .i64 x10.root] 34)))
                      have dl0 : (w10.alloc (.cells #[.slice A10 x10.nodes.length c10, .int .i64 x10.root] 34)).cell? ⟨bl, ol + p * 2, none⟩ = some (.slice Al t.nodes.length kl) := (HCl.out _ HE.out).1
                      have dl1 : (w10.alloc (.cells #[.slice A10 x10.nodes.length c10, .int .i64 x10.root] 34)).cell? ⟨bl, ol + p * 2 + 1, none⟩ = some (.int .i64 t.root) := (HCl.out _ HE.out).2
                      go_wp2_with fail
                      clear dl0 dl1
                      refine Calls.mono (randG_c (b := q1) HL.out HLO.out (Vl.out.givenE HE.out (by have := HZ.out; omega)) HKT.out HQ1.out) ?_
                      rintro e w11 ⟨A11, c11, x11, rfl, X11, V11, XT11, B11⟩
                      have Z11 := Lib.hid (show x11.nodes.length ≤ 1000 by rw [X11.out]; have := of_len (andD) [t]; simp at this; have := HZ.out; omega)
                      replace HE := Lib.hid (HE.out.below B11.out)
                      replace HL := Lib.hid (HL.out.below B11.out)
                      replace K21 := Lib.hid (K21.out.below B11.out)
                      replace K23 := Lib.hid (K23.out.below B11.out)
                      replace K25 := Lib.hid (K25.out.below B11.out)
                      replace Vx := Lib.hid (Vx.out.below B11.out)
                      replace Vl := Lib.hid (Vl.out.below B11.out)
                      replace HLO := Lib.hid (HLO.out.below B11.out)
                      replace XT8 := Lib.hid (XT8.out.below B11.out)
                      replace XT10 := Lib.hid (XT10.out.below B11.out)
                      clear XT11
                      replace HG := Lib.hid (ge_box (g := w11.heap.size) HG.out HE.out rfl)
                      replace HN := Lib.hid (nd_box (g := w11.heap.size) HN.out HL.out rfl)
                      have K27 := Lib.hid (TB.newN (g := w11.heap.size) V11.out rfl)
                      replace HE := Lib.hid (HE.out.alloc (.cells #[.slice A11 x11.nodes.length c11, .int .i64 x11.root] 34))
                      replace HL := Lib.hid (BL.boxN (g := w11.heap.size) HL.out (.cells #[.slice A11 x11.nodes.length c11, .int .i64 x11.root] 34) rfl)
                      replace K21 := Lib.hid (TB.boxN (g := w11.heap.size) K21.out (.cells #[.slice A11 x11.nodes.length c11, .int .i64 x11.root] 34) rfl)
                      replace K23 := Lib.hid (TB.boxN (g := w11.heap.size) K23.out (.cells #[.slice A11 x11.nodes.length c11, .int .i64 x11.root] 34) rfl)
                      replace K25 := Lib.hid (TB.boxN (g := w11.heap.size) K25.out (.cells #[.slice A11 x11.nodes.length c11, .int .i64 x11.root] 34) rfl)
                      replace Vx := Lib.hid (RT.boxN (g := w11.heap.size) Vx.out (.cells #[.slice A11 x11.nodes.length c11, .int .i64 x11.root] 34) rfl)
                      replace Vl := Lib.hid (RT.boxN (g := w11.heap.size) Vl.out (.cells #[.slice A11 x11.nodes.length c11, .int .i64 x11.root] 34) rfl)
                      replace HLO := Lib.hid (HLO.out.below (below_row _ (.cells #[.slice A11 x11.nodes.length c11, .int .i64 x11.root] 34)))
                      replace XT8 := Lib.hid (XT8.out.below (below_row _ (.cells #[.slice A11 x11.nodes.length c11, .int .i64 x11.root] 34)))
                      replace XT10 := Lib.hid (XT10.out.below (below_row _ (.cells #[.slice A11 x11.nodes.length c11, .int .i64 x11.root] 34)))
                      have dx0 : (w11.alloc (.cells #[.slice A11 x11.nodes.length c11, .int .i64 x11.root] 34)).cell? ⟨bx, ox + p * 2, none⟩ = some (.slice Ax t.nodes.length kx) := (HCx.out _ HE.out).1
                      have dx1 : (w11.alloc (.cells #[.slice A11 x11.nodes.length c11, .int .i64 x11.root] 34)).cell? ⟨bx, ox + p * 2 + 1, none⟩ = some (.int .i64 t.root) := (HCx.out _ HE.out).2
                      go_wp2_with fail
                      clear dx0 dx1
                      refine Calls.mono (notG_c (b := q2) HL.out HLO.out (Vx.out.givenE HE.out (by have := HZ.out; omega)) HQ2.out) ?_
                      rintro e w12 ⟨A12, c12, x12, rfl, X12, V12, XT12, B12⟩
                      have Z12 := Lib.hid (show x12.nodes.length ≤ 1000 by rw [X12.out]; have := of_len (notD) [t]; simp at this; have := HZ.out; omega)
                      replace HE := Lib.hid (HE.out.below B12.out)
                      replace HL := Lib.hid (HL.out.below B12.out)
                      replace K21 := Lib.hid (K21.out.below B12.out)
                      replace K23 := Lib.hid (K23.out.below B12.out)
                      replace K25 := Lib.hid (K25.out.below B12.out)
                      replace K27 := Lib.hid (K27.out.below B12.out)
                      replace Vx := Lib.hid (Vx.out.below B12.out)
                      replace Vl := Lib.hid (Vl.out.below B12.out)
                      replace HLO := Lib.hid (HLO.out.below B12.out)
                      replace XT8 := Lib.hid (XT8.out.below B12.out)
                      replace XT10 := Lib.hid (XT10.out.below B12.out)
                      replace HG := Lib.hid (ge_box (g := w12.heap.size) HG.out HE.out rfl)
                      replace HN := Lib.hid (nd_box (g := w12.heap.size) HN.out HL.out rfl)
                      have K29 := Lib.hid (TB.newN (g := w12.heap.size) V12.out rfl)
                      replace HE := Lib.hid (HE.out.alloc (.cells #[.slice A12 x12.nodes.length c12, .int .i64 x12.root] 34))
                      replace HL := Lib.hid (BL.boxN (g := w12.heap.size) HL.out (.cells #[.slice A12 x12.nodes.length c12, .int .i64 x12.root] 34) rfl)
                      replace K21 := Lib.hid (TB.boxN (g := w12.heap.size) K21.out (.cells #[.slice A12 x12.nodes.length c12, .int .i64 x12.root] 34) rfl)
                      replace K23 := Lib.hid (TB.boxN (g := w12.heap.size) K23.out (.cells #[.slice A12 x12.nodes.length c12, .int .i64 x12.root] 34) rfl)
                      replace K25 := Lib.hid (TB.boxN (g := w12.heap.size) K25.out (.cells #[.slice A12 x12.nodes.length c12, .int .i64 x12.root] 34) rfl)
                      replace K27 := Lib.hid (TB.boxN (g := w12.heap.size) K27.out (.cells #[.slice A12 x12.nodes.length c12, .int .i64 x12.root] 34) rfl)
                      replace Vx := Lib.hid (RT.boxN (g := w12.heap.size) Vx.out (.cells #[.slice A12 x12.nodes.length c12, .int .i64 x12.root] 34) rfl)
                      replace Vl := Lib.hid (RT.boxN (g := w12.heap.size) Vl.out (.cells #[.slice A12 x12.nodes.length c12, .int .i64 x12.root] 34) rfl)
                      replace HLO := Lib.hid (HLO.out.below (below_row _ (.cells #[.slice A12 x12.nodes.length c12, .int .i64 x12.root] 34)))
                      replace XT8 := Lib.hid (XT8.out.below (below_row _ (.cells #[.slice A12 x12.nodes.length c12, .int .i64 x12.root] 34)))
                      replace XT10 := Lib.hid (XT10.out.below (below_row _ (.cells #[.slice A12 x12.nodes.length c12, .int .i64 x12.root] 34)))
                      replace XT12 := Lib.hid (XT12.out.below (below_row _ (.cells #[.slice A12 x12.nodes.length c12, .int .i64 x12.root] 34)))
                      have dl0 : (w12.alloc (.cells #[.slice A12 x12.nodes.length c12, .int .i64 x12.root] 34)).cell? ⟨bl, ol + p * 2, none⟩ = some (.slice Al t.nodes.length kl) := (HCl.out _ HE.out).1
                      have dl1 : (w12.alloc (.cells #[.slice A12 x12.nodes.length c12, .int .i64 x12.root] 34)).cell? ⟨bl, ol + p * 2 + 1, none⟩ = some (.int .i64 t.root) := (HCl.out _ HE.out).2
                      go_wp2_with fail
                      clear dl0 dl1
                      refine Calls.mono (rnotG_c (b := q2) HL.out HLO.out (Vl.out.givenE HE.out (by have := HZ.out; omega)) HKT.out HQ2.out) ?_
                      rintro e w13 ⟨A13, c13, x13, rfl, X13, V13, XT13, B13⟩
                      have Z13 := Lib.hid (show x13.nodes.length ≤ 1000 by rw [X13.out]; have := of_len (notD) [t]; simp at this; have := HZ.out; omega)
                      replace HE := Lib.hid (HE.out.below B13.out)
                      replace HL := Lib.hid (HL.out.below B13.out)
                      replace K21 := Lib.hid (K21.out.below B13.out)
                      replace K23 := Lib.hid (K23.out.below B13.out)
                      replace K25 := Lib.hid (K25.out.below B13.out)
                      replace K27 := Lib.hid (K27.out.below B13.out)
                      replace K29 := Lib.hid (K29.out.below B13.out)
                      replace Vx := Lib.hid (Vx.out.below B13.out)
                      replace Vl := Lib.hid (Vl.out.below B13.out)
                      replace HLO := Lib.hid (HLO.out.below B13.out)
                      replace XT8 := Lib.hid (XT8.out.below B13.out)
                      replace XT10 := Lib.hid (XT10.out.below B13.out)
                      replace XT12 := Lib.hid (XT12.out.below B13.out)
                      clear XT13
                      replace HG := Lib.hid (ge_box (g := w13.heap.size) HG.out HE.out rfl)
                      replace HN := Lib.hid (nd_box (g := w13.heap.size) HN.out HL.out rfl)
                      have K31 := Lib.hid (TB.newN (g := w13.heap.size) V13.out rfl)
                      replace HE := Lib.hid (HE.out.alloc (.cells #[.slice A13 x13.nodes.length c13, .int .i64 x13.root] 34))
                      replace HL := Lib.hid (BL.boxN (g := w13.heap.size) HL.out (.cells #[.slice A13 x13.nodes.length c13, .int .i64 x13.root] 34) rfl)
                      replace K21 := Lib.hid (TB.boxN (g := w13.heap.size) K21.out (.cells #[.slice A13 x13.nodes.length c13, .int .i64 x13.root] 34) rfl)
                      replace K23 := Lib.hid (TB.boxN (g := w13.heap.size) K23.out (.cells #[.slice A13 x13.nodes.length c13, .int .i64 x13.root] 34) rfl)
                      replace K25 := Lib.hid (TB.boxN (g := w13.heap.size) K25.out (.cells #[.slice A13 x13.nodes.length c13, .int .i64 x13.root] 34) rfl)
                      replace K27 := Lib.hid (TB.boxN (g := w13.heap.size) K27.out (.cells #[.slice A13 x13.nodes.length c13, .int .i64 x13.root] 34) rfl)
                      replace K29 := Lib.hid (TB.boxN (g := w13.heap.size) K29.out (.cells #[.slice A13 x13.nodes.length c13, .int .i64 x13.root] 34) rfl)
                      replace Vx := Lib.hid (RT.boxN (g := w13.heap.size) Vx.out (.cells #[.slice A13 x13.nodes.length c13, .int .i64 x13.root] 34) rfl)
                      replace Vl := Lib.hid (RT.boxN (g := w13.heap.size) Vl.out (.cells #[.slice A13 x13.nodes.length c13, .int .i64 x13.root] 34) rfl)
                      replace HLO := Lib.hid (HLO.out.below (below_row _ (.cells #[.slice A13 x13.nodes.length c13, .int .i64 x13.root] 34)))
                      replace XT8 := Lib.hid (XT8.out.below (below_row _ (.cells #[.slice A13 x13.nodes.length c13, .int .i64 x13.root] 34)))
                      replace XT10 := Lib.hid (XT10.out.below (below_row _ (.cells #[.slice A13 x13.nodes.length c13, .int .i64 x13.root] 34)))
                      replace XT12 := Lib.hid (XT12.out.below (below_row _ (.cells #[.slice A13 x13.nodes.length c13, .int .i64 x13.root] 34)))
                      have dx0 : (w13.alloc (.cells #[.slice A13 x13.nodes.length c13, .int .i64 x13.root] 34)).cell? ⟨bx, ox + p * 2, none⟩ = some (.slice Ax t.nodes.length kx) := (HCx.out _ HE.out).1
                      have dx1 : (w13.alloc (.cells #[.slice A13 x13.nodes.length c13, .int .i64 x13.root] 34)).cell? ⟨bx, ox + p * 2 + 1, none⟩ = some (.int .i64 t.root) := (HCx.out _ HE.out).2
                      go_wp2_with fail
                      clear dx0 dx1
                      rw [HNE.out]
                      refine Calls.mono (capG_c (b := q3) HNM.out HL.out HLO.out (Vx.out.givenE HE.out (by have := HZ.out; omega)) HQ3.out) ?_
                      rintro e w14 ⟨A14, c14, x14, rfl, X14, V14, XT14, B14⟩
                      have Z14 := Lib.hid (show x14.nodes.length ≤ 1000 by rw [X14.out]; have := of_len (capD s) [t]; simp at this; have := HZ.out; omega)
                      replace HE := Lib.hid (HE.out.below B14.out)
                      replace HL := Lib.hid (HL.out.below B14.out)
                      replace K21 := Lib.hid (K21.out.below B14.out)
                      replace K23 := Lib.hid (K23.out.below B14.out)
                      replace K25 := Lib.hid (K25.out.below B14.out)
                      replace K27 := Lib.hid (K27.out.below B14.out)
                      replace K29 := Lib.hid (K29.out.below B14.out)
                      replace K31 := Lib.hid (K31.out.below B14.out)
                      replace Vx := Lib.hid (Vx.out.below B14.out)
                      replace Vl := Lib.hid (Vl.out.below B14.out)
                      replace HLO := Lib.hid (HLO.out.below B14.out)
                      replace XT8 := Lib.hid (XT8.out.below B14.out)
                      replace XT10 := Lib.hid (XT10.out.below B14.out)
                      replace XT12 := Lib.hid (XT12.out.below B14.out)
                      replace HG := Lib.hid (ge_box (g := w14.heap.size) HG.out HE.out rfl)
                      replace HN := Lib.hid (nd_box (g := w14.heap.size) HN.out HL.out rfl)
                      have K33 := Lib.hid (TB.newN (g := w14.heap.size) V14.out rfl)
                      replace HE := Lib.hid (HE.out.alloc (.cells #[.slice A14 x14.nodes.length c14, .int .i64 x14.root] 34))
                      replace HL := Lib.hid (BL.boxN (g := w14.heap.size) HL.out (.cells #[.slice A14 x14.nodes.length c14, .int .i64 x14.root] 34) rfl)
                      replace K21 := Lib.hid (TB.boxN (g := w14.heap.size) K21.out (.cells #[.slice A14 x14.nodes.length c14, .int .i64 x14.root] 34) rfl)
                      replace K23 := Lib.hid (TB.boxN (g := w14.heap.size) K23.out (.cells #[.slice A14 x14.nodes.length c14, .int .i64 x14.root] 34) rfl)
                      replace K25 := Lib.hid (TB.boxN (g := w14.heap.size) K25.out (.cells #[.slice A14 x14.nodes.length c14, .int .i64 x14.root] 34) rfl)
                      replace K27 := Lib.hid (TB.boxN (g := w14.heap.size) K27.out (.cells #[.slice A14 x14.nodes.length c14, .int .i64 x14.root] 34) rfl)
                      replace K29 := Lib.hid (TB.boxN (g := w14.heap.size) K29.out (.cells #[.slice A14 x14.nodes.length c14, .int .i64 x14.root] 34) rfl)
                      replace K31 := Lib.hid (TB.boxN (g := w14.heap.size) K31.out (.cells #[.slice A14 x14.nodes.length c14, .int .i64 x14.root] 34) rfl)
                      replace Vx := Lib.hid (RT.boxN (g := w14.heap.size) Vx.out (.cells #[.slice A14 x14.nodes.length c14, .int .i64 x14.root] 34) rfl)
                      replace Vl := Lib.hid (RT.boxN (g := w14.heap.size) Vl.out (.cells #[.slice A14 x14.nodes.length c14, .int .i64 x14.root] 34) rfl)
                      replace HLO := Lib.hid (HLO.out.below (below_row _ (.cells #[.slice A14 x14.nodes.length c14, .int .i64 x14.root] 34)))
                      replace XT8 := Lib.hid (XT8.out.below (below_row _ (.cells #[.slice A14 x14.nodes.length c14, .int .i64 x14.root] 34)))
                      replace XT10 := Lib.hid (XT10.out.below (below_row _ (.cells #[.slice A14 x14.nodes.length c14, .int .i64 x14.root] 34)))
                      replace XT12 := Lib.hid (XT12.out.below (below_row _ (.cells #[.slice A14 x14.nodes.length c14, .int .i64 x14.root] 34)))
                      replace XT14 := Lib.hid (XT14.out.below (below_row _ (.cells #[.slice A14 x14.nodes.length c14, .int .i64 x14.root] 34)))
                      have dl0 : (w14.alloc (.cells #[.slice A14 x14.nodes.length c14, .int .i64 x14.root] 34)).cell? ⟨bl, ol + p * 2, none⟩ = some (.slice Al t.nodes.length kl) := (HCl.out _ HE.out).1
                      have dl1 : (w14.alloc (.cells #[.slice A14 x14.nodes.length c14, .int .i64 x14.root] 34)).cell? ⟨bl, ol + p * 2 + 1, none⟩ = some (.int .i64 t.root) := (HCl.out _ HE.out).2
                      go_wp2_with fail
                      clear dl0 dl1
                      refine Calls.mono (rcapG_c (b := q3) HNM.out HL.out HLO.out (Vl.out.givenE HE.out (by have := HZ.out; omega)) HKT.out HQ3.out) ?_
                      rintro e w15 ⟨A15, c15, x15, rfl, X15, V15, XT15, B15⟩
                      have Z15 := Lib.hid (show x15.nodes.length ≤ 1000 by rw [X15.out]; have := of_len (capD s) [t]; simp at this; have := HZ.out; omega)
                      replace HE := Lib.hid (HE.out.below B15.out)
                      replace HL := Lib.hid (HL.out.below B15.out)
                      replace K21 := Lib.hid (K21.out.below B15.out)
                      replace K23 := Lib.hid (K23.out.below B15.out)
                      replace K25 := Lib.hid (K25.out.below B15.out)
                      replace K27 := Lib.hid (K27.out.below B15.out)
                      replace K29 := Lib.hid (K29.out.below B15.out)
                      replace K31 := Lib.hid (K31.out.below B15.out)
                      replace K33 := Lib.hid (K33.out.below B15.out)
                      replace Vx := Lib.hid (Vx.out.below B15.out)
                      replace Vl := Lib.hid (Vl.out.below B15.out)
                      replace HLO := Lib.hid (HLO.out.below B15.out)
                      replace XT8 := Lib.hid (XT8.out.below B15.out)
                      replace XT10 := Lib.hid (XT10.out.below B15.out)
                      replace XT12 := Lib.hid (XT12.out.below B15.out)
                      replace XT14 := Lib.hid (XT14.out.below B15.out)
                      clear XT15
                      replace HG := Lib.hid (ge_box (g := w15.heap.size) HG.out HE.out rfl)
                      replace HN := Lib.hid (nd_box (g := w15.heap.size) HN.out HL.out rfl)
                      have K35 := Lib.hid (TB.newN (g := w15.heap.size) V15.out rfl)
                      replace HE := Lib.hid (HE.out.alloc (.cells #[.slice A15 x15.nodes.length c15, .int .i64 x15.root] 34))
                      replace HL := Lib.hid (BL.boxN (g := w15.heap.size) HL.out (.cells #[.slice A15 x15.nodes.length c15, .int .i64 x15.root] 34) rfl)
                      replace K21 := Lib.hid (TB.boxN (g := w15.heap.size) K21.out (.cells #[.slice A15 x15.nodes.length c15, .int .i64 x15.root] 34) rfl)
                      replace K23 := Lib.hid (TB.boxN (g := w15.heap.size) K23.out (.cells #[.slice A15 x15.nodes.length c15, .int .i64 x15.root] 34) rfl)
                      replace K25 := Lib.hid (TB.boxN (g := w15.heap.size) K25.out (.cells #[.slice A15 x15.nodes.length c15, .int .i64 x15.root] 34) rfl)
                      replace K27 := Lib.hid (TB.boxN (g := w15.heap.size) K27.out (.cells #[.slice A15 x15.nodes.length c15, .int .i64 x15.root] 34) rfl)
                      replace K29 := Lib.hid (TB.boxN (g := w15.heap.size) K29.out (.cells #[.slice A15 x15.nodes.length c15, .int .i64 x15.root] 34) rfl)
                      replace K31 := Lib.hid (TB.boxN (g := w15.heap.size) K31.out (.cells #[.slice A15 x15.nodes.length c15, .int .i64 x15.root] 34) rfl)
                      replace K33 := Lib.hid (TB.boxN (g := w15.heap.size) K33.out (.cells #[.slice A15 x15.nodes.length c15, .int .i64 x15.root] 34) rfl)
                      replace Vx := Lib.hid (RT.boxN (g := w15.heap.size) Vx.out (.cells #[.slice A15 x15.nodes.length c15, .int .i64 x15.root] 34) rfl)
                      replace Vl := Lib.hid (RT.boxN (g := w15.heap.size) Vl.out (.cells #[.slice A15 x15.nodes.length c15, .int .i64 x15.root] 34) rfl)
                      replace HLO := Lib.hid (HLO.out.below (below_row _ (.cells #[.slice A15 x15.nodes.length c15, .int .i64 x15.root] 34)))
                      replace XT8 := Lib.hid (XT8.out.below (below_row _ (.cells #[.slice A15 x15.nodes.length c15, .int .i64 x15.root] 34)))
                      replace XT10 := Lib.hid (XT10.out.below (below_row _ (.cells #[.slice A15 x15.nodes.length c15, .int .i64 x15.root] 34)))
                      replace XT12 := Lib.hid (XT12.out.below (below_row _ (.cells #[.slice A15 x15.nodes.length c15, .int .i64 x15.root] 34)))
                      replace XT14 := Lib.hid (XT14.out.below (below_row _ (.cells #[.slice A15 x15.nodes.length c15, .int .i64 x15.root] 34)))
                      have y230 : ((w15.alloc (.cells #[.slice A15 x15.nodes.length c15, .int .i64 x15.root] 34)).alloc (.cells #[.slice A8 x8.nodes.length c8, .int .i64 x8.root, .slice A10 x10.nodes.length c10, .int .i64 x10.root, .slice A12 x12.nodes.length c12, .int .i64 x12.root, .slice A14 x14.nodes.length c14, .int .i64 x14.root] 34)).cell? ⟨w9.heap.size, 0, none⟩ = some (.slice A9 x9.nodes.length c9) := (K23.out.alloc (.cells #[.slice A8 x8.nodes.length c8, .int .i64 x8.root, .slice A10 x10.nodes.length c10, .int .i64 x10.root, .slice A12 x12.nodes.length c12, .int .i64 x12.root, .slice A14 x14.nodes.length c14, .int .i64 x14.root] 34)).blk.cell 0
                      have y231 : ((w15.alloc (.cells #[.slice A15 x15.nodes.length c15, .int .i64 x15.root] 34)).alloc (.cells #[.slice A8 x8.nodes.length c8, .int .i64 x8.root, .slice A10 x10.nodes.length c10, .int .i64 x10.root, .slice A12 x12.nodes.length c12, .int .i64 x12.root, .slice A14 x14.nodes.length c14, .int .i64 x14.root] 34)).cell? ⟨w9.heap.size, 1, none⟩ = some (.int .i64 x9.root) := (K23.out.alloc (.cells #[.slice A8 x8.nodes.length c8, .int .i64 x8.root, .slice A10 x10.nodes.length c10, .int .i64 x10.root, .slice A12 x12.nodes.length c12, .int .i64 x12.root, .slice A14 x14.nodes.length c14, .int .i64 x14.root] 34)).blk.cell 1
                      have y270 : ((w15.alloc (.cells #[.slice A15 x15.nodes.length c15, .int .i64 x15.root] 34)).alloc (.cells #[.slice A8 x8.nodes.length c8, .int .i64 x8.root, .slice A10 x10.nodes.length c10, .int .i64 x10.root, .slice A12 x12.nodes.length c12, .int .i64 x12.root, .slice A14 x14.nodes.length c14, .int .i64 x14.root] 34)).cell? ⟨w11.heap.size, 0, none⟩ = some (.slice A11 x11.nodes.length c11) := (K27.out.alloc (.cells #[.slice A8 x8.nodes.length c8, .int .i64 x8.root, .slice A10 x10.nodes.length c10, .int .i64 x10.root, .slice A12 x12.nodes.length c12, .int .i64 x12.root, .slice A14 x14.nodes.length c14, .int .i64 x14.root] 34)).blk.cell 0
                      have y271 : ((w15.alloc (.cells #[.slice A15 x15.nodes.length c15, .int .i64 x15.root] 34)).alloc (.cells #[.slice A8 x8.nodes.length c8, .int .i64 x8.root, .slice A10 x10.nodes.length c10, .int .i64 x10.root, .slice A12 x12.nodes.length c12, .int .i64 x12.root, .slice A14 x14.nodes.length c14, .int .i64 x14.root] 34)).cell? ⟨w11.heap.size, 1, none⟩ = some (.int .i64 x11.root) := (K27.out.alloc (.cells #[.slice A8 x8.nodes.length c8, .int .i64 x8.root, .slice A10 x10.nodes.length c10, .int .i64 x10.root, .slice A12 x12.nodes.length c12, .int .i64 x12.root, .slice A14 x14.nodes.length c14, .int .i64 x14.root] 34)).blk.cell 1
                      have y310 : ((w15.alloc (.cells #[.slice A15 x15.nodes.length c15, .int .i64 x15.root] 34)).alloc (.cells #[.slice A8 x8.nodes.length c8, .int .i64 x8.root, .slice A10 x10.nodes.length c10, .int .i64 x10.root, .slice A12 x12.nodes.length c12, .int .i64 x12.root, .slice A14 x14.nodes.length c14, .int .i64 x14.root] 34)).cell? ⟨w13.heap.size, 0, none⟩ = some (.slice A13 x13.nodes.length c13) := (K31.out.alloc (.cells #[.slice A8 x8.nodes.length c8, .int .i64 x8.root, .slice A10 x10.nodes.length c10, .int .i64 x10.root, .slice A12 x12.nodes.length c12, .int .i64 x12.root, .slice A14 x14.nodes.length c14, .int .i64 x14.root] 34)).blk.cell 0
                      have y311 : ((w15.alloc (.cells #[.slice A15 x15.nodes.length c15, .int .i64 x15.root] 34)).alloc (.cells #[.slice A8 x8.nodes.length c8, .int .i64 x8.root, .slice A10 x10.nodes.length c10, .int .i64 x10.root, .slice A12 x12.nodes.length c12, .int .i64 x12.root, .slice A14 x14.nodes.length c14, .int .i64 x14.root] 34)).cell? ⟨w13.heap.size, 1, none⟩ = some (.int .i64 x13.root) := (K31.out.alloc (.cells #[.slice A8 x8.nodes.length c8, .int .i64 x8.root, .slice A10 x10.nodes.length c10, .int .i64 x10.root, .slice A12 x12.nodes.length c12, .int .i64 x12.root, .slice A14 x14.nodes.length c14, .int .i64 x14.root] 34)).blk.cell 1
                      have y350 : ((w15.alloc (.cells #[.slice A15 x15.nodes.length c15, .int .i64 x15.root] 34)).alloc (.cells #[.slice A8 x8.nodes.length c8, .int .i64 x8.root, .slice A10 x10.nodes.length c10, .int .i64 x10.root, .slice A12 x12.nodes.length c12, .int .i64 x12.root, .slice A14 x14.nodes.length c14, .int .i64 x14.root] 34)).cell? ⟨w15.heap.size, 0, none⟩ = some (.slice A15 x15.nodes.length c15) := (K35.out.alloc (.cells #[.slice A8 x8.nodes.length c8, .int .i64 x8.root, .slice A10 x10.nodes.length c10, .int .i64 x10.root, .slice A12 x12.nodes.length c12, .int .i64 x12.root, .slice A14 x14.nodes.length c14, .int .i64 x14.root] 34)).blk.cell 0
                      have y351 : ((w15.alloc (.cells #[.slice A15 x15.nodes.length c15, .int .i64 x15.root] 34)).alloc (.cells #[.slice A8 x8.nodes.length c8, .int .i64 x8.root, .slice A10 x10.nodes.length c10, .int .i64 x10.root, .slice A12 x12.nodes.length c12, .int .i64 x12.root, .slice A14 x14.nodes.length c14, .int .i64 x14.root] 34)).cell? ⟨w15.heap.size, 1, none⟩ = some (.int .i64 x15.root) := (K35.out.alloc (.cells #[.slice A8 x8.nodes.length c8, .int .i64 x8.root, .slice A10 x10.nodes.length c10, .int .i64 x10.root, .slice A12 x12.nodes.length c12, .int .i64 x12.root, .slice A14 x14.nodes.length c14, .int .i64 x14.root] 34)).blk.cell 1
                      have d210 : (w15.alloc (.cells #[.slice A15 x15.nodes.length c15, .int .i64 x15.root] 34)).cell? ⟨w8.heap.size, 0, none⟩ = some (.slice A8 x8.nodes.length c8) := K21.out.blk.cell 0
                      have d211 : (w15.alloc (.cells #[.slice A15 x15.nodes.length c15, .int .i64 x15.root] 34)).cell? ⟨w8.heap.size, 1, none⟩ = some (.int .i64 x8.root) := K21.out.blk.cell 1
                      have d250 : (w15.alloc (.cells #[.slice A15 x15.nodes.length c15, .int .i64 x15.root] 34)).cell? ⟨w10.heap.size, 0, none⟩ = some (.slice A10 x10.nodes.length c10) := K25.out.blk.cell 0
                      have d251 : (w15.alloc (.cells #[.slice A15 x15.nodes.length c15, .int .i64 x15.root] 34)).cell? ⟨w10.heap.size, 1, none⟩ = some (.int .i64 x10.root) := K25.out.blk.cell 1
                      have d290 : (w15.alloc (.cells #[.slice A15 x15.nodes.length c15, .int .i64 x15.root] 34)).cell? ⟨w12.heap.size, 0, none⟩ = some (.slice A12 x12.nodes.length c12) := K29.out.blk.cell 0
                      have d291 : (w15.alloc (.cells #[.slice A15 x15.nodes.length c15, .int .i64 x15.root] 34)).cell? ⟨w12.heap.size, 1, none⟩ = some (.int .i64 x12.root) := K29.out.blk.cell 1
                      have d330 : (w15.alloc (.cells #[.slice A15 x15.nodes.length c15, .int .i64 x15.root] 34)).cell? ⟨w14.heap.size, 0, none⟩ = some (.slice A14 x14.nodes.length c14) := K33.out.blk.cell 0
                      have d331 : (w15.alloc (.cells #[.slice A15 x15.nodes.length c15, .int .i64 x15.root] 34)).cell? ⟨w14.heap.size, 1, none⟩ = some (.int .i64 x14.root) := K33.out.blk.cell 1
                      go_wp2_with fail
                      clear d210 d211 d250 d251 d290 d291 d330 d331 y230 y231 y270 y271 y310 y311 y350 y351
                      refine Calls.mono (exact4_c K21.out.tree K25.out.tree K29.out.tree K33.out.tree K23.out.tree K27.out.tree K31.out.tree K35.out.tree (X8.out.trans X9.out.symm) (X10.out.trans X11.out.symm) (X12.out.trans X13.out.symm) (X14.out.trans X15.out.symm) ⟨by have := Z8.out; omega, by have := Z10.out; omega, by have := Z12.out; omega, by have := Z14.out; omega⟩ (by simp) (by simp)) ?_
                      rintro e w16 ⟨rfl, B16⟩
                      replace HE := Lib.hid (HE.out.below B16.out)
                      replace HL := Lib.hid (HL.out.below B16.out)
                      replace K21 := Lib.hid (K21.out.below B16.out)
                      replace K23 := Lib.hid (K23.out.below B16.out)
                      replace K25 := Lib.hid (K25.out.below B16.out)
                      replace K27 := Lib.hid (K27.out.below B16.out)
                      replace K29 := Lib.hid (K29.out.below B16.out)
                      replace K31 := Lib.hid (K31.out.below B16.out)
                      replace K33 := Lib.hid (K33.out.below B16.out)
                      replace K35 := Lib.hid (K35.out.below B16.out)
                      replace Vx := Lib.hid (Vx.out.below B16.out)
                      replace Vl := Lib.hid (Vl.out.below B16.out)
                      replace HLO := Lib.hid (HLO.out.below B16.out)
                      replace XT8 := Lib.hid (XT8.out.below B16.out)
                      replace XT10 := Lib.hid (XT10.out.below B16.out)
                      replace XT12 := Lib.hid (XT12.out.below B16.out)
                      replace XT14 := Lib.hid (XT14.out.below B16.out)
                      have d210 : (w16).cell? ⟨w8.heap.size, 0, none⟩ = some (.slice A8 x8.nodes.length c8) := K21.out.blk.cell 0
                      have d211 : (w16).cell? ⟨w8.heap.size, 1, none⟩ = some (.int .i64 x8.root) := K21.out.blk.cell 1
                      have d250 : (w16).cell? ⟨w10.heap.size, 0, none⟩ = some (.slice A10 x10.nodes.length c10) := K25.out.blk.cell 0
                      have d251 : (w16).cell? ⟨w10.heap.size, 1, none⟩ = some (.int .i64 x10.root) := K25.out.blk.cell 1
                      have d290 : (w16).cell? ⟨w12.heap.size, 0, none⟩ = some (.slice A12 x12.nodes.length c12) := K29.out.blk.cell 0
                      have d291 : (w16).cell? ⟨w12.heap.size, 1, none⟩ = some (.int .i64 x12.root) := K29.out.blk.cell 1
                      have d330 : (w16).cell? ⟨w14.heap.size, 0, none⟩ = some (.slice A14 x14.nodes.length c14) := K33.out.blk.cell 0
                      have d331 : (w16).cell? ⟨w14.heap.size, 1, none⟩ = some (.int .i64 x14.root) := K33.out.blk.cell 1
                      go_wp2_with fail
                      clear d210 d211 d250 d251 d290 d291 d330 d331
                      refine Calls.mono (spoil4_c XT8.out XT10.out XT12.out XT14.out HLO.out (by simp)) ?_
                      rintro e ws ⟨rfl, BS⟩
                      have HES := Lib.hid (show Ev wo ws from ⟨HE.out.bel.trans (BS.out.mono HLOI.out), HE.out.kt, HE.out.tt⟩)
                      go_wp2_with fail
                      go_roundw
                      case measure => simp [intOf]; omega
                      case rel =>
                        rw [HNE.out]
                        (repeat apply Exists.intro)
                        refine ⟨?_, rfl⟩
                        exact ⟨p + 1, by omega, by go_num, HES⟩
                    · have hp4 : ¬ (p : Int) < 3 := by omega
                      go_wp2_with fail
                      go_roundw
                      case measure => simp [intOf]; omega
                      case rel => exact ⟨k + 1, by omega, by go_num, HE⟩
                  · have hp1 : ¬ (p : Int) < (j : Int) := by omega
                    go_wp2_with fail
                    go_roundw
                    case measure => simp [intOf]; omega
                    case rel => exact ⟨k + 1, by omega, by go_num, HE⟩
              · obtain rfl : k = 2 := by omega
                go_wp2_with fail
                have HFX := Lib.hid ((HAT.out _ _ wp HX.out HE.out).read)
                have HFL := Lib.hid ((HAT.out _ _ wp HTX.out HE.out).read)
                refine Calls.mono (exactL_eq HFX.out HFL.out (fun b hb => Nat.lt_of_lt_of_le hb HE.out.bel.size) (fun b hb => Nat.lt_of_lt_of_le hb HE.out.bel.size) (fun t ht => by have := sum_mem ht; have := HZL.out.1; omega)) ?_
                rintro e wz ⟨rfl, hbz⟩
                have HEZ := Lib.hid (HE.out.below hbz)
                clear hbz
                go_wp2_with fail
                refine Calls.mono (awake_c HEZ.out) ?_
                rintro e wy ⟨rfl, BY⟩
                go_wp2_with fail
                go_ret
                exact ⟨rfl, HEO.out.bel.trans ((HEZ.out.below BY.out).bel.mono HEO.out.bel.size)⟩
  · go_wp2_with fail
    refine Calls.mono (awake_c HE.out) ?_
    rintro e w2 ⟨rfl, B2⟩
    replace HE := Lib.hid (HE.out.below B2.out)
    replace HL := Lib.hid (HL.out.below B2.out)
    go_wp2_with fail
    go_ret
    exact ⟨rfl, HE.out.bel⟩
end Go.Proofs.YtclfpjfjebheoaaDoor
/- ExprPuts: for every input the law answers true and the input reads as it did (the tied card: the listed package variables lie as their text lays them). No other condition. -/
namespace Go.Proofs.YtclfpjfjebheoaaDoor.ExprPuts
open Go.ChangeShapes Go.WideShapes Go.ChangeAt Go.RowKit Go.ChangeMaps Go.WideElems

theorem own : ownKnob Tryd.prog.godebug = none := by kernel_rfl
theorem laidOut : laidOutB Tryd.prog = true := by kernel_rfl
theorem laid_data : Rows.exprPutsRow.laid.filter (fun x => x.2.handleName?.isNone) = [("bonsai/tree.kids", Rows.laid_bonsai_tree_kids)] := by rfl
theorem prem_of {W : World} (h : laidMetH Tryd.prog Rows.exprPutsRow.laid W) : KTab W ∧ TogTab W := ⟨ktab_of (rest := []) (laid_data ▸ (laidMetH_iff.1 h).1), tog_of h (List.mem_cons_of_mem _ (List.mem_singleton.2 rfl))⟩

set_option maxRecDepth 8000 in
theorem contract (H : Type) (enc : TypeId × Value → H) (W : World) (base : Nat) (args : Array Value) (ds gs : List (DataW H)) (before : List MemPlace)
    (hval : ∀ (j : Nat) t v, Tryd.f7.params[j]? = some t → args[j]? = some v → Value.okWide Tryd.prog W .any base t v)
    (hW : DataW.Whole enc Tryd.prog Tryd.f7.params.toList Rows.exprPutsSpec.vars false W args.toList ds gs before) (hL : laidMetH Tryd.prog Rows.exprPutsRow.laid W) :
    Calls Tryd.prog 7 args W fun e W' => ∃ v, e = .returned v ∧ Rows.exprPutsSpec.post enc Tryd.prog Tryd.f7 false true false false W args v W' := by
  have hW' := hW
  have hlt : ∀ x ∈ before, x.block < W.heap.size := fun x hx => hW.lt x hx
  obtain ⟨p, q, hA0, hV, rfl, hfz, hnd⟩ := hW
  have hA : DataW.TrodAll enc Tryd.prog W 0 (fun _ => true) true Tryd.f7.params.toList args.toList ds p := hA0
  rw [Tryd.params7] at hA hval
  obtain ⟨v0, vs0, d0, ds0, p0, q0, hargs, rfl, rfl, h0, r0⟩ := trodAll_cons hA
  obtain ⟨v1, vs1, d1, ds1, p1, q1, rfl, rfl, rfl, h1, r1⟩ := trodAll_cons r0
  obtain ⟨v2, vs2, d2, ds2, p2, q2, rfl, rfl, rfl, h2, r2⟩ := trodAll_cons r1
  obtain ⟨v3, vs3, d3, ds3, p3, q3, rfl, rfl, rfl, h3, r3⟩ := trodAll_cons r2
  obtain ⟨rfl, rfl, rfl⟩ := trodAll_nil r3
  obtain rfl : args = #[v0, v1, v2, v3] := by cases args; simp_all
  obtain ⟨rfl, rfl⟩ := trodVars_none hV
  obtain ⟨t0, w0⟩ := open_trees (hval 0 48 v0 rfl rfl) h0
  obtain ⟨s1, rfl, rfl, rfl, w1⟩ := open_int Tryd.underlying3 (hval 1 3 v1 rfl rfl) h1
  obtain ⟨s2, rfl, rfl, rfl, w2⟩ := open_int Tryd.underlying3 (hval 2 3 v2 rfl rfl) h2
  obtain ⟨s3, rfl, rfl, rfl, w3⟩ := open_string Tryd.underlying9 (hval 3 9 v3 rfl rfl) h3
  clear hA0
  refine (lexprputs_any t0 v0 s1 s2 s3 W w0 (wf_i64 w1) (wf_i64 w2) w3 (prem_of hL).1 (prem_of hL).2).mono fun e W' ⟨he, hb⟩ => ?_
  subst he
  exact ⟨_, rfl, post_true laidOut (by kernel_rfl) (by kernel_rfl) Tryd.underlying4 rfl rfl rfl rfl hW' hb⟩

noncomputable def laidWorld (os : Os) : World :=
  (setTab (setTab (World.holding Tryd.prog os ⟨#[], #[], []⟩) 1 (kidsTab.map (Value.int .i64))) 2 (togFns.map fun f => Value.func (.func f) #[] #[]))
theorem laid_met (os : Os) : laidMetH Tryd.prog Rows.exprPutsRow.laid ((laidWorld os).forCall (fun _ _ => 0) ⟨#[], #[.slice none 0 0, .int .i64 0, .int .i64 0, .string ⟨#[]⟩], []⟩).memory :=
  laidMetH_of_parts3 (fuel := 8) (laidMet_of_run' 8 (by kernel_rfl) (by kernel_rfl)) (by kernel_rfl) (by kernel_rfl)
theorem reads (os : Os) {H : Type} (enc : TypeId × Value → H) : ∃ places, DataW.whole enc Tryd.prog ((laidWorld os).forCall (fun _ _ => 0) ⟨#[], #[.slice none 0 0, .int .i64 0, .int .i64 0, .string ⟨#[]⟩], []⟩).memory Tryd.f7.params.toList Rows.exprPutsSpec.vars false #[Value.slice none 0 0, Value.int .i64 0, Value.int .i64 0, Value.string ⟨#[]⟩].toList 8 = some ([.nil, .lit (.int .i64 0), .lit (.int .i64 0), .lit (.string [])], [], places) :=
  ⟨[], by kernel_rfl⟩

set_option maxRecDepth 100000 in
theorem lifted (os : Os) (started : os.Started) (H : Type) (enc : TypeId × Value → H) (F : Stop.Interp) :
    ReturnsInHanded {} Tryd.checked os 7 .any ((OpenSpec.ofChange Rows.exprPutsSpec).preRow enc Tryd.prog Tryd.f7 Rows.exprPutsRow.domain false Rows.exprPutsRow.laid) (((OpenSpec.ofChange Rows.exprPutsSpec).at F).post enc Tryd.prog Tryd.f7 false true false false) := by
  obtain ⟨places, hx⟩ := reads os enc
  refine returnsInHanded_of_row (C := Tryd.checked) (s := OpenSpec.ofChange Rows.exprPutsSpec) own started (by kernel_rfl) Tryd.func7
    (witness_row_at (enc := enc) (C := Tryd.checked) false (laidWorld os) #[.slice none 0 0, .int .i64 0, .int .i64 0, .string ⟨#[]⟩] rfl (by kernel_rfl) (by kernel_rfl) (by kernel_rfl)
      (OpenSpec.preRow_of_cond 8 hx (by kernel_rfl) (fun k hk => by cases hk) (by kernel_rfl) (laid_met os))) ?_
  intro W base args ds gs before hval hW _ _ _ hL _ _
  exact contract H enc W base args ds gs before hval hW hL

theorem said : Rows.ExprPutsSaid :=
  OpenClaim.holds_of_cond 7 Tryd.f7 rfl rfl rfl rfl rfl rfl rfl ⟨rfl, rfl, rfl, rfl, rfl⟩ rfl rfl rfl rfl rfl (by kernel_rfl) Tryd.func7 (by kernel_rfl)
    (of_decide_eq_true (by kernel_rfl)) (by unfold Func.isWrapper; first | (rw [if_pos (by decide +kernel)]; kernel_rfl) | (rw [if_neg (by decide +kernel)]; exact ⟨rfl, rfl⟩))
    (fun os started H enc _ F => by rw [OpenClaim.pre_eq_preRow]; exact lifted os started H enc F)

theorem plain (f : FuncId) (fn : Func) (hf : Tryd.pinned.checked.prog.funcNamed "bonsai/bonsailaw05.ExprPuts" = some f) (hfn : Tryd.pinned.checked.prog.funcs[f]? = some fn) :
    false = Tryd.pinned.checked.prog.looks [] ∧ ∀ (j : Nat) t, fn.params[j]? = some t → Tryd.pinned.checked.prog.wantsStandIn t = false := by
  obtain rfl : f = 7 := Option.some.inj ((show Tryd.prog.funcNamed "bonsai/bonsailaw05.ExprPuts" = some 7 by kernel_rfl).symm.trans hf) |>.symm
  obtain rfl : fn = Tryd.f7 := (Option.some.inj (Tryd.func7.symm.trans hfn)).symm
  refine ⟨by kernel_rfl, fun j t ht => ?_⟩
  have hall : Tryd.f7.params.toList.all (fun t => Tryd.prog.wantsStandIn t == false) = true := by kernel_rfl
  have := List.all_eq_true.1 hall t (Array.mem_toList_iff.2 (Array.mem_of_getElem? ht))
  exact eq_of_beq this

/-- THE CARD. -/
theorem card : Rows.ExprPutsCardSaid :=
  Claim7.holds_tied_plain_at .later [] _ _ _ _ said (fun _ h => by cases h) (by kernel_rfl) (fun _ h => by cases h) exprPuts_row_tie rfl ⟨rfl, rfl⟩ (by kernel_rfl) rfl plain (by kernel_rfl)
end Go.Proofs.YtclfpjfjebheoaaDoor.ExprPuts

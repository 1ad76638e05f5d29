/- Lists of trees of the call's own that grow; tree.Kids. -/
import Derived.Test.YtlmlbdmbgfclkaaDoorTrB
namespace Go.Proofs.YtlmlbdmbgfclkaaDoor
open Go.RowKit
open Classical

def treesCells (ts : List Tr) (nvs : List Value) : List Value := (List.zipWith (fun (t : Tr) nv => [nv, Value.int .i64 t.root]) ts nvs).flatten
theorem treesCells_length : ∀ (ts : List Tr) (nvs : List Value), nvs.length = ts.length → (treesCells ts nvs).length = ts.length * 2
  | [], _, _ => by simp [treesCells]
  | t :: ts, [], h => by simp at h
  | t :: ts, v :: nvs, h => by
    have := treesCells_length ts nvs (by simpa using h)
    unfold treesCells at this ⊢
    simp only [List.zipWith_cons_cons, List.flatten_cons, List.length_append, List.length_cons, List.length_nil, this]
    omega
theorem treesCells_snoc {t : Tr} {nv : Value} : ∀ (ts : List Tr) (nvs : List Value), nvs.length = ts.length → treesCells (ts ++ [t]) (nvs ++ [nv]) = treesCells ts nvs ++ [nv, .int .i64 t.root]
  | [], nvs, h => by
    have : nvs = [] := by simpa using h
    subst this; simp [treesCells]
  | t' :: ts, [], h => by simp at h
  | t' :: ts, v :: nvs, h => by
    have := treesCells_snoc (t := t) (nv := nv) ts nvs (by simpa using h)
    unfold treesCells at this ⊢
    simp only [List.cons_append, List.zipWith_cons_cons, List.flatten_cons, this, List.append_assoc]
/-- A list of trees in a row of the call's own; the trees' blocks are not that row's. -/
def OwnList (w : World) (base lo : Nat) (v : Value) (ts : List Tr) : Prop := ∃ nvs : List Value, nvs.length = ts.length ∧ w.ownsRow base 24 2 v ts.length (treesCells ts nvs) ∧
  ∀ (j : Nat) (t : Tr) (nv : Value), ts[j]? = some t → nvs[j]? = some nv → RNodes w (fun b => lo ≤ b ∧ b < w.heap.size ∧ v.ownBlock ≠ some b ∧ Soft w b) nv t.nodes ∧ -9223372036854775808 ≤ t.root ∧ t.root ≤ 9223372036854775807
theorem OwnList.nil_ (w : World) (base lo : Nat) : OwnList w base lo (.slice none 0 0) [] := ⟨[], rfl, World.ownsRow_nil _ _ _ _, fun j t nv h => by simp at h⟩
theorem OwnList.base_ {w : World} {base base' lo : Nat} {v : Value} {ts : List Tr} (h : OwnList w base lo v ts) (hb : base' ≤ base) : OwnList w base' lo v ts := by
  obtain ⟨nvs, hl, hr, hn⟩ := h
  exact ⟨nvs, hl, own_more hr hb, hn⟩
theorem OwnList.lo_ {w : World} {base lo lo' : Nat} {v : Value} {ts : List Tr} (h : OwnList w base lo v ts) (hb : lo' ≤ lo) : OwnList w base lo' v ts := by
  obtain ⟨nvs, hl, hr, hn⟩ := h
  exact ⟨nvs, hl, hr, fun j t nv h1 h2 => ⟨(hn j t nv h1 h2).1.more fun b h => ⟨Nat.le_trans hb h.1, h.2⟩, (hn j t nv h1 h2).2⟩⟩
theorem OwnList.below {w w' : World} {base lo : Nat} {v : Value} {ts : List Tr} (h : OwnList w base lo v ts) (hb : Below w.heap.size w w') : OwnList w' base lo v ts := by
  obtain ⟨nvs, hl, hr, hn⟩ := h
  refine ⟨nvs, hl, hr.kept (only_of_below hb none) ?_, fun j t nv h1 h2 => ⟨((hn j t nv h1 h2).1.below hb fun _ h => h.2.1).more fun b h => ⟨h.1, Nat.lt_of_lt_of_le h.2.1 hb.size, h.2.2.1, h.2.2.2.below hb h.2.1⟩, (hn j t nv h1 h2).2⟩⟩
  cases hv : v.ownBlock with
  | none => exact .inl rfl
  | some g => exact .inr (by simp)
theorem OwnList.push {w w' : World} {base lo : Nat} {v v' : Value} {ts : List Tr} {t : Tr} {nv : Value} {S : Nat → Prop} {nvs : List Value} (hl : nvs.length = ts.length)
    (hn : ∀ (j : Nat) (t : Tr) (nv : Value), ts[j]? = some t → nvs[j]? = some nv → RNodes w (fun b => lo ≤ b ∧ b < w.heap.size ∧ v.ownBlock ≠ some b ∧ Soft w b) nv t.nodes ∧ -9223372036854775808 ≤ t.root ∧ t.root ≤ 9223372036854775807)
    (ht : RNodes w S nv t.nodes) (hS : ∀ b, S b → lo ≤ b ∧ b < w.heap.size ∧ v.ownBlock ≠ some b ∧ Soft w b) (h1 : -9223372036854775808 ≤ t.root) (h2 : t.root ≤ 9223372036854775807)
    (hr : w'.ownsRow base 24 2 v' (ts.length + 1) (treesCells ts nvs ++ [nv, .int .i64 t.root])) (hg : w.grownBy w' v.ownBlock) (hat : v'.ownBlock = v.ownBlock ∨ ∀ g, v'.ownBlock = some g → w.heap.size ≤ g) : OwnList w' base lo v' (ts ++ [t]) := by
  have hne : ∀ b, lo ≤ b ∧ b < w.heap.size ∧ v.ownBlock ≠ some b ∧ Soft w b → lo ≤ b ∧ b < w'.heap.size ∧ v'.ownBlock ≠ some b ∧ Soft w' b := fun b hb => by
    refine ⟨hb.1, Nat.lt_of_lt_of_le hb.2.1 hg.size, fun e => ?_, hb.2.2.2.grown hg hb.2.1 fun e => hb.2.2.1 e.symm⟩
    rcases hat with h | h
    · exact hb.2.2.1 (h ▸ e)
    · have := h b e; have := hb.2.1; omega
  refine ⟨nvs ++ [nv], by simp [hl], ?_, fun j u mv hj hm => ?_⟩
  · rw [treesCells_snoc ts nvs hl, List.length_append]
    exact hr
  · rcases Nat.lt_or_ge j ts.length with hjl | hjl
    · rw [List.getElem?_append_left hjl] at hj
      rw [List.getElem?_append_left (by omega)] at hm
      obtain ⟨ha, hb⟩ := hn j u mv hj hm
      exact ⟨(ha.grown hg fun b h => ⟨h.2.1, fun e => h.2.2.1 e⟩).more hne, hb⟩
    · rw [List.getElem?_append_right hjl] at hj
      rw [List.getElem?_append_right (by omega)] at hm
      have h0 : j - ts.length = 0 := by
        rcases Nat.eq_zero_or_pos (j - ts.length) with h | h
        · exact h
        · rw [List.getElem?_eq_none (by simp; omega)] at hj; cases hj
      rw [h0] at hj
      rw [show j - nvs.length = 0 by omega] at hm
      simp at hj hm
      subst hj; subst hm
      exact ⟨((ht.more hS).grown hg fun b h => ⟨h.2.1, fun e => h.2.2.1 e⟩).more hne, h1, h2⟩
theorem OwnList.reads {w : World} {base lo : Nat} {v : Value} {ts : List Tr} (h : OwnList w base lo v ts) : RTrees w (fun b => (base ≤ b ∨ lo ≤ b) ∧ b < w.heap.size) v ts := by
  obtain ⟨nvs, hl, hr, hn⟩ := h
  refine ⟨nvs, hl, Row.of_own hr (fun g hg => ⟨.inl (own_blk_lt hr hg).1, (own_blk_lt hr hg).2⟩) (own_small hr), fun j t nv h1 h2 => ⟨(hn j t nv h1 h2).1.more fun b h => ⟨.inr h.1, h.2.1⟩, (hn j t nv h1 h2).2⟩⟩
theorem OwnList.read {w : World} {base lo : Nat} {v : Value} {ts : List Tr} (h : OwnList w base lo v ts) : RTrees w (fun b => b < w.heap.size) v ts := h.reads.more fun _ h => h.2
theorem tree_info : (Tryd.prog.info? 24).map (fun i => (i.zero, i.size, i.bytes)) = some (some (.agg #[.slice none 0 0, .int .i64 0]), 2, 32) := by kernel_rfl

/-- The kids of a tree, clean. -/
noncomputable def kidsOfT (t : Tr) : List Tr := if RightT t then (treeOf t).kids.map flatT else []
theorem kids_root {t : Tr} (hr : RightT t) {N : Nd} (hN : t.nodes[t.root.toNat]? = some N) : kidsOfT t = N.kids.map fun k => flatT (D t.nodes k.toNat) := by
  rw [kidsOfT, if_pos hr, treeOf, D_eq hr.shape.low hN]
  simp [T.kids, List.map_map, Function.comp_def]

structure KidsRel (t : Tr) (A : Option Addr) (c B : Nat) (w : World) (vo : Value) (ts : List Tr) (wr : World) : Prop where
  box : Blk wr B 24 #[.slice A t.nodes.length c, .int .i64 t.root]
  out : OwnList wr (B + 1) B vo ts
  below : Below B w wr

set_option maxHeartbeats 4000000 in
theorem Kids_g {t : Tr} {v : Value} {S : Nat → Prop} {w : World} (h : Given t v S w) :
    Calls Tryd.prog 25 #[v] w fun e w' => ∃ u, e = .returned u ∧ OwnList w' w.heap.size w.heap.size u (kidsOfT t) ∧ Below w.heap.size w w' := by
  have HR := Lib.hid (fun wx (hx : Below w.heap.size w wx) => right_g (h.below hx))
  have HG := Lib.hid h
  obtain ⟨nv, rfl, hns, hr1, hr2⟩ := h.read
  obtain ⟨A, c, rfl, hc, hs, _⟩ := hns.at_
  clear h hns
  by_cases hr : RightT t
  · rw [decide_eq_true hr] at HR
    obtain ⟨rn, hrn⟩ : ∃ rn : Nat, t.root = (rn : Int) := ⟨t.root.toNat, by have := hr.shape.pos; omega⟩
    have hrl : rn < t.nodes.length := by have := hr.shape.root_lt; omega
    have hrl' : (rn : Int) < (t.nodes.length : Int) := by omega
    obtain ⟨N, hN⟩ : ∃ N, t.nodes[rn]? = some N := ⟨_, List.getElem?_eq_getElem hrl⟩
    have hK : kidsOfT t = N.kids.map fun k => flatT (D t.nodes k.toNat) := kids_root hr (by rw [hrn]; exact hN)
    have HKD := Lib.hid hK
    have HN := Lib.hid hN
    have HRT := Lib.hid hr
    have HRN := Lib.hid hrn
    have hkl := hr.kids_le N (List.mem_of_getElem? hN)
    have hsm := HG.out.small
    obtain ⟨b, off, Ak, ck, rfl, hbS, hki, _, _, _, _, _, _, _, _, _, c8⟩ := (HasT.nodes ((HG.out.read).has HG.out.old)).get rn N hN
    have HKI := Lib.hid hki
    have HC8 := Lib.hid c8
    rw [hrn] at HR ⊢
    clear hr hN hK hrn hki c8
    go_enter Tryd.func25, Tryd.ntmps25
    go_wp2_with fail
    refine (HR.out _ ((Below.refl _ _).alloc (Nat.le_refl _) _)).mono ?_
    rintro e w1 ⟨rfl, hb1⟩
    have hb01 : Below w.heap.size w w1 := ((Below.refl _ _).alloc (Nat.le_refl _) _).trans (hb1.mono (by simp <;> omega))
    have hB1 : Blk w1 w.heap.size 24 #[.slice (some ⟨b, off, none⟩) t.nodes.length c, .int .i64 rn] := (Blk.new w _ _).below hb1 (by simp)
    have d0 : w1.cell? ⟨w.heap.size, 0, none⟩ = some (.slice (some ⟨b, off, none⟩) t.nodes.length c) := hB1.cell 0
    have d1 : w1.cell? ⟨w.heap.size, 1, none⟩ = some (.int .i64 rn) := hB1.cell 1
    have c8 : w1.cell? ⟨b, off + rn * 9 + 8, none⟩ = some (.slice Ak N.kids.length ck) := (hb01.cell (p := ⟨b, off + rn * 9 + 8, none⟩) hbS).trans HC8.out
    have HB1 := Lib.hid hB1
    have HW1 := Lib.hid hb01
    clear hb1 hB1 hb01
    go_wp2_with fail
    have H0 : Hid (KidsRel t (some ⟨b, off, none⟩) c w.heap.size w (.slice none 0 0) [] w1) := Lib.hid ⟨by rw [HRN.out]; exact HB1.out, OwnList.nil_ _ _ _, HW1.out⟩
    clear d0 d1 c8
    go_loopw [3, 18] (fun vo i wr => ∃ (j : Nat) (Ao : Option Addr) (co : Nat), j ≤ N.kids.length ∧ i = .int .i64 j ∧ vo = .slice Ao j co ∧ Hid (KidsRel t (some ⟨b, off, none⟩) c w.heap.size w (.slice Ao j co) ((N.kids.take j).map fun k => flatT (D t.nodes k.toNat)) wr)) (fun _ i _ => N.kids.length - (intOf i).toNat)
    case atStart => exact ⟨0, none, 0, Nat.zero_le _, rfl, rfl, H0⟩
    case round =>
      obtain ⟨wo, rfl⟩ : ∃ wo, wo = wr := ⟨_, rfl⟩
      obtain ⟨j, Ao, co, hj, rfl, rfl, HREL⟩ := hrel
      by_cases hlt : j < N.kids.length
      · have hlt' : (j : Int) < (N.kids.length : Int) := by omega
        obtain ⟨k, hk⟩ : ∃ k, N.kids[j]? = some k := ⟨_, List.getElem?_eq_getElem hlt⟩
        have hkl2 := HRT.out.shape.low rn N HN.out k (List.mem_of_getElem? hk)
        obtain ⟨y, rfl⟩ : ∃ y : Nat, k = (y : Int) := ⟨k.toNat, by omega⟩
        have hyl : y < t.nodes.length := by omega
        have d0 : wo.cell? ⟨w.heap.size, 0, none⟩ = some (.slice (some ⟨b, off, none⟩) t.nodes.length c) := HREL.out.box.cell 0
        have d1 : wo.cell? ⟨w.heap.size, 1, none⟩ = some (.int .i64 rn) := by rw [← HRN.out]; exact HREL.out.box.cell 1
        obtain ⟨bk, ok, rfl, hbk, hkc⟩ := HKI.out.get j _ hk
        have q0 : wo.cell? ⟨bk, ok + j, none⟩ = some (.int .i64 (y : Int)) := (HREL.out.below.cell (p := ⟨bk, ok + j, none⟩) hbk).trans hkc
        have HP := Lib.hid (put_nil (HG.out.below HREL.out.below) HRT.out (y : Int) (by omega) (by simpa using hyl) wo.heap.size (Nat.le_refl _))
        have HKJ := Lib.hid hk
        obtain ⟨sz, hsz⟩ : ∃ sz, sz = (D t.nodes y).size := ⟨_, rfl⟩
        simp only [Int.toNat_natCast, ← hsz, HRN.out] at HP
        have hszl : sz ≤ 500000 := by have := size_le HRT.out.shape y hyl; omega
        have hszp : 0 < sz := hsz ▸ T.size_pos _
        have HSZ := Lib.hid hsz
        have hBw := HREL.out.box.lt
        obtain ⟨i0, hi0, hz0, hz1, hz2⟩ := info_parts tree_info
        clear hk hkc hkl2 hsz
        go_wp2_with fail
        refine HP.out.mono ?_
        rintro e w3 ⟨A3, c3, rfl, ho3, hb3⟩
        have HREL3 : Hid (KidsRel t (some ⟨b, off, none⟩) c w.heap.size w (.slice Ao j co) ((N.kids.take j).map fun k => flatT (D t.nodes k.toNat)) w3) := Lib.hid ⟨HREL.out.box.below hb3 HREL.out.box.lt, HREL.out.out.below hb3, HREL.out.below.trans (hb3.mono HREL.out.below.size)⟩
        obtain ⟨nvs, hnl, hrow, hns⟩ := id HREL3.out.out
        have htl : ((N.kids.take j).map fun k => flatT (D t.nodes k.toNat)).length = j := by simp; omega
        have hrow2 := hrow
        rw [htl] at hrow2
        have HROW := Lib.hid hrow2
        have HNS := Lib.hid hns
        have HNL := Lib.hid hnl
        have HTL := Lib.hid htl
        have HO3 := Lib.hid ho3
        have hs3 := hb3.size
        have HB3 := Lib.hid hb3
        clear hrow hrow2 hns hnl htl ho3 hb3 d0 d1 q0
        go_wp2_with (at_builtin
                     go_loud (refine wpList_append1 w3 rfl (.tmp 25) (.tmp 31) _ rfl (w.heap.size + 1) 24 i0 _ 2 32 Tryd.underlying40 hi0 hz0 hz1 hz2 rfl (by omega) (.slice Ao j co) j (treesCells ((N.kids.take j).map fun k => flatT (D t.nodes k.toNat)) nvs) rfl HROW.out [_, _] rfl rfl (by simp [Value.oneCell']) (by unfold maxLen; omega) (by omega) (by omega) ?_)
                     intro v4 w4 hown4 hg4 hat4
                     obtain ⟨A4, c4, rfl, _, _, _⟩ := own_slice hown4
                     have HOW4 := Lib.hid hown4
                     have HG4 := Lib.hid hg4
                     have HAT4 := Lib.hid hat4
                     clear hown4 hg4 hat4)
        go_roundw
        case measure => simp [intOf]; omega
        case rel =>
          have hroot : (flatT (D t.nodes y)).root = (sz : Int) - 1 := by rw [HSZ.out]; rfl
          have hvl : ∀ g, (Value.slice Ao j co).ownBlock = some g → w.heap.size + 1 ≤ g ∧ g < wo.heap.size := fun g e => by
            obtain ⟨_, _, hr0, _⟩ := HREL.out.out
            exact own_blk_lt hr0 e
          refine ⟨j + 1, A4, c4, by omega, by go_num, rfl, Lib.hid ⟨HREL3.out.box.grown HG4.out (fun e => by have := (hvl _ e.symm).1; omega), ?_, HREL3.out.below.trans (below_of_grown HG4.out HREL3.out.below.size fun g e => by have := (hvl g e).1; omega)⟩⟩
          have e1 : (N.kids.take (j + 1)).map (fun k => flatT (D t.nodes k.toNat)) = (N.kids.take j).map (fun k => flatT (D t.nodes k.toNat)) ++ [flatT (D t.nodes y)] := by
            rw [List.take_add_one, HKJ.out]; simp
          rw [e1]
          obtain ⟨kvs, hk⟩ := HO3.out
          have hn3 := hk.nodesS (S := fun b => wo.heap.size ≤ b ∧ b < w3.heap.size ∧ Soft w3 b) (fun b h1 h2 _ h3 => ⟨h1, h2, h3⟩)
          refine OwnList.push HNL.out HNS.out hn3 (fun b hb => ⟨by have := hb.1; omega, hb.2.1, fun e => by have := (hvl b e).2; have := hb.1; omega, hb.2.2⟩) (by rw [hroot]; omega) (by rw [hroot]; omega) ?_ HG4.out ?_
          · rw [hroot, HTL.out]; exact HOW4.out
          · rcases HAT4.out with h | h
            · exact .inl h
            · exact .inr fun g hg => by rw [h] at hg; injection hg; omega
      · have hje : j = N.kids.length := by omega
        subst hje
        go_wp2_with fail
        go_ret
        refine ⟨_, rfl, ?_, HREL.out.below⟩
        have := HREL.out.out
        rw [List.take_length, ← HKD.out] at this
        exact this.base_ (by omega)
  · rw [decide_eq_false hr] at HR
    go_enter Tryd.func25, Tryd.ntmps25
    go_wp2_with fail
    refine (HR.out _ ((Below.refl _ _).alloc (Nat.le_refl _) _)).mono ?_
    rintro e w1 ⟨rfl, hb1⟩
    have hb01 : Below w.heap.size w w1 := ((Below.refl _ _).alloc (Nat.le_refl _) _).trans (hb1.mono (by simp <;> omega))
    have HV := Lib.hid (show kidsOfT t = [] from if_neg hr)
    have HW1 := Lib.hid hb01
    clear hb1 hb01 hr
    go_wp2_with fail
    go_ret
    exact ⟨_, rfl, by rw [HV.out]; exact OwnList.nil_ _ _ _, HW1.out⟩
/-- What Of answers. -/
noncomputable def ofB (d : Dt) (ts : List Tr) : Bool := decide (fits d ts.length = true ∧ ∀ t ∈ ts, RightT t)
noncomputable def ofT (d : Dt) (ts : List Tr) : Tr := if fits d ts.length = true ∧ ∀ t ∈ ts, RightT t then flatT (.node d (ts.map treeOf)) else zeroT
theorem IsOf.eq {d : Dt} {ts : List Tr} {x : Tr} {is : Bool} (h : IsOf d ts x is) : is = ofB d ts ∧ x = ofT d ts := by
  unfold ofB ofT
  by_cases hh : fits d ts.length = true ∧ ∀ t ∈ ts, RightT t
  · rw [if_pos hh, decide_eq_true hh]; exact h.yes hh.1 hh.2
  · rw [if_neg hh, decide_eq_false hh]; exact h.no hh
end Go.Proofs.YtlmlbdmbgfclkaaDoor

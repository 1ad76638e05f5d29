/- The contract of tree.depth. -/
import Derived.Test.YtlmlbdmbgfclkaaDoorTrR
import Derived.Test.YtlmlbdmbgfclkaaDoorTrP
namespace Go.Proofs.YtlmlbdmbgfclkaaDoor
open Go.RowKit

def tabOf (n : Nat) (F : Nat → Int) : List Value := (List.range n).map fun j => Value.int .i64 (F j)
theorem tabOf_at {n k : Nat} {F : Nat → Int} (hk : k < n) : (tabOf n F)[k]? = some (.int .i64 (F k)) := by
  unfold tabOf
  rw [List.getElem?_map, List.getElem?_range hk]; rfl
theorem tabOf_set {n k : Nat} {F G : Nat → Int} (x : Int) (h : ∀ j, j < n → G j = if j = k then x else F j) : (tabOf n F).set k (.int .i64 x) = tabOf n G := by
  apply List.ext_getElem?
  intro i
  unfold tabOf
  rw [List.getElem?_set, List.getElem?_map, List.getElem?_map]
  rcases Nat.lt_or_ge i n with hi | hi
  · rw [List.getElem?_range hi]
    simp only [Option.map_some, h i hi]
    by_cases hki : k = i
    · subst hki; simp [hi]
    · rw [if_neg hki, if_neg (fun e => hki e.symm)]
  · rw [List.getElem?_eq_none (by simpa using hi)]
    by_cases hki : k = i
    · rw [if_pos hki, if_neg (by simp; omega)]; rfl
    · rw [if_neg hki]; rfl
theorem tabOf_congr {n : Nat} {F G : Nat → Int} (h : ∀ j, j < n → G j = F j) : tabOf n F = tabOf n G := by
  unfold tabOf
  refine List.map_congr_left fun j hj => ?_
  rw [h j (by simpa using hj)]
theorem make_zeros (n : Nat) (hn : n ≤ 1000000) : ∀ wx : World, (Instr.makeSlice 27 (.int .i64 (n : Int)) (.int .i64 (n : Int))).run Tryd.prog wx = .ok (.slice (some ⟨wx.heap.size, 0, none⟩) n n) (wx.alloc (.cells (tabOf n fun _ => 0).toArray 3)) := by
  obtain ⟨i0, hi0, hz0, hz1, hz2⟩ := info_parts int_info
  intro wx
  have e : (tabOf n fun _ => 0).toArray = madeCells (Value.cells (.int .i64 0)) (n * i0.size) := by
    rw [hz1, Nat.mul_one]
    apply Array.ext'
    symm
    simp only [madeCells, Value.cells, tabOf]
    apply List.ext_getElem <;> simp [Nat.mod_one]
  rw [e]
  exact run_make_rowN _ _ i0 _ Tryd.underlying27 hi0 hz0 _ _ n n (Nat.le_refl _) (by rw [hz2]; omega) (by omega) wx
theorem depths_snoc (l : List T) (x : T) : depths (l ++ [x]) = Nat.max (depths l) x.depth := by
  induction l with
  | nil => simp [depths]
  | cons y l ih => simp only [List.cons_append, depths, ih]; show max _ (max _ _) = max (max _ _) _; omega
theorem depths_le (l : List T) (b : Nat) (h : ∀ t ∈ l, t.depth ≤ b) : depths l ≤ b := by
  induction l with
  | nil => simp [depths]
  | cons y l ih => simp only [depths]; exact Nat.max_le.2 ⟨h y (by simp), ih fun t ht => h t (by simp [ht])⟩
theorem depth_le {ns : List Nd} (h : Low ns) : ∀ i, i < ns.length → (D ns i).depth ≤ i + 1 :=
  node_ind h fun i n hn ih => by
    rw [D_eq h hn]
    simp only [T.depth]
    have : depths (n.kids.map fun k => D ns k.toNat) ≤ i := depths_le _ _ fun t ht => by
      obtain ⟨k, hk, rfl⟩ := List.mem_map.1 ht
      have h1 := ih k hk
      have h2 := h i n hn k hk
      omega
    omega
def dOuter (ns : List Nd) (i j : Nat) : Int := if j < i then ((D ns j).depth : Int) else 0
def dInner (ns : List Nd) (kids : List Int) (i q j : Nat) : Int := if j < i then ((D ns j).depth : Int) else if j = i then (depths ((kids.take q).map fun k => D ns k.toNat) : Int) else 0

set_option maxHeartbeats 1000000 in
theorem depth_any (t : Tr) (v : Value) (S : Nat → Prop) (w : World) (ht : RTree w S v t) (hS : ∀ b, S b → b < w.heap.size) (hlow : Low t.nodes) (h0 : 0 ≤ t.root) (hn : t.root.toNat < t.nodes.length) (hsz : t.nodes.length ≤ 1000000) (hks : ∀ n ∈ t.nodes, n.kids.length ≤ 1000000) :
    Calls Tryd.prog 47 #[v] w fun e w' => e = .returned (.int .i64 (D t.nodes t.root.toNat).depth) ∧ Below w.heap.size w w' := by
  obtain ⟨nv, rfl, hns, hr1, hr2⟩ := ht
  obtain ⟨A, c, rfl, hc, hs, hcells⟩ := hns.at_
  obtain ⟨b, off, rfl, hbS, _⟩ := hcells (by omega)
  have hbB := hS b hbS
  clear hcells
  have hmk := make_zeros t.nodes.length hsz
  generalize hZ : (tabOf t.nodes.length fun _ => 0).toArray = Z at hmk
  have HZ := Lib.hid hZ
  have HNS := Lib.hid hns
  clear hns hZ
  have hrl : t.root < (t.nodes.length : Int) := by omega
  go_enter Tryd.func47, Tryd.ntmps47
  go_wp2
  go_loopw [15] (fun i wr => ∃ j : Nat, j ≤ t.nodes.length ∧ i = .int .i64 j ∧ Hid (Blk wr w.heap.size 24 #[.slice (some ⟨b, off, none⟩) t.nodes.length c, .int .i64 t.root]) ∧
    Hid (Blk wr (w.heap.size + 1) 3 (tabOf t.nodes.length (dOuter t.nodes j)).toArray) ∧ Hid (Below w.heap.size w wr)) (fun i _ => t.nodes.length - (intOf i).toNat)
  case atStart =>
    refine ⟨0, Nat.zero_le _, rfl, Lib.hid ((Blk.new w _ _).alloc _), Lib.hid ?_, Lib.hid (((Below.refl _ _).alloc (Nat.le_refl _) _).alloc (by simp) _)⟩
    have e : tabOf t.nodes.length (fun _ => 0) = tabOf t.nodes.length (dOuter t.nodes 0) := tabOf_congr fun j _ => by simp [dOuter]
    rw [← HZ.out, ← e]
    exact Blk.new1 _ _ _ _
  case round =>
    obtain ⟨wo, rfl⟩ : ∃ wo, wo = wr := ⟨_, rfl⟩
    obtain ⟨j, hj, rfl, HB, HL, HW⟩ := hrel
    by_cases hlt : j < t.nodes.length
    · obtain ⟨N, hN⟩ : ∃ N, t.nodes[j]? = some N := ⟨_, List.getElem?_eq_getElem hlt⟩
      have hnk := hks N (List.mem_of_getElem? hN)
      have hns2 := HNS.out.below HW.out hS
      obtain ⟨_, Ak, ck, hki, hdo, hck, hkc⟩ := hns2.known j N hN
      have c0 : wo.cell? ⟨b, off + j * 9, none⟩ = some (.int .u8 N.d.kind) := hkc 0 _ rfl
      have c1 : wo.cell? ⟨b, off + j * 9 + 1, none⟩ = some (.int .u64 N.d.s0) := hkc 1 _ rfl
      have c2 : wo.cell? ⟨b, off + j * 9 + 2, none⟩ = some (.int .u64 N.d.s1) := hkc 2 _ rfl
      have c3 : wo.cell? ⟨b, off + j * 9 + 3, none⟩ = some (.int .u64 N.d.s2) := hkc 3 _ rfl
      have c4 : wo.cell? ⟨b, off + j * 9 + 4, none⟩ = some (.int .u64 N.d.s3) := hkc 4 _ rfl
      have c5 : wo.cell? ⟨b, off + j * 9 + 5, none⟩ = some (.string ⟨N.d.text.toArray⟩) := hkc 5 _ rfl
      have c6 : wo.cell? ⟨b, off + j * 9 + 6, none⟩ = some (.int .i64 N.d.min) := hkc 6 _ rfl
      have c7 : wo.cell? ⟨b, off + j * 9 + 7, none⟩ = some (.int .i64 N.d.max) := hkc 7 _ rfl
      have c8 : wo.cell? ⟨b, off + j * 9 + 8, none⟩ = some (.slice Ak N.kids.length ck) := hkc 8 _ rfl
      have hbs := HW.out.size
      have HN := Lib.hid hN
      have HKI := Lib.hid hki
      clear hkc hns2 hki hN
      go_wp2
      go_loopw [23] (fun i wr => ∃ q : Nat, q ≤ N.kids.length ∧ i = .int .i64 q ∧ Hid (Blk wr w.heap.size 24 #[.slice (some ⟨b, off, none⟩) t.nodes.length c, .int .i64 t.root]) ∧
        Hid (Blk wr (w.heap.size + 1) 3 (tabOf t.nodes.length (dInner t.nodes N.kids j q)).toArray) ∧ Hid (Below w.heap.size w wr)) (fun i _ => N.kids.length - (intOf i).toNat)
      case atStart =>
        refine ⟨0, Nat.zero_le _, rfl, Lib.hid (HB.out.alloc _), Lib.hid ?_, Lib.hid (HW.out.alloc HW.out.size _)⟩
        have e : tabOf t.nodes.length (dInner t.nodes N.kids j 0) = tabOf t.nodes.length (dOuter t.nodes j) := tabOf_congr fun i _ => by
          unfold dInner dOuter
          simp [depths]
        rw [e]
        exact HL.out.alloc _
      case round =>
        obtain ⟨q, hq, rfl, HB2, HL2, HW2⟩ := hrel
        by_cases hql : q < N.kids.length
        · obtain ⟨k, hkq⟩ : ∃ k, N.kids[q]? = some k := ⟨_, List.getElem?_eq_getElem hql⟩
          obtain ⟨bk, ok, rfl, hbk, hkc⟩ := (HKI.out.keep fun p hp => (HW2.out.cell (hS _ hp)).trans (HW.out.cell (hS _ hp)).symm).get q k hkq
          have hkb := hlow j N HN.out k (List.mem_of_getElem? hkq)
          obtain ⟨da, hda⟩ : ∃ da : Nat, da = depths ((N.kids.take q).map fun k => D t.nodes k.toNat) := ⟨_, rfl⟩
          obtain ⟨db, hdb⟩ : ∃ db : Nat, db = (D t.nodes k.toNat).depth := ⟨_, rfl⟩
          have hcj : wr.cell? ⟨w.heap.size + 1, j, none⟩ = some (.int .i64 da) := by
            rw [HL2.out.cell, List.getElem?_toArray, tabOf_at hlt, hda]
            simp [dInner]
          have hck2 : wr.cell? ⟨w.heap.size + 1, k.toNat, none⟩ = some (.int .i64 db) := by
            rw [HL2.out.cell, List.getElem?_toArray, tabOf_at (by omega), hdb]
            simp only [dInner]
            rw [if_pos (by omega)]
          have hfj := HL2.out.frozen j
          have hk0 : 0 ≤ k := hkb.1
          have hkl : k < (t.nodes.length : Int) := by omega
          have hji : (0 : Int) ≤ (j : Int) := by omega
          have hjl : (j : Int) < (t.nodes.length : Int) := by omega
          have HKQ := Lib.hid hkq
          have HDA := Lib.hid hda
          have HDB := Lib.hid hdb
          clear hkq hda hdb
          go_wp2
          go_region
          go_wp2
          go_roundw
          case measure => simp [intOf]; omega
          case rel =>
            have h1 := HL2.out.set_ j (.int .i64 (max (da : Int) (db : Int)))
            rw [List.setIfInBounds_toArray, tabOf_set (G := dInner t.nodes N.kids j (q + 1)) _ (fun i _ => by
              unfold dInner
              by_cases h1 : i < j
              · rw [if_pos h1, if_neg (by omega), if_pos h1]
              · rw [if_neg h1]
                by_cases h2 : i = j
                · rw [if_pos h2, if_pos h2, List.take_add_one, HKQ.out, List.map_append]
                  simp only [Option.toList_some, List.map_cons, List.map_nil]
                  rw [depths_snoc, ← HDA.out, ← HDB.out]
                  show ((max da db : Nat) : Int) = _
                  omega
                · rw [if_neg h2, if_neg h2, if_neg h1, if_neg h2])] at h1
            exact ⟨q + 1, by omega, by go_num, Lib.hid ((HB2.out.far (by simp) _).drew), Lib.hid h1.drew, Lib.hid (below_drewN (HW2.out.setCell (by simp) _) 1)⟩
        · have hqe : q = N.kids.length := by omega
          subst hqe
          obtain ⟨da, hda⟩ : ∃ da : Nat, da = depths (N.kids.map fun k => D t.nodes k.toNat) := ⟨_, rfl⟩
          have hcj : wr.cell? ⟨w.heap.size + 1, j, none⟩ = some (.int .i64 da) := by
            rw [HL2.out.cell, List.getElem?_toArray, tabOf_at hlt, hda]
            simp [dInner]
          have hfj := HL2.out.frozen j
          have hdd : (D t.nodes j).depth = da + 1 := by rw [D_eq hlow HN.out, hda]; simp only [T.depth]; omega
          have hdl := depth_le hlow j hlt
          have hda2 : da ≤ 1000000 := by omega
          have HDD := Lib.hid hdd
          clear hda hdd hdl
          go_wp2
          go_roundw
          case measure => simp [intOf]; omega
          case rel =>
            have h1 := HL2.out.set_ j (.int .i64 ((da : Int) + 1))
            rw [List.setIfInBounds_toArray, tabOf_set (G := dOuter t.nodes (j + 1)) _ (fun i _ => by
              unfold dInner dOuter
              by_cases h1 : i < j
              · rw [if_pos (by omega), if_neg (by omega), if_pos h1]
              · by_cases h2 : i = j
                · rw [if_pos (by omega), if_pos h2, h2, HDD.out]; omega
                · rw [if_neg (by omega), if_neg h2, if_neg h1, if_neg h2])] at h1
            exact ⟨j + 1, by omega, by go_num, Lib.hid (HB2.out.far (by simp) _), Lib.hid h1, Lib.hid (HW2.out.setCell (by simp) _)⟩
    · have hje : j = t.nodes.length := by omega
      subst hje
      obtain ⟨dr, hdr⟩ : ∃ dr, dr = ((D t.nodes t.root.toNat).depth : Int) := ⟨_, rfl⟩
      have hc1 : wo.cell? ⟨w.heap.size + 1, t.root.toNat, none⟩ = some (.int .i64 dr) := by
        rw [HL.out.cell, List.getElem?_toArray, tabOf_at hn, hdr]
        simp only [dOuter]
        rw [if_pos hn]
      have hc2 := HB.out.cell 1
      have hc2 : wo.cell? ⟨w.heap.size, 1, none⟩ = some (.int .i64 t.root) := hc2
      have HDR := Lib.hid hdr
      clear hdr
      go_wp2
      go_ret
      refine ⟨?_, HW.out⟩
      rw [← HDR.out]; rfl
end Go.Proofs.YtlmlbdmbgfclkaaDoor

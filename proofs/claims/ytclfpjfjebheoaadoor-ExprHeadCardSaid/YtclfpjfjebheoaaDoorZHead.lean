/- ExprHead: for every input the law answers true and the input reads as it did (the tied card: the listed package variables lie as their text lays them). No other condition. -/
import Derived.Test.YtclfpjfjebheoaaDoorP4
import Derived.Test.YtclfpjfjebheoaaDoorCards
import Derived.Test.YtclfpjfjebheoaaDoorTie
import Derived.LaidHandle
import Derived.LaidSub
/- Heads, tails, and what is made, in plain Lean; and the calls that laws make of them. -/
namespace Go.Proofs.YtclfpjfjebheoaaDoor
set_option linter.unusedSimpArgs false
open Go.RowKit
open Classical

theorem openK_id {k z : Int} {L : List T} (h : ∀ x ∈ L, x.d.kind ≠ k ∧ x.d.kind ≠ z) : openK k z L = L := by
  induction L with
  | nil => rfl
  | cons a L ih =>
    have ha := h a (by simp)
    rw [openK_cons, ih fun x hx => h x (by simp [hx])]
    show (List.flatMap _ [a]) ++ L = _
    simp [ha.1, ha.2]
theorem map_nf_id {L : List T} (hf : ∀ x ∈ L, FitT x) (hn : ∀ x ∈ L, NT x) : L.map nf = L := by
  conv => rhs; rw [← List.map_id L]
  exact List.map_congr_left fun x hx => nf_id x (hf x hx) (hn x hx)
theorem S_kids {u : T} (hf : FitT u) (hn : NT u) (h4 : u.d.kind = 4) : S u.kids = u := by
  cases hn with
  | node d ks hk h4' _ =>
    simp only [T.kids, T.d] at *
    obtain ⟨rfl, h2⟩ := fits_four hf.fit h4
    unfold S
    rw [show ks.map nf = ks from map_nf_id (fun x hx => hf.kids x hx) hk, openK_id (h4' rfl)]
    exact coll_many _ _ (by simp only [T.kids] at h2; omega)
theorem S_one {u : T} (hf : FitT u) (hn : NT u) (h4 : u.d.kind ≠ 4) (h0 : u.d.kind ≠ 0) : S [u] = u := by
  unfold S
  rw [List.map_cons, List.map_nil, nf_id u hf hn, openK_id (by simp [h4, h0])]
  rfl
theorem NT.kids4 {u : T} (hn : NT u) (h4 : u.d.kind = 4) : ∀ k ∈ u.kids, k.d.kind ≠ 4 ∧ k.d.kind ≠ 0 := by
  cases hn with
  | node d ks _ h _ => exact h h4
/-- A tree with a head: its parts. -/
theorem parts_some {t : Tr} (hr : RightT t) (h0 : (nf (treeOf t)).d.kind ≠ 0) :
    ∃ k ks, partsL t = (k :: ks).map flatT ∧ (∀ x ∈ k :: ks, FitT x ∧ NT x ∧ x.d.kind ≠ 4 ∧ x.d.kind ≠ 0) ∧ S (k :: ks) = nf (treeOf t) ∧ sizes (k :: ks) ≤ t.nodes.length := by
  have hf := nf_fit _ hr.fitT
  have hn := nf_nt (treeOf t)
  have hs := nf_size (treeOf t)
  rw [hr.size] at hs
  unfold partsL
  rw [if_pos hr]
  by_cases h4 : (nf (treeOf t)).d.kind = 4
  · rw [if_pos h4]
    have h2 := (fits_four hf.fit h4).2
    have hS := S_kids hf hn h4
    have h3 := size_kids (nf (treeOf t))
    match hk : (nf (treeOf t)).kids, h2 with
    | [], h2 => simp at h2
    | k :: ks, _ =>
      rw [hk] at hS h3
      exact ⟨k, ks, rfl, fun x hx => ⟨hf.kids x (hk ▸ hx), hn.kids x (hk ▸ hx), hn.kids4 h4 x (hk ▸ hx)⟩, hS, by omega⟩
  · rw [if_neg h4, if_neg h0]
    refine ⟨nf (treeOf t), [], ?_, fun x hx => ?_, S_one hf hn h4 h0, by simp [sizes]; omega⟩
    · unfold nfTr; rw [if_pos hr]; rfl
    · simp at hx; subst hx; exact ⟨hf, hn, h4, h0⟩
theorem parts_none {t : Tr} (h : RightT t → (nf (treeOf t)).d.kind = 0) : partsL t = [] := by
  unfold partsL
  by_cases hr : RightT t
  · rw [if_pos hr, if_neg (by rw [h hr]; decide), if_pos (h hr)]
  · rw [if_neg hr]
theorem head_none {t : Tr} (h : RightT t → (nf (treeOf t)).d.kind = 0) : headB t = false ∧ tailB t = false ∧ headT t = zeroT ∧ tailT t = zeroT := by
  have hp := parts_none h
  unfold headB tailB headT tailT
  rw [hp]
  simp
theorem head_some {t : Tr} (hr : RightT t) (h0 : (nf (treeOf t)).d.kind ≠ 0) : headB t = true ∧ tailB t = true ∧ ∃ k u, headT t = flatT k ∧ tailT t = flatT u ∧ FitT k ∧ NT k ∧ k.d.kind ≠ 4 ∧ k.d.kind ≠ 0 ∧ FitT u ∧ NT u ∧
    ofET seqD [headT t, tailT t] = nfTr t ∧ k.size ≤ t.nodes.length ∧ u.size ≤ 1 + t.nodes.length := by
  obtain ⟨k, ks, hp, hx, hS, hz⟩ := parts_some hr h0
  have hks : ∀ x ∈ ks, FitT x := fun x hm => (hx x (by simp [hm])).1
  have hfl := seq_flat hks
  have hk := hx k (by simp)
  have e1 : headB t = true := by unfold headB; rw [hp]; exact decide_eq_true (by simp)
  have e2 : headT t = flatT k := by unfold headT; rw [hp]; rfl
  have e3 : tailB t = true := by
    unfold tailB; rw [hp]
    simp only [List.map_cons, List.tail_cons]
    rw [hfl.2]; simp
  have e4 : tailT t = flatT (S ks) := by
    unfold tailT; rw [hp]
    simp only [List.map_cons, List.tail_cons]
    rw [hfl.1]; simp
  refine ⟨e1, e3, k, S ks, e2, e4, hk.1, hk.2.1, hk.2.2.1, hk.2.2.2, S_fit hks, S_nt ks, ?_, ?_, ?_⟩
  · have hr1 : ∀ x ∈ ks.map flatT, RightT x := flats_right hks
    rw [e2, e4, ← hfl.1, show [flatT k, ofET seqD (ks.map flatT)] = [flatT k] ++ [ofET seqD (ks.map flatT)] from rfl, seq_right_ (by simp [right_flat hk.1]) hr1]
    have := seq_flat (L := k :: ks) fun x hm => (hx x hm).1
    rw [show [flatT k] ++ ks.map flatT = (k :: ks).map flatT from rfl, this.1, hS]
    unfold nfTr; rw [if_pos hr]
  · simp only [sizes] at hz; omega
  · have := S_size ks
    simp only [sizes] at hz; omega
theorem nfTr_flat {u : T} (hf : FitT u) (hn : NT u) : nfTr (flatT u) = flatT u := by
  unfold nfTr; rw [if_pos (right_flat hf), treeOf_flat, nf_id u hf hn]
theorem same_refl {x : Tr} (h : RightT x) : SameT x x := ⟨h, h, rfl⟩
theorem normal_flat {u : T} (hf : FitT u) (hn : NT u) : decide (RightT (flatT u) ∧ SameT (nfTr (flatT u)) (flatT u)) = true :=
  decide_eq_true ⟨right_flat hf, by rw [nfTr_flat hf hn]; exact same_refl (right_flat hf)⟩
/-- What a call leaves that gives a tree and whether it could. -/
def TP (y : Tr) (b : Bool) (bs : List Nat) (w : World) (e : Ending) (w' : World) : Prop :=
  ∃ A c x, e = .returned (.tuple #[.agg #[.slice A x.nodes.length c, .int .i64 x.root], .bool b]) ∧ Hid (x = y) ∧ Hid (RT w' bs A c x) ∧ Hid (Below w.heap.size w w')
theorem tp {y : Tr} {b b' : Bool} {bs : List Nat} {w : World} {e : Ending} {w' : World} (hl : BL w bs) (h : ∃ u, e = .returned (.tuple #[u, .bool b']) ∧ XTree w' (fun b => w.heap.size ≤ b) u y ∧ Below w.heap.size w w') (hb : b' = b) : TP y b bs w e w' := by
  obtain ⟨u, rfl, hu, hb'⟩ := h
  obtain ⟨A, c, rfl⟩ := hu.agg
  exact ⟨A, c, _, by rw [hb], Lib.hid rfl, Lib.hid (RT.of_x hu hl), Lib.hid hb'⟩
section
variable {w0 w : World} {bs : List Nat} {A A2 : Option Addr} {c c2 g : Nat} {x y : Tr} {b : Bool}
theorem make_c (hE : Ev w0 w) (hl : BL w bs) (h1 : RT w bs A c x) (hs : x.nodes.length ≤ 100000) (hb : decide (RightT x) = b) : Calls Tryd.prog 23 #[.agg #[.slice A x.nodes.length c, .int .i64 x.root]] w (TP (nfTr x) b bs w) :=
  (Make_g x _ _ w (h1.givenE hE hs)).mono fun e w' h => tp hl h hb
theorem head_c (hE : Ev w0 w) (hl : BL w bs) (h1 : RT w bs A c x) (hs : x.nodes.length ≤ 100000) (hb : headB x = b) : Calls Tryd.prog 39 #[.agg #[.slice A x.nodes.length c, .int .i64 x.root]] w (TP (headT x) b bs w) :=
  (Head_g (h1.givenE hE hs)).mono fun e w' h => tp hl h hb
theorem tail_c (hE : Ev w0 w) (hl : BL w bs) (h1 : RT w bs A c x) (hs : x.nodes.length ≤ 100000) (hb : tailB x = b) : Calls Tryd.prog 40 #[.agg #[.slice A x.nodes.length c, .int .i64 x.root]] w (TP (tailT x) b bs w) :=
  (Tail_g (h1.givenE hE hs)).mono fun e w' h => tp hl h hb
theorem normal_c (hE : Ev w0 w) (h1 : RT w bs A c x) (hs : x.nodes.length ≤ 100000) (hb : decide (RightT x ∧ SameT (nfTr x) x) = b) : Calls Tryd.prog 42 #[.agg #[.slice A x.nodes.length c, .int .i64 x.root]] w fun e w' => e = .returned (.bool b) ∧ Hid (Below w.heap.size w w') :=
  (Normal_g (h1.givenE hE hs)).mono fun e w' ⟨he, h⟩ => ⟨by rw [he, hb], Lib.hid h⟩
theorem root_c (hE : Ev w0 w) (h1 : RT w bs A c x) (hs : x.nodes.length ≤ 500000) : Calls Tryd.prog 41 #[.agg #[.slice A x.nodes.length c, .int .i64 x.root]] w fun e w' =>
    ∃ k a1 a2 a3 a4 a5 a6 a7 a8, e = .returned (.agg #[.int .u8 k, a1, a2, a3, a4, a5, a6, a7, a8]) ∧ Hid (k = (rootOf x).d.kind) ∧ Hid (Below w.heap.size w w') :=
  (Root_g (h1.given hE hs)).mono fun e w' ⟨⟨N, he, hN⟩, h⟩ => ⟨N.d.kind, _, _, _, _, _, _, _, _, he, Lib.hid (by rw [hN]), Lib.hid h⟩
end
end Go.Proofs.YtclfpjfjebheoaaDoor
/- The law ExprHead, walked: it answers true. -/
namespace Go.Proofs.YtclfpjfjebheoaaDoor
set_option linter.unusedSimpArgs false
open Go.RowKit
open Classical

set_option maxRecDepth 20000 in
set_option maxHeartbeats 8000000 in
theorem lexprhead_any (ta : Tr) (va : Value) (w : World) (ha : HasT w va ta) (hk : KTab w) (ht : TogTab w) : Calls Tryd.prog 8 #[va] w (TruePost w) := by
  obtain ⟨na, rfl, hna, -⟩ := id ha
  obtain ⟨Aa, ca, rfl, -⟩ := hna.at_
  have Va : Hid (RT w [] Aa ca ta) := Lib.hid (RT.old ha)
  have HE : Hid (Ev w w) := Lib.hid ⟨Below.refl _ _, hk, ht⟩
  have HL : Hid (BL w []) := Lib.hid (BL.nil w)
  have HG : Hid (∀ b ∈ ([] : List Nat), w.heap.size ≤ b) := Lib.hid (fun b hm => by cases hm)
  have HN : Hid (([] : List Nat).Nodup) := Lib.hid List.nodup_nil
  clear ha hna hk ht
  go_enter Tryd.func8, Tryd.ntmps8
  replace HG := Lib.hid (ge_box (g := w.heap.size) HG.out HE.out rfl)
  replace HN := Lib.hid (nd_box (g := w.heap.size) HN.out HL.out rfl)
  have K1 := Lib.hid (TB.newN (g := w.heap.size) Va.out rfl)
  replace HE := Lib.hid (HE.out.alloc (.cells #[.slice Aa ta.nodes.length ca, .int .i64 ta.root] 34))
  replace HL := Lib.hid (BL.boxN (g := w.heap.size) HL.out (.cells #[.slice Aa ta.nodes.length ca, .int .i64 ta.root] 34) rfl)
  have d10 : (w.alloc (.cells #[.slice Aa ta.nodes.length ca, .int .i64 ta.root] 34)).cell? ⟨w.heap.size, 0, none⟩ = some (.slice Aa ta.nodes.length ca) := K1.out.blk.cell 0
  have d11 : (w.alloc (.cells #[.slice Aa ta.nodes.length ca, .int .i64 ta.root] 34)).cell? ⟨w.heap.size, 1, none⟩ = some (.int .i64 ta.root) := K1.out.blk.cell 1
  go_wp2_with fail
  clear d10 d11
  refine Calls.mono (large1_c K1.out.tree (by simp)) ?_
  rintro e w1 ⟨r, rfl, HS, B1⟩
  replace HE := Lib.hid (HE.out.below B1.out)
  replace HL := Lib.hid (HL.out.below B1.out)
  replace K1 := Lib.hid (K1.out.below B1.out)
  rcases r with _ | _
  · have HZ := Lib.hid (show ta.nodes.length ≤ 400 by have := (HS.out rfl).sum; simpa [nodesSum] using this)
    clear HS
    go_wp2_with fail
    refine Calls.mono (awake_c HE.out) ?_
    rintro e w2 ⟨rfl, B2⟩
    replace HE := Lib.hid (HE.out.below B2.out)
    replace HL := Lib.hid (HL.out.below B2.out)
    replace K1 := Lib.hid (K1.out.below B2.out)
    have d10 : (w2).cell? ⟨w.heap.size, 0, none⟩ = some (.slice Aa ta.nodes.length ca) := K1.out.blk.cell 0
    have d11 : (w2).cell? ⟨w.heap.size, 1, none⟩ = some (.int .i64 ta.root) := K1.out.blk.cell 1
    go_wp2_with fail
    clear d10 d11
    by_cases hh : RightT ta ∧ (nf (treeOf ta)).d.kind ≠ 0
    · obtain ⟨e1, e2, k, u, e3, e4, f1, f2, f3, f4, f5, f6, e5, e6, e7⟩ := head_some hh.1 hh.2
      have HH := Lib.hid (show headB ta = true ∧ tailB ta = true ∧ True from ⟨e1, e2, trivial⟩)
      have HR := Lib.hid hh
      have HQ := Lib.hid (And.intro e3 (And.intro e4 e5))
      have HF := Lib.hid (And.intro f1 (And.intro f2 (And.intro f3 (And.intro f4 (And.intro f5 f6)))))
      have HY := Lib.hid (And.intro e6 e7)
      clear hh e1 e2 e3 e4 e5 e6 e7 f1 f2 f3 f4 f5 f6
      refine Calls.mono (make_c HE.out HL.out K1.out.tree (by have := HZ.out; omega) (decide_eq_true HR.out.1)) ?_
      rintro e w3 ⟨A3, c3, x3, rfl, X3, V3, B3⟩
      replace HE := Lib.hid (HE.out.below B3.out)
      replace HL := Lib.hid (HL.out.below B3.out)
      replace K1 := Lib.hid (K1.out.below B3.out)
      have Z3 := Lib.hid (show x3.nodes.length ≤ 400 by rw [X3.out]; have := nfTr_len ta; have := HZ.out; omega)
      replace HG := Lib.hid (ge_box (g := w3.heap.size) HG.out HE.out rfl)
      replace HN := Lib.hid (nd_box (g := w3.heap.size) HN.out HL.out rfl)
      have K3 := Lib.hid (TB.newN (g := w3.heap.size) V3.out rfl)
      replace HE := Lib.hid (HE.out.alloc (.cells #[.slice A3 x3.nodes.length c3, .int .i64 x3.root] 34))
      replace HL := Lib.hid (BL.boxN (g := w3.heap.size) HL.out (.cells #[.slice A3 x3.nodes.length c3, .int .i64 x3.root] 34) rfl)
      replace K1 := Lib.hid (TB.boxN (g := w3.heap.size) K1.out (.cells #[.slice A3 x3.nodes.length c3, .int .i64 x3.root] 34) rfl)
      have d10 : (w3.alloc (.cells #[.slice A3 x3.nodes.length c3, .int .i64 x3.root] 34)).cell? ⟨w.heap.size, 0, none⟩ = some (.slice Aa ta.nodes.length ca) := K1.out.blk.cell 0
      have d11 : (w3.alloc (.cells #[.slice A3 x3.nodes.length c3, .int .i64 x3.root] 34)).cell? ⟨w.heap.size, 1, none⟩ = some (.int .i64 ta.root) := K1.out.blk.cell 1
      go_wp2_with fail
      clear d10 d11
      refine Calls.mono (head_c HE.out HL.out K1.out.tree (by have := HZ.out; omega) HH.out.1) ?_
      rintro e w4 ⟨A4, c4, x4, rfl, X4, V4, B4⟩
      replace HE := Lib.hid (HE.out.below B4.out)
      replace HL := Lib.hid (HL.out.below B4.out)
      replace K1 := Lib.hid (K1.out.below B4.out)
      replace K3 := Lib.hid (K3.out.below B4.out)
      replace HG := Lib.hid (ge_box (g := w4.heap.size) HG.out HE.out rfl)
      replace HN := Lib.hid (nd_box (g := w4.heap.size) HN.out HL.out rfl)
      have K5 := Lib.hid (TB.newN (g := w4.heap.size) V4.out rfl)
      replace HE := Lib.hid (HE.out.alloc (.cells #[.slice A4 x4.nodes.length c4, .int .i64 x4.root] 34))
      replace HL := Lib.hid (BL.boxN (g := w4.heap.size) HL.out (.cells #[.slice A4 x4.nodes.length c4, .int .i64 x4.root] 34) rfl)
      replace K1 := Lib.hid (TB.boxN (g := w4.heap.size) K1.out (.cells #[.slice A4 x4.nodes.length c4, .int .i64 x4.root] 34) rfl)
      replace K3 := Lib.hid (TB.boxN (g := w4.heap.size) K3.out (.cells #[.slice A4 x4.nodes.length c4, .int .i64 x4.root] 34) rfl)
      have d10 : (w4.alloc (.cells #[.slice A4 x4.nodes.length c4, .int .i64 x4.root] 34)).cell? ⟨w.heap.size, 0, none⟩ = some (.slice Aa ta.nodes.length ca) := K1.out.blk.cell 0
      have d11 : (w4.alloc (.cells #[.slice A4 x4.nodes.length c4, .int .i64 x4.root] 34)).cell? ⟨w.heap.size, 1, none⟩ = some (.int .i64 ta.root) := K1.out.blk.cell 1
      go_wp2_with fail
      clear d10 d11
      refine Calls.mono (tail_c HE.out HL.out K1.out.tree (by have := HZ.out; omega) HH.out.2.1) ?_
      rintro e w5 ⟨A5, c5, x5, rfl, X5, V5, B5⟩
      replace HE := Lib.hid (HE.out.below B5.out)
      replace HL := Lib.hid (HL.out.below B5.out)
      replace K1 := Lib.hid (K1.out.below B5.out)
      replace K3 := Lib.hid (K3.out.below B5.out)
      replace K5 := Lib.hid (K5.out.below B5.out)
      replace HG := Lib.hid (ge_box (g := w5.heap.size) HG.out HE.out rfl)
      replace HN := Lib.hid (nd_box (g := w5.heap.size) HN.out HL.out rfl)
      have K7 := Lib.hid (TB.newN (g := w5.heap.size) V5.out rfl)
      replace HE := Lib.hid (HE.out.alloc (.cells #[.slice A5 x5.nodes.length c5, .int .i64 x5.root] 34))
      replace HL := Lib.hid (BL.boxN (g := w5.heap.size) HL.out (.cells #[.slice A5 x5.nodes.length c5, .int .i64 x5.root] 34) rfl)
      replace K1 := Lib.hid (TB.boxN (g := w5.heap.size) K1.out (.cells #[.slice A5 x5.nodes.length c5, .int .i64 x5.root] 34) rfl)
      replace K3 := Lib.hid (TB.boxN (g := w5.heap.size) K3.out (.cells #[.slice A5 x5.nodes.length c5, .int .i64 x5.root] 34) rfl)
      replace K5 := Lib.hid (TB.boxN (g := w5.heap.size) K5.out (.cells #[.slice A5 x5.nodes.length c5, .int .i64 x5.root] 34) rfl)
      have Z4 := Lib.hid (show x4.nodes.length ≤ 400 by rw [X4.out, HQ.out.1, flatT_len]; have := HY.out.1; have := HZ.out; omega)
      have Z5 := Lib.hid (show x5.nodes.length ≤ 401 by rw [X5.out, HQ.out.2.1, flatT_len]; have := HY.out.2; have := HZ.out; omega)
      have d30 : (w5.alloc (.cells #[.slice A5 x5.nodes.length c5, .int .i64 x5.root] 34)).cell? ⟨w3.heap.size, 0, none⟩ = some (.slice A3 x3.nodes.length c3) := K3.out.blk.cell 0
      have d31 : (w5.alloc (.cells #[.slice A5 x5.nodes.length c5, .int .i64 x5.root] 34)).cell? ⟨w3.heap.size, 1, none⟩ = some (.int .i64 x3.root) := K3.out.blk.cell 1
      go_wp2_with fail
      clear d30 d31
      refine Calls.mono (root_c HE.out K3.out.tree (by have := Z3.out; omega)) ?_
      rintro e w6 ⟨kx, a1, a2, a3, a4, a5, a6, a7, a8, rfl, HKkx, B6⟩
      replace HE := Lib.hid (HE.out.below B6.out)
      replace HL := Lib.hid (HL.out.below B6.out)
      replace K1 := Lib.hid (K1.out.below B6.out)
      replace K3 := Lib.hid (K3.out.below B6.out)
      replace K5 := Lib.hid (K5.out.below B6.out)
      replace K7 := Lib.hid (K7.out.below B6.out)
      have hfkx := field_kind kx a1 a2 a3 a4 a5 a6 a7 a8
      have hkx : (kx != 0) = true := bne_iff_ne.2 (by rw [HKkx.out, X3.out]; unfold nfTr; rw [if_pos HR.out.1, root_flat_of _ (nf_fit _ HR.out.1.fitT)]; exact HR.out.2)
      have d50 : (w6).cell? ⟨w4.heap.size, 0, none⟩ = some (.slice A4 x4.nodes.length c4) := K5.out.blk.cell 0
      have d51 : (w6).cell? ⟨w4.heap.size, 1, none⟩ = some (.int .i64 x4.root) := K5.out.blk.cell 1
      have d70 : (w6).cell? ⟨w5.heap.size, 0, none⟩ = some (.slice A5 x5.nodes.length c5) := K7.out.blk.cell 0
      have d71 : (w6).cell? ⟨w5.heap.size, 1, none⟩ = some (.int .i64 x5.root) := K7.out.blk.cell 1
      go_wp2_with fail
      clear d50 d51 d70 d71
      clear hkx
      have R5 := Lib.hid (show RightT x4 from (by rw [X4.out, HQ.out.1]; exact right_flat HF.out.1))
      have R7 := Lib.hid (show RightT x5 from (by rw [X5.out, HQ.out.2.1]; exact right_flat HF.out.2.2.2.2.1))
      refine Calls.mono (seq2_c HE.out HL.out K5.out.tree K7.out.tree (by have := Z4.out; have := Z5.out; omega) (by first | rfl | simp)) ?_
      rintro e w7 ⟨A7, c7, x7, rfl, X7, V7, B7⟩
      rw [show ofEB seqD [x4, x5] = true from by rw [ofEB_seq]; exact decide_eq_true (by simp [R5.out, R7.out])]
      replace HE := Lib.hid (HE.out.below B7.out)
      replace HL := Lib.hid (HL.out.below B7.out)
      replace K1 := Lib.hid (K1.out.below B7.out)
      replace K3 := Lib.hid (K3.out.below B7.out)
      replace K5 := Lib.hid (K5.out.below B7.out)
      replace K7 := Lib.hid (K7.out.below B7.out)
      replace HG := Lib.hid (ge_box (g := w7.heap.size) HG.out HE.out rfl)
      replace HN := Lib.hid (nd_box (g := w7.heap.size) HN.out HL.out rfl)
      have K9 := Lib.hid (TB.newN (g := w7.heap.size) V7.out rfl)
      replace HE := Lib.hid (HE.out.alloc (.cells #[.slice A7 x7.nodes.length c7, .int .i64 x7.root] 34))
      replace HL := Lib.hid (BL.boxN (g := w7.heap.size) HL.out (.cells #[.slice A7 x7.nodes.length c7, .int .i64 x7.root] 34) rfl)
      replace K1 := Lib.hid (TB.boxN (g := w7.heap.size) K1.out (.cells #[.slice A7 x7.nodes.length c7, .int .i64 x7.root] 34) rfl)
      replace K3 := Lib.hid (TB.boxN (g := w7.heap.size) K3.out (.cells #[.slice A7 x7.nodes.length c7, .int .i64 x7.root] 34) rfl)
      replace K5 := Lib.hid (TB.boxN (g := w7.heap.size) K5.out (.cells #[.slice A7 x7.nodes.length c7, .int .i64 x7.root] 34) rfl)
      replace K7 := Lib.hid (TB.boxN (g := w7.heap.size) K7.out (.cells #[.slice A7 x7.nodes.length c7, .int .i64 x7.root] 34) rfl)
      have d50 : (w7.alloc (.cells #[.slice A7 x7.nodes.length c7, .int .i64 x7.root] 34)).cell? ⟨w4.heap.size, 0, none⟩ = some (.slice A4 x4.nodes.length c4) := K5.out.blk.cell 0
      have d51 : (w7.alloc (.cells #[.slice A7 x7.nodes.length c7, .int .i64 x7.root] 34)).cell? ⟨w4.heap.size, 1, none⟩ = some (.int .i64 x4.root) := K5.out.blk.cell 1
      go_wp2_with fail
      clear d50 d51
      refine Calls.mono (root_c HE.out K5.out.tree (by have := Z4.out; omega)) ?_
      rintro e w8 ⟨kh, a1, a2, a3, a4, a5, a6, a7, a8, rfl, HKkh, B8⟩
      replace HE := Lib.hid (HE.out.below B8.out)
      replace HL := Lib.hid (HL.out.below B8.out)
      replace K1 := Lib.hid (K1.out.below B8.out)
      replace K3 := Lib.hid (K3.out.below B8.out)
      replace K5 := Lib.hid (K5.out.below B8.out)
      replace K7 := Lib.hid (K7.out.below B8.out)
      replace K9 := Lib.hid (K9.out.below B8.out)
      have hfkh := field_kind kh a1 a2 a3 a4 a5 a6 a7 a8
      have Hkh := Lib.hid (show kh ≠ 4 ∧ kh ≠ 0 by rw [HKkh.out, X4.out, HQ.out.1, root_flat_of _ HF.out.1]; exact ⟨HF.out.2.2.1, HF.out.2.2.2.1⟩)
      have d90 : (w8).cell? ⟨w7.heap.size, 0, none⟩ = some (.slice A7 x7.nodes.length c7) := K9.out.blk.cell 0
      have d91 : (w8).cell? ⟨w7.heap.size, 1, none⟩ = some (.int .i64 x7.root) := K9.out.blk.cell 1
      have d30 : (w8).cell? ⟨w3.heap.size, 0, none⟩ = some (.slice A3 x3.nodes.length c3) := K3.out.blk.cell 0
      have d31 : (w8).cell? ⟨w3.heap.size, 1, none⟩ = some (.int .i64 x3.root) := K3.out.blk.cell 1
      go_wp2_with fail
      clear d90 d91 d30 d31
      have E9 := Lib.hid (show x7 = x3 by rw [X7.out, X4.out, X5.out, X3.out]; exact HQ.out.2.2)
      refine Calls.mono (is_cc HE.out K9.out.tree K3.out.tree E9.out (by rw [E9.out]; have := Z3.out; omega) rfl) ?_
      rintro e w9 ⟨rfl, B9⟩
      replace HE := Lib.hid (HE.out.below B9.out)
      replace HL := Lib.hid (HL.out.below B9.out)
      replace K1 := Lib.hid (K1.out.below B9.out)
      replace K3 := Lib.hid (K3.out.below B9.out)
      replace K5 := Lib.hid (K5.out.below B9.out)
      replace K7 := Lib.hid (K7.out.below B9.out)
      replace K9 := Lib.hid (K9.out.below B9.out)
      have k4 : (kh != 4) = true := bne_iff_ne.2 Hkh.out.1
      have k0 : (kh != 0) = true := bne_iff_ne.2 Hkh.out.2
      have d50 : (w9).cell? ⟨w4.heap.size, 0, none⟩ = some (.slice A4 x4.nodes.length c4) := K5.out.blk.cell 0
      have d51 : (w9).cell? ⟨w4.heap.size, 1, none⟩ = some (.int .i64 x4.root) := K5.out.blk.cell 1
      go_wp2_with fail
      clear d50 d51
      clear k4 k0
      refine Calls.mono (normal_c (b := true) HE.out K5.out.tree (by have := Z4.out; omega) (by rw [X4.out, HQ.out.1]; exact normal_flat HF.out.1 HF.out.2.1)) ?_
      rintro e w10 ⟨rfl, B10⟩
      replace HE := Lib.hid (HE.out.below B10.out)
      replace HL := Lib.hid (HL.out.below B10.out)
      replace K1 := Lib.hid (K1.out.below B10.out)
      replace K3 := Lib.hid (K3.out.below B10.out)
      replace K5 := Lib.hid (K5.out.below B10.out)
      replace K7 := Lib.hid (K7.out.below B10.out)
      replace K9 := Lib.hid (K9.out.below B10.out)
      have d70 : (w10).cell? ⟨w5.heap.size, 0, none⟩ = some (.slice A5 x5.nodes.length c5) := K7.out.blk.cell 0
      have d71 : (w10).cell? ⟨w5.heap.size, 1, none⟩ = some (.int .i64 x5.root) := K7.out.blk.cell 1
      go_wp2_with fail
      clear d70 d71
      refine Calls.mono (normal_c (b := true) HE.out K7.out.tree (by have := Z5.out; omega) (by rw [X5.out, HQ.out.2.1]; exact normal_flat HF.out.2.2.2.2.1 HF.out.2.2.2.2.2)) ?_
      rintro e w11 ⟨rfl, B11⟩
      replace HE := Lib.hid (HE.out.below B11.out)
      replace HL := Lib.hid (HL.out.below B11.out)
      replace K1 := Lib.hid (K1.out.below B11.out)
      replace K3 := Lib.hid (K3.out.below B11.out)
      replace K5 := Lib.hid (K5.out.below B11.out)
      replace K7 := Lib.hid (K7.out.below B11.out)
      replace K9 := Lib.hid (K9.out.below B11.out)
      go_wp2_with fail
      go_ret
      exact ⟨rfl, HE.out.bel⟩
    · have HH := Lib.hid (head_none (t := ta) fun hr => by by_cases h : (nf (treeOf ta)).d.kind = 0; exact h; exact absurd ⟨hr, h⟩ hh)
      by_cases hr : RightT ta
      · have HR := Lib.hid hr
        have HK := Lib.hid (show (nf (treeOf ta)).d.kind = 0 by by_cases h : (nf (treeOf ta)).d.kind = 0; exact h; exact absurd ⟨hr, h⟩ hh)
        clear hr hh
        refine Calls.mono (make_c HE.out HL.out K1.out.tree (by have := HZ.out; omega) (decide_eq_true HR.out)) ?_
        rintro e w3 ⟨A3, c3, x3, rfl, X3, V3, B3⟩
        replace HE := Lib.hid (HE.out.below B3.out)
        replace HL := Lib.hid (HL.out.below B3.out)
        replace K1 := Lib.hid (K1.out.below B3.out)
        have Z3 := Lib.hid (show x3.nodes.length ≤ 400 by rw [X3.out]; have := nfTr_len ta; have := HZ.out; omega)
        replace HG := Lib.hid (ge_box (g := w3.heap.size) HG.out HE.out rfl)
        replace HN := Lib.hid (nd_box (g := w3.heap.size) HN.out HL.out rfl)
        have K3 := Lib.hid (TB.newN (g := w3.heap.size) V3.out rfl)
        replace HE := Lib.hid (HE.out.alloc (.cells #[.slice A3 x3.nodes.length c3, .int .i64 x3.root] 34))
        replace HL := Lib.hid (BL.boxN (g := w3.heap.size) HL.out (.cells #[.slice A3 x3.nodes.length c3, .int .i64 x3.root] 34) rfl)
        replace K1 := Lib.hid (TB.boxN (g := w3.heap.size) K1.out (.cells #[.slice A3 x3.nodes.length c3, .int .i64 x3.root] 34) rfl)
        have d10 : (w3.alloc (.cells #[.slice A3 x3.nodes.length c3, .int .i64 x3.root] 34)).cell? ⟨w.heap.size, 0, none⟩ = some (.slice Aa ta.nodes.length ca) := K1.out.blk.cell 0
        have d11 : (w3.alloc (.cells #[.slice A3 x3.nodes.length c3, .int .i64 x3.root] 34)).cell? ⟨w.heap.size, 1, none⟩ = some (.int .i64 ta.root) := K1.out.blk.cell 1
        go_wp2_with fail
        clear d10 d11
        refine Calls.mono (head_c HE.out HL.out K1.out.tree (by have := HZ.out; omega) HH.out.1) ?_
        rintro e w4 ⟨A4, c4, x4, rfl, X4, V4, B4⟩
        replace HE := Lib.hid (HE.out.below B4.out)
        replace HL := Lib.hid (HL.out.below B4.out)
        replace K1 := Lib.hid (K1.out.below B4.out)
        replace K3 := Lib.hid (K3.out.below B4.out)
        replace HG := Lib.hid (ge_box (g := w4.heap.size) HG.out HE.out rfl)
        replace HN := Lib.hid (nd_box (g := w4.heap.size) HN.out HL.out rfl)
        have K5 := Lib.hid (TB.newN (g := w4.heap.size) V4.out rfl)
        replace HE := Lib.hid (HE.out.alloc (.cells #[.slice A4 x4.nodes.length c4, .int .i64 x4.root] 34))
        replace HL := Lib.hid (BL.boxN (g := w4.heap.size) HL.out (.cells #[.slice A4 x4.nodes.length c4, .int .i64 x4.root] 34) rfl)
        replace K1 := Lib.hid (TB.boxN (g := w4.heap.size) K1.out (.cells #[.slice A4 x4.nodes.length c4, .int .i64 x4.root] 34) rfl)
        replace K3 := Lib.hid (TB.boxN (g := w4.heap.size) K3.out (.cells #[.slice A4 x4.nodes.length c4, .int .i64 x4.root] 34) rfl)
        have d10 : (w4.alloc (.cells #[.slice A4 x4.nodes.length c4, .int .i64 x4.root] 34)).cell? ⟨w.heap.size, 0, none⟩ = some (.slice Aa ta.nodes.length ca) := K1.out.blk.cell 0
        have d11 : (w4.alloc (.cells #[.slice A4 x4.nodes.length c4, .int .i64 x4.root] 34)).cell? ⟨w.heap.size, 1, none⟩ = some (.int .i64 ta.root) := K1.out.blk.cell 1
        go_wp2_with fail
        clear d10 d11
        refine Calls.mono (tail_c HE.out HL.out K1.out.tree (by have := HZ.out; omega) HH.out.2.1) ?_
        rintro e w5 ⟨A5, c5, x5, rfl, X5, V5, B5⟩
        replace HE := Lib.hid (HE.out.below B5.out)
        replace HL := Lib.hid (HL.out.below B5.out)
        replace K1 := Lib.hid (K1.out.below B5.out)
        replace K3 := Lib.hid (K3.out.below B5.out)
        replace K5 := Lib.hid (K5.out.below B5.out)
        replace HG := Lib.hid (ge_box (g := w5.heap.size) HG.out HE.out rfl)
        replace HN := Lib.hid (nd_box (g := w5.heap.size) HN.out HL.out rfl)
        have K7 := Lib.hid (TB.newN (g := w5.heap.size) V5.out rfl)
        replace HE := Lib.hid (HE.out.alloc (.cells #[.slice A5 x5.nodes.length c5, .int .i64 x5.root] 34))
        replace HL := Lib.hid (BL.boxN (g := w5.heap.size) HL.out (.cells #[.slice A5 x5.nodes.length c5, .int .i64 x5.root] 34) rfl)
        replace K1 := Lib.hid (TB.boxN (g := w5.heap.size) K1.out (.cells #[.slice A5 x5.nodes.length c5, .int .i64 x5.root] 34) rfl)
        replace K3 := Lib.hid (TB.boxN (g := w5.heap.size) K3.out (.cells #[.slice A5 x5.nodes.length c5, .int .i64 x5.root] 34) rfl)
        replace K5 := Lib.hid (TB.boxN (g := w5.heap.size) K5.out (.cells #[.slice A5 x5.nodes.length c5, .int .i64 x5.root] 34) rfl)
        have d30 : (w5.alloc (.cells #[.slice A5 x5.nodes.length c5, .int .i64 x5.root] 34)).cell? ⟨w3.heap.size, 0, none⟩ = some (.slice A3 x3.nodes.length c3) := K3.out.blk.cell 0
        have d31 : (w5.alloc (.cells #[.slice A5 x5.nodes.length c5, .int .i64 x5.root] 34)).cell? ⟨w3.heap.size, 1, none⟩ = some (.int .i64 x3.root) := K3.out.blk.cell 1
        go_wp2_with fail
        clear d30 d31
        refine Calls.mono (root_c HE.out K3.out.tree (by have := Z3.out; omega)) ?_
        rintro e w6 ⟨kx, a1, a2, a3, a4, a5, a6, a7, a8, rfl, HKkx, B6⟩
        replace HE := Lib.hid (HE.out.below B6.out)
        replace HL := Lib.hid (HL.out.below B6.out)
        replace K1 := Lib.hid (K1.out.below B6.out)
        replace K3 := Lib.hid (K3.out.below B6.out)
        replace K5 := Lib.hid (K5.out.below B6.out)
        replace K7 := Lib.hid (K7.out.below B6.out)
        have hfkx := field_kind kx a1 a2 a3 a4 a5 a6 a7 a8
        obtain rfl : kx = 0 := by rw [HKkx.out, X3.out]; unfold nfTr; rw [if_pos HR.out, root_flat_of _ (nf_fit _ HR.out.fitT)]; exact HK.out
        have d50 : (w6).cell? ⟨w4.heap.size, 0, none⟩ = some (.slice A4 x4.nodes.length c4) := K5.out.blk.cell 0
        have d51 : (w6).cell? ⟨w4.heap.size, 1, none⟩ = some (.int .i64 x4.root) := K5.out.blk.cell 1
        have d70 : (w6).cell? ⟨w5.heap.size, 0, none⟩ = some (.slice A5 x5.nodes.length c5) := K7.out.blk.cell 0
        have d71 : (w6).cell? ⟨w5.heap.size, 1, none⟩ = some (.int .i64 x5.root) := K7.out.blk.cell 1
        go_wp2_with fail
        clear d50 d51 d70 d71
        have n5 : x4.nodes.length = 0 := by rw [X4.out, HH.out.2.2.1]; rfl
        have n7 : x5.nodes.length = 0 := by rw [X5.out, HH.out.2.2.2]; rfl
        rw [show (wrap64 ((x4.nodes.length : Int) + (x5.nodes.length : Int)) == 0) = true by rw [n5, n7]; simp [wrap64]]
        clear n5 n7
        go_ret
        exact ⟨rfl, HE.out.bel⟩
      · clear hh
        have HR := Lib.hid hr
        clear hr
        refine Calls.mono (make_c HE.out HL.out K1.out.tree (by have := HZ.out; omega) (decide_eq_false HR.out)) ?_
        rintro e w3 ⟨A3, c3, x3, rfl, X3, V3, B3⟩
        replace HE := Lib.hid (HE.out.below B3.out)
        replace HL := Lib.hid (HL.out.below B3.out)
        replace K1 := Lib.hid (K1.out.below B3.out)
        have Z3 := Lib.hid (show x3.nodes.length ≤ 400 by rw [X3.out]; have := nfTr_len ta; have := HZ.out; omega)
        replace HG := Lib.hid (ge_box (g := w3.heap.size) HG.out HE.out rfl)
        replace HN := Lib.hid (nd_box (g := w3.heap.size) HN.out HL.out rfl)
        have K3 := Lib.hid (TB.newN (g := w3.heap.size) V3.out rfl)
        replace HE := Lib.hid (HE.out.alloc (.cells #[.slice A3 x3.nodes.length c3, .int .i64 x3.root] 34))
        replace HL := Lib.hid (BL.boxN (g := w3.heap.size) HL.out (.cells #[.slice A3 x3.nodes.length c3, .int .i64 x3.root] 34) rfl)
        replace K1 := Lib.hid (TB.boxN (g := w3.heap.size) K1.out (.cells #[.slice A3 x3.nodes.length c3, .int .i64 x3.root] 34) rfl)
        have d10 : (w3.alloc (.cells #[.slice A3 x3.nodes.length c3, .int .i64 x3.root] 34)).cell? ⟨w.heap.size, 0, none⟩ = some (.slice Aa ta.nodes.length ca) := K1.out.blk.cell 0
        have d11 : (w3.alloc (.cells #[.slice A3 x3.nodes.length c3, .int .i64 x3.root] 34)).cell? ⟨w.heap.size, 1, none⟩ = some (.int .i64 ta.root) := K1.out.blk.cell 1
        go_wp2_with fail
        clear d10 d11
        refine Calls.mono (head_c HE.out HL.out K1.out.tree (by have := HZ.out; omega) HH.out.1) ?_
        rintro e w4 ⟨A4, c4, x4, rfl, X4, V4, B4⟩
        replace HE := Lib.hid (HE.out.below B4.out)
        replace HL := Lib.hid (HL.out.below B4.out)
        replace K1 := Lib.hid (K1.out.below B4.out)
        replace K3 := Lib.hid (K3.out.below B4.out)
        replace HG := Lib.hid (ge_box (g := w4.heap.size) HG.out HE.out rfl)
        replace HN := Lib.hid (nd_box (g := w4.heap.size) HN.out HL.out rfl)
        have K5 := Lib.hid (TB.newN (g := w4.heap.size) V4.out rfl)
        replace HE := Lib.hid (HE.out.alloc (.cells #[.slice A4 x4.nodes.length c4, .int .i64 x4.root] 34))
        replace HL := Lib.hid (BL.boxN (g := w4.heap.size) HL.out (.cells #[.slice A4 x4.nodes.length c4, .int .i64 x4.root] 34) rfl)
        replace K1 := Lib.hid (TB.boxN (g := w4.heap.size) K1.out (.cells #[.slice A4 x4.nodes.length c4, .int .i64 x4.root] 34) rfl)
        replace K3 := Lib.hid (TB.boxN (g := w4.heap.size) K3.out (.cells #[.slice A4 x4.nodes.length c4, .int .i64 x4.root] 34) rfl)
        have d10 : (w4.alloc (.cells #[.slice A4 x4.nodes.length c4, .int .i64 x4.root] 34)).cell? ⟨w.heap.size, 0, none⟩ = some (.slice Aa ta.nodes.length ca) := K1.out.blk.cell 0
        have d11 : (w4.alloc (.cells #[.slice A4 x4.nodes.length c4, .int .i64 x4.root] 34)).cell? ⟨w.heap.size, 1, none⟩ = some (.int .i64 ta.root) := K1.out.blk.cell 1
        go_wp2_with fail
        clear d10 d11
        refine Calls.mono (tail_c HE.out HL.out K1.out.tree (by have := HZ.out; omega) HH.out.2.1) ?_
        rintro e w5 ⟨A5, c5, x5, rfl, X5, V5, B5⟩
        replace HE := Lib.hid (HE.out.below B5.out)
        replace HL := Lib.hid (HL.out.below B5.out)
        replace K1 := Lib.hid (K1.out.below B5.out)
        replace K3 := Lib.hid (K3.out.below B5.out)
        replace K5 := Lib.hid (K5.out.below B5.out)
        replace HG := Lib.hid (ge_box (g := w5.heap.size) HG.out HE.out rfl)
        replace HN := Lib.hid (nd_box (g := w5.heap.size) HN.out HL.out rfl)
        have K7 := Lib.hid (TB.newN (g := w5.heap.size) V5.out rfl)
        replace HE := Lib.hid (HE.out.alloc (.cells #[.slice A5 x5.nodes.length c5, .int .i64 x5.root] 34))
        replace HL := Lib.hid (BL.boxN (g := w5.heap.size) HL.out (.cells #[.slice A5 x5.nodes.length c5, .int .i64 x5.root] 34) rfl)
        replace K1 := Lib.hid (TB.boxN (g := w5.heap.size) K1.out (.cells #[.slice A5 x5.nodes.length c5, .int .i64 x5.root] 34) rfl)
        replace K3 := Lib.hid (TB.boxN (g := w5.heap.size) K3.out (.cells #[.slice A5 x5.nodes.length c5, .int .i64 x5.root] 34) rfl)
        replace K5 := Lib.hid (TB.boxN (g := w5.heap.size) K5.out (.cells #[.slice A5 x5.nodes.length c5, .int .i64 x5.root] 34) rfl)
        have d50 : (w5.alloc (.cells #[.slice A5 x5.nodes.length c5, .int .i64 x5.root] 34)).cell? ⟨w4.heap.size, 0, none⟩ = some (.slice A4 x4.nodes.length c4) := K5.out.blk.cell 0
        have d51 : (w5.alloc (.cells #[.slice A5 x5.nodes.length c5, .int .i64 x5.root] 34)).cell? ⟨w4.heap.size, 1, none⟩ = some (.int .i64 x4.root) := K5.out.blk.cell 1
        have d70 : (w5.alloc (.cells #[.slice A5 x5.nodes.length c5, .int .i64 x5.root] 34)).cell? ⟨w5.heap.size, 0, none⟩ = some (.slice A5 x5.nodes.length c5) := K7.out.blk.cell 0
        have d71 : (w5.alloc (.cells #[.slice A5 x5.nodes.length c5, .int .i64 x5.root] 34)).cell? ⟨w5.heap.size, 1, none⟩ = some (.int .i64 x5.root) := K7.out.blk.cell 1
        go_wp2_with fail
        clear d50 d51 d70 d71
        have n5 : x4.nodes.length = 0 := by rw [X4.out, HH.out.2.2.1]; rfl
        have n7 : x5.nodes.length = 0 := by rw [X5.out, HH.out.2.2.2]; rfl
        rw [show (wrap64 ((x4.nodes.length : Int) + (x5.nodes.length : Int)) == 0) = true by rw [n5, n7]; simp [wrap64]]
        clear n5 n7
        go_ret
        exact ⟨rfl, HE.out.bel⟩
  · go_wp2_with fail
    refine Calls.mono (awake_c HE.out) ?_
    rintro e w2 ⟨rfl, B2⟩
    replace HE := Lib.hid (HE.out.below B2.out)
    replace HL := Lib.hid (HL.out.below B2.out)
    replace K1 := Lib.hid (K1.out.below B2.out)
    go_wp2_with fail
    go_ret
    exact ⟨rfl, HE.out.bel⟩
end Go.Proofs.YtclfpjfjebheoaaDoor
/- ExprHead: for every input the law answers true and the input reads as it did (the tied card: the listed package variables lie as their text lays them). No other condition. -/
namespace Go.Proofs.YtclfpjfjebheoaaDoor.ExprHead
open Go.ChangeShapes Go.WideShapes Go.ChangeAt Go.RowKit Go.ChangeMaps Go.WideElems

theorem own : ownKnob Tryd.prog.godebug = none := by kernel_rfl
theorem laidOut : laidOutB Tryd.prog = true := by kernel_rfl
theorem laid_data : Rows.exprHeadRow.laid.filter (fun x => x.2.handleName?.isNone) = [("bonsai/tree.kids", Rows.laid_bonsai_tree_kids)] := by rfl
theorem prem_of {W : World} (h : laidMetH Tryd.prog Rows.exprHeadRow.laid W) : KTab W ∧ TogTab W := ⟨ktab_of (rest := []) (laid_data ▸ (laidMetH_iff.1 h).1), tog_of h (List.mem_cons_of_mem _ (List.mem_singleton.2 rfl))⟩

set_option maxRecDepth 8000 in
theorem contract (H : Type) (enc : TypeId × Value → H) (W : World) (base : Nat) (args : Array Value) (ds gs : List (DataW H)) (before : List MemPlace)
    (hval : ∀ (j : Nat) t v, Tryd.f8.params[j]? = some t → args[j]? = some v → Value.okWide Tryd.prog W .any base t v)
    (hW : DataW.Whole enc Tryd.prog Tryd.f8.params.toList Rows.exprHeadSpec.vars false W args.toList ds gs before) (hL : laidMetH Tryd.prog Rows.exprHeadRow.laid W) :
    Calls Tryd.prog 8 args W fun e W' => ∃ v, e = .returned v ∧ Rows.exprHeadSpec.post enc Tryd.prog Tryd.f8 false true false false W args v W' := by
  have hW' := hW
  have hlt : ∀ x ∈ before, x.block < W.heap.size := fun x hx => hW.lt x hx
  obtain ⟨p, q, hA0, hV, rfl, hfz, hnd⟩ := hW
  have hA : DataW.TrodAll enc Tryd.prog W 0 (fun _ => true) true Tryd.f8.params.toList args.toList ds p := hA0
  rw [Tryd.params8] at hA hval
  obtain ⟨v0, vs0, d0, ds0, p0, q0, hargs, rfl, rfl, h0, r0⟩ := trodAll_cons hA
  obtain ⟨rfl, rfl, rfl⟩ := trodAll_nil r0
  obtain rfl : args = #[v0] := by cases args; simp_all
  obtain ⟨rfl, rfl⟩ := trodVars_none hV
  obtain ⟨t0, w0⟩ := open_tree (hval 0 34 v0 rfl rfl) h0
  clear hA0
  refine (lexprhead_any t0 v0 W w0 (prem_of hL).1 (prem_of hL).2).mono fun e W' ⟨he, hb⟩ => ?_
  subst he
  exact ⟨_, rfl, post_true laidOut (by kernel_rfl) (by kernel_rfl) Tryd.underlying4 rfl rfl rfl rfl hW' hb⟩

noncomputable def laidWorld (os : Os) : World :=
  (setTab (setTab (World.holding Tryd.prog os ⟨#[], #[], []⟩) 1 (kidsTab.map (Value.int .i64))) 2 (togFns.map fun f => Value.func (.func f) #[] #[]))
theorem laid_met (os : Os) : laidMetH Tryd.prog Rows.exprHeadRow.laid ((laidWorld os).forCall (fun _ _ => 0) ⟨#[], #[.agg #[.slice none 0 0, .int .i64 0]], []⟩).memory :=
  laidMetH_of_parts3 (fuel := 8) (laidMet_of_run' 8 (by kernel_rfl) (by kernel_rfl)) (by kernel_rfl) (by kernel_rfl)
theorem reads (os : Os) {H : Type} (enc : TypeId × Value → H) : ∃ places, DataW.whole enc Tryd.prog ((laidWorld os).forCall (fun _ _ => 0) ⟨#[], #[.agg #[.slice none 0 0, .int .i64 0]], []⟩).memory Tryd.f8.params.toList Rows.exprHeadSpec.vars false #[Value.agg #[.slice none 0 0, .int .i64 0]].toList 8 = some ([.agg [.nil, .lit (.int .i64 0)]], [], places) :=
  ⟨[], by kernel_rfl⟩

set_option maxRecDepth 100000 in
theorem lifted (os : Os) (started : os.Started) (H : Type) (enc : TypeId × Value → H) (F : Stop.Interp) :
    ReturnsInHanded {} Tryd.checked os 8 .any ((OpenSpec.ofChange Rows.exprHeadSpec).preRow enc Tryd.prog Tryd.f8 Rows.exprHeadRow.domain false Rows.exprHeadRow.laid) (((OpenSpec.ofChange Rows.exprHeadSpec).at F).post enc Tryd.prog Tryd.f8 false true false false) := by
  obtain ⟨places, hx⟩ := reads os enc
  refine returnsInHanded_of_row (C := Tryd.checked) (s := OpenSpec.ofChange Rows.exprHeadSpec) own started (by kernel_rfl) Tryd.func8
    (witness_row_at (enc := enc) (C := Tryd.checked) false (laidWorld os) #[.agg #[.slice none 0 0, .int .i64 0]] rfl (by kernel_rfl) (by kernel_rfl) (by kernel_rfl)
      (OpenSpec.preRow_of_cond 8 hx (by kernel_rfl) (fun k hk => by cases hk) (by kernel_rfl) (laid_met os))) ?_
  intro W base args ds gs before hval hW _ _ _ hL _ _
  exact contract H enc W base args ds gs before hval hW hL

theorem said : Rows.ExprHeadSaid :=
  OpenClaim.holds_of_cond 8 Tryd.f8 rfl rfl rfl rfl rfl rfl rfl ⟨rfl, rfl, rfl, rfl, rfl⟩ rfl rfl rfl rfl rfl (by kernel_rfl) Tryd.func8 (by kernel_rfl)
    (of_decide_eq_true (by kernel_rfl)) (by unfold Func.isWrapper; first | (rw [if_pos (by decide +kernel)]; kernel_rfl) | (rw [if_neg (by decide +kernel)]; exact ⟨rfl, rfl⟩))
    (fun os started H enc _ F => by rw [OpenClaim.pre_eq_preRow]; exact lifted os started H enc F)

theorem plain (f : FuncId) (fn : Func) (hf : Tryd.pinned.checked.prog.funcNamed "bonsai/bonsailaw05.ExprHead" = some f) (hfn : Tryd.pinned.checked.prog.funcs[f]? = some fn) :
    false = Tryd.pinned.checked.prog.looks [] ∧ ∀ (j : Nat) t, fn.params[j]? = some t → Tryd.pinned.checked.prog.wantsStandIn t = false := by
  obtain rfl : f = 8 := Option.some.inj ((show Tryd.prog.funcNamed "bonsai/bonsailaw05.ExprHead" = some 8 by kernel_rfl).symm.trans hf) |>.symm
  obtain rfl : fn = Tryd.f8 := (Option.some.inj (Tryd.func8.symm.trans hfn)).symm
  refine ⟨by kernel_rfl, fun j t ht => ?_⟩
  have hall : Tryd.f8.params.toList.all (fun t => Tryd.prog.wantsStandIn t == false) = true := by kernel_rfl
  have := List.all_eq_true.1 hall t (Array.mem_toList_iff.2 (Array.mem_of_getElem? ht))
  exact eq_of_beq this

/-- THE CARD. -/
theorem card : Rows.ExprHeadCardSaid :=
  Claim7.holds_tied_plain_at .later [] _ _ _ _ said (fun _ h => by cases h) (by kernel_rfl) (fun _ h => by cases h) exprHead_row_tie rfl ⟨rfl, rfl⟩ (by kernel_rfl) rfl plain (by kernel_rfl)
end Go.Proofs.YtclfpjfjebheoaaDoor.ExprHead

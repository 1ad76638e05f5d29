/- The parts of a proof, merged: Ex24 Ex26 Ex28 RfN RfA RfB RfC RfE RfF RfG Ex30 Ex31 Ex32 Ex33 -/
import Derived.Test.YtclfpjfjebheoaaDoorP4
import Derived.IntWalk
import Derived.Lib.Bytealg
import Derived.Outline
import Derived.Deep.CutBlock
import Derived.Deep.Cut
/- Heads, tails, and what is made, in plain Lean; and the calls that laws make of them. -/
namespace Go.Proofs.YtclfpjfjebheoaaDoor
set_option linter.unusedSimpArgs false
open Go.RowKit
open Classical

theorem openK_id {k z : Int} {L : List T} (h : ∀ x ∈ L, x.d.kind ≠ k ∧ x.d.kind ≠ z) : openK k z L = L := by
  induction L with
  | nil => rfl
  | cons a L ih =>
    have ha := h a (by simp)
    rw [openK_cons, ih fun x hx => h x (by simp [hx])]
    show (List.flatMap _ [a]) ++ L = _
    simp [ha.1, ha.2]
theorem map_nf_id {L : List T} (hf : ∀ x ∈ L, FitT x) (hn : ∀ x ∈ L, NT x) : L.map nf = L := by
  conv => rhs; rw [← List.map_id L]
  exact List.map_congr_left fun x hx => nf_id x (hf x hx) (hn x hx)
theorem S_kids {u : T} (hf : FitT u) (hn : NT u) (h4 : u.d.kind = 4) : S u.kids = u := by
  cases hn with
  | node d ks hk h4' _ =>
    simp only [T.kids, T.d] at *
    obtain ⟨rfl, h2⟩ := fits_four hf.fit h4
    unfold S
    rw [show ks.map nf = ks from map_nf_id (fun x hx => hf.kids x hx) hk, openK_id (h4' rfl)]
    exact coll_many _ _ (by simp only [T.kids] at h2; omega)
theorem S_one {u : T} (hf : FitT u) (hn : NT u) (h4 : u.d.kind ≠ 4) (h0 : u.d.kind ≠ 0) : S [u] = u := by
  unfold S
  rw [List.map_cons, List.map_nil, nf_id u hf hn, openK_id (by simp [h4, h0])]
  rfl
theorem NT.kids4 {u : T} (hn : NT u) (h4 : u.d.kind = 4) : ∀ k ∈ u.kids, k.d.kind ≠ 4 ∧ k.d.kind ≠ 0 := by
  cases hn with
  | node d ks _ h _ => exact h h4
/-- A tree with a head: its parts. -/
theorem parts_some {t : Tr} (hr : RightT t) (h0 : (nf (treeOf t)).d.kind ≠ 0) :
    ∃ k ks, partsL t = (k :: ks).map flatT ∧ (∀ x ∈ k :: ks, FitT x ∧ NT x ∧ x.d.kind ≠ 4 ∧ x.d.kind ≠ 0) ∧ S (k :: ks) = nf (treeOf t) ∧ sizes (k :: ks) ≤ t.nodes.length := by
  have hf := nf_fit _ hr.fitT
  have hn := nf_nt (treeOf t)
  have hs := nf_size (treeOf t)
  rw [hr.size] at hs
  unfold partsL
  rw [if_pos hr]
  by_cases h4 : (nf (treeOf t)).d.kind = 4
  · rw [if_pos h4]
    have h2 := (fits_four hf.fit h4).2
    have hS := S_kids hf hn h4
    have h3 := size_kids (nf (treeOf t))
    match hk : (nf (treeOf t)).kids, h2 with
    | [], h2 => simp at h2
    | k :: ks, _ =>
      rw [hk] at hS h3
      exact ⟨k, ks, rfl, fun x hx => ⟨hf.kids x (hk ▸ hx), hn.kids x (hk ▸ hx), hn.kids4 h4 x (hk ▸ hx)⟩, hS, by omega⟩
  · rw [if_neg h4, if_neg h0]
    refine ⟨nf (treeOf t), [], ?_, fun x hx => ?_, S_one hf hn h4 h0, by simp [sizes]; omega⟩
    · unfold nfTr; rw [if_pos hr]; rfl
    · simp at hx; subst hx; exact ⟨hf, hn, h4, h0⟩
theorem parts_none {t : Tr} (h : RightT t → (nf (treeOf t)).d.kind = 0) : partsL t = [] := by
  unfold partsL
  by_cases hr : RightT t
  · rw [if_pos hr, if_neg (by rw [h hr]; decide), if_pos (h hr)]
  · rw [if_neg hr]
theorem head_none {t : Tr} (h : RightT t → (nf (treeOf t)).d.kind = 0) : headB t = false ∧ tailB t = false ∧ headT t = zeroT ∧ tailT t = zeroT := by
  have hp := parts_none h
  unfold headB tailB headT tailT
  rw [hp]
  simp
theorem head_some {t : Tr} (hr : RightT t) (h0 : (nf (treeOf t)).d.kind ≠ 0) : headB t = true ∧ tailB t = true ∧ ∃ k u, headT t = flatT k ∧ tailT t = flatT u ∧ FitT k ∧ NT k ∧ k.d.kind ≠ 4 ∧ k.d.kind ≠ 0 ∧ FitT u ∧ NT u ∧
    ofET seqD [headT t, tailT t] = nfTr t ∧ k.size ≤ t.nodes.length ∧ u.size ≤ 1 + t.nodes.length := by
  obtain ⟨k, ks, hp, hx, hS, hz⟩ := parts_some hr h0
  have hks : ∀ x ∈ ks, FitT x := fun x hm => (hx x (by simp [hm])).1
  have hfl := seq_flat hks
  have hk := hx k (by simp)
  have e1 : headB t = true := by unfold headB; rw [hp]; exact decide_eq_true (by simp)
  have e2 : headT t = flatT k := by unfold headT; rw [hp]; rfl
  have e3 : tailB t = true := by
    unfold tailB; rw [hp]
    simp only [List.map_cons, List.tail_cons]
    rw [hfl.2]; simp
  have e4 : tailT t = flatT (S ks) := by
    unfold tailT; rw [hp]
    simp only [List.map_cons, List.tail_cons]
    rw [hfl.1]; simp
  refine ⟨e1, e3, k, S ks, e2, e4, hk.1, hk.2.1, hk.2.2.1, hk.2.2.2, S_fit hks, S_nt ks, ?_, ?_, ?_⟩
  · have hr1 : ∀ x ∈ ks.map flatT, RightT x := flats_right hks
    rw [e2, e4, ← hfl.1, show [flatT k, ofET seqD (ks.map flatT)] = [flatT k] ++ [ofET seqD (ks.map flatT)] from rfl, seq_right_ (by simp [right_flat hk.1]) hr1]
    have := seq_flat (L := k :: ks) fun x hm => (hx x hm).1
    rw [show [flatT k] ++ ks.map flatT = (k :: ks).map flatT from rfl, this.1, hS]
    unfold nfTr; rw [if_pos hr]
  · simp only [sizes] at hz; omega
  · have := S_size ks
    simp only [sizes] at hz; omega
theorem nfTr_flat {u : T} (hf : FitT u) (hn : NT u) : nfTr (flatT u) = flatT u := by
  unfold nfTr; rw [if_pos (right_flat hf), treeOf_flat, nf_id u hf hn]
theorem same_refl {x : Tr} (h : RightT x) : SameT x x := ⟨h, h, rfl⟩
theorem normal_flat {u : T} (hf : FitT u) (hn : NT u) : decide (RightT (flatT u) ∧ SameT (nfTr (flatT u)) (flatT u)) = true :=
  decide_eq_true ⟨right_flat hf, by rw [nfTr_flat hf hn]; exact same_refl (right_flat hf)⟩
/-- What a call leaves that gives a tree and whether it could. -/
def TP (y : Tr) (b : Bool) (bs : List Nat) (w : World) (e : Ending) (w' : World) : Prop :=
  ∃ A c x, e = .returned (.tuple #[.agg #[.slice A x.nodes.length c, .int .i64 x.root], .bool b]) ∧ Hid (x = y) ∧ Hid (RT w' bs A c x) ∧ Hid (Below w.heap.size w w')
theorem tp {y : Tr} {b b' : Bool} {bs : List Nat} {w : World} {e : Ending} {w' : World} (hl : BL w bs) (h : ∃ u, e = .returned (.tuple #[u, .bool b']) ∧ XTree w' (fun b => w.heap.size ≤ b) u y ∧ Below w.heap.size w w') (hb : b' = b) : TP y b bs w e w' := by
  obtain ⟨u, rfl, hu, hb'⟩ := h
  obtain ⟨A, c, rfl⟩ := hu.agg
  exact ⟨A, c, _, by rw [hb], Lib.hid rfl, Lib.hid (RT.of_x hu hl), Lib.hid hb'⟩
section
variable {w0 w : World} {bs : List Nat} {A A2 : Option Addr} {c c2 g : Nat} {x y : Tr} {b : Bool}
theorem make_c (hE : Ev w0 w) (hl : BL w bs) (h1 : RT w bs A c x) (hs : x.nodes.length ≤ 100000) (hb : decide (RightT x) = b) : Calls Tryd.prog 23 #[.agg #[.slice A x.nodes.length c, .int .i64 x.root]] w (TP (nfTr x) b bs w) :=
  (Make_g x _ _ w (h1.givenE hE hs)).mono fun e w' h => tp hl h hb
theorem head_c (hE : Ev w0 w) (hl : BL w bs) (h1 : RT w bs A c x) (hs : x.nodes.length ≤ 100000) (hb : headB x = b) : Calls Tryd.prog 39 #[.agg #[.slice A x.nodes.length c, .int .i64 x.root]] w (TP (headT x) b bs w) :=
  (Head_g (h1.givenE hE hs)).mono fun e w' h => tp hl h hb
theorem tail_c (hE : Ev w0 w) (hl : BL w bs) (h1 : RT w bs A c x) (hs : x.nodes.length ≤ 100000) (hb : tailB x = b) : Calls Tryd.prog 40 #[.agg #[.slice A x.nodes.length c, .int .i64 x.root]] w (TP (tailT x) b bs w) :=
  (Tail_g (h1.givenE hE hs)).mono fun e w' h => tp hl h hb
theorem normal_c (hE : Ev w0 w) (h1 : RT w bs A c x) (hs : x.nodes.length ≤ 100000) (hb : decide (RightT x ∧ SameT (nfTr x) x) = b) : Calls Tryd.prog 42 #[.agg #[.slice A x.nodes.length c, .int .i64 x.root]] w fun e w' => e = .returned (.bool b) ∧ Hid (Below w.heap.size w w') :=
  (Normal_g (h1.givenE hE hs)).mono fun e w' ⟨he, h⟩ => ⟨by rw [he, hb], Lib.hid h⟩
theorem root_c (hE : Ev w0 w) (h1 : RT w bs A c x) (hs : x.nodes.length ≤ 500000) : Calls Tryd.prog 41 #[.agg #[.slice A x.nodes.length c, .int .i64 x.root]] w fun e w' =>
    ∃ k a1 a2 a3 a4 a5 a6 a7 a8, e = .returned (.agg #[.int .u8 k, a1, a2, a3, a4, a5, a6, a7, a8]) ∧ Hid (k = (rootOf x).d.kind) ∧ Hid (Below w.heap.size w w') :=
  (Root_g (h1.given hE hs)).mono fun e w' ⟨⟨N, he, hN⟩, h⟩ => ⟨N.d.kind, _, _, _, _, _, _, _, _, he, Lib.hid (by rw [hN]), Lib.hid h⟩
end
end Go.Proofs.YtclfpjfjebheoaaDoor
/- What is made, in plain Lean; calls over a row of trees that was handed in. -/
namespace Go.Proofs.YtclfpjfjebheoaaDoor
set_option linter.unusedSimpArgs false
open Go.RowKit
open Classical

/-- What Make, Seq, Choice leave: normal, clean; or nothing. -/
structure Made (x : Tr) (b : Bool) : Prop where
  yes : b = true → ∃ n, x = flatT n ∧ FitT n ∧ NT n
  no : b = false → x.nodes.length = 0
theorem made_make (t : Tr) : Made (nfTr t) (decide (RightT t)) := by
  unfold nfTr
  by_cases h : RightT t
  · rw [if_pos h, decide_eq_true h]
    exact ⟨fun _ => ⟨_, rfl, nf_fit _ h.fitT, nf_nt _⟩, fun h => by cases h⟩
  · rw [if_neg h, decide_eq_false h]
    exact ⟨fun h => (by cases h), fun _ => rfl⟩
theorem made_seq (ts : List Tr) : Made (ofET seqD ts) (ofEB seqD ts) := by
  by_cases h : ∀ t ∈ ts, RightT t
  · rw [ofET_seq h, ofEB_seq, decide_eq_true h]
    exact ⟨fun _ => ⟨_, rfl, S_fit (rights_treeOf h), S_nt _⟩, fun h => by cases h⟩
  · rw [ofEB_seq, decide_eq_false h]
    unfold ofET
    rw [if_neg fun hh => h hh.1]
    exact ⟨fun h => (by cases h), fun _ => rfl⟩
theorem made_choice (ts : List Tr) : Made (ofET choiceD ts) (ofEB choiceD ts) := by
  by_cases h : ∀ t ∈ ts, RightT t
  · rw [ofET_choice h, ofEB_choice, decide_eq_true h]
    exact ⟨fun _ => ⟨_, rfl, C_fit (rights_treeOf h), C_nt _⟩, fun h => by cases h⟩
  · rw [ofEB_choice, decide_eq_false h]
    unfold ofET
    rw [if_neg fun hh => h hh.1]
    exact ⟨fun h => (by cases h), fun _ => rfl⟩
theorem seq_len' (ts : List Tr) : (ofET seqD ts).nodes.length ≤ 1 + (ts.map (·.nodes.length)).sum := by
  by_cases h : ∀ t ∈ ts, RightT t
  · exact seq_len h
  · unfold ofET
    rw [if_neg fun hh => h hh.1]
    exact Nat.zero_le _
theorem choice_len' (ts : List Tr) : (ofET choiceD ts).nodes.length ≤ 1 + (ts.map (·.nodes.length)).sum := by
  by_cases h : ∀ t ∈ ts, RightT t
  · exact choice_len h
  · unfold ofET
    rw [if_neg fun hh => h hh.1]
    exact Nat.zero_le _
theorem Made.right {x : Tr} (h : Made x true) : RightT x := by
  obtain ⟨n, rfl, hf, hn⟩ := h.yes rfl
  exact right_flat hf
theorem Made.nf {x : Tr} (h : Made x true) : nfTr x = x := by
  obtain ⟨n, rfl, hf, hn⟩ := h.yes rfl
  exact nfTr_flat hf hn
theorem Made.normal {x : Tr} (h : Made x true) : decide (RightT x ∧ SameT (nfTr x) x) = true := by
  obtain ⟨n, rfl, hf, hn⟩ := h.yes rfl
  exact normal_flat hf hn
theorem Made.clean {x : Tr} (h : Made x true) : cleanOf x = x := by
  obtain ⟨n, rfl, hf, hn⟩ := h.yes rfl
  unfold cleanOf
  rw [if_pos (right_flat hf), treeOf_flat]
section
variable {w0 w : World} {bs : List Nat} {A A2 : Option Addr} {c c2 g : Nat} {x y : Tr} {b : Bool} {v : Value} {ts : List Tr}
theorem listE (hE : Ev w0 w) (h : RTrees w0 (fun b => b < w0.heap.size) v ts) (hs : (ts.map (·.nodes.length)).sum ≤ 100000) (hf : ts.length ≤ 100000) : GivenEL ts v (fun b => b < w0.heap.size) w :=
  ⟨h.below hE.bel (fun _ h => h), fun b hb => Nat.lt_of_lt_of_le hb hE.bel.size, hE.ktab, hE.tog, hs, hf⟩
theorem seqL_c (hE : Ev w0 w) (hl : BL w bs) (h : RTrees w0 (fun b => b < w0.heap.size) v ts) (hs : (ts.map (·.nodes.length)).sum ≤ 100000) (hf : ts.length ≤ 100000) (hb : ofEB seqD ts = b) : Calls Tryd.prog 20 #[v] w (TP (ofET seqD ts) b bs w) :=
  (Seq_g (listE hE h hs hf)).mono fun e w' h => tp hl h hb
theorem choiceL_c (hE : Ev w0 w) (hl : BL w bs) (h : RTrees w0 (fun b => b < w0.heap.size) v ts) (hs : (ts.map (·.nodes.length)).sum ≤ 100000) (hf : ts.length ≤ 100000) (hb : ofEB choiceD ts = b) : Calls Tryd.prog 22 #[v] w (TP (ofET choiceD ts) b bs w) :=
  (Choice_g (listE hE h hs hf)).mono fun e w' h => tp hl h hb
theorem largeL_c (hE : Ev w0 w) (h : RTrees w0 (fun b => b < w0.heap.size) v ts) : Calls Tryd.prog 18 #[v] w (GPost ts w) :=
  (large_g (h.below hE.bel (fun _ h => h)) (fun b hb => Nat.lt_of_lt_of_le hb hE.bel.size)).mono fun e w' ⟨r, he, hs, hb⟩ => ⟨r, he, Lib.hid hs, Lib.hid hb⟩
theorem clean_c (hE : Ev w0 w) (hl : BL w bs) (h1 : RT w bs A c x) (hs : x.nodes.length ≤ 100000) : Calls Tryd.prog 44 #[.agg #[.slice A x.nodes.length c, .int .i64 x.root]] w (UPost (cleanOf x) bs w) := by
  refine (Clean_g (h1.given hE (by omega))).mono fun e w' ⟨u, he, hu, hb⟩ => upost (Below.refl _ _) hl ⟨u, he, ?_, hb⟩
  refine XTree.of_own hu ?_ ?_ <;> unfold cleanOf <;> split
  · rename_i hr
    have := (flat_root (treeOf x) (by rw [hr.size]; omega)).1; omega
  · simp [zeroT]
  · rename_i hr
    have := (flat_root (treeOf x) (by rw [hr.size]; omega)).2; omega
  · simp [zeroT]
theorem rightb_c (hE : Ev w0 w) (h1 : RT w bs A c x) (hs : x.nodes.length ≤ 500000) (hb : decide (RightT x) = b) : Calls Tryd.prog 16 #[.agg #[.slice A x.nodes.length c, .int .i64 x.root]] w fun e w' => e = .returned (.bool b) ∧ Hid (Below w.heap.size w w') :=
  (right_c hE h1 hs).mono fun e w' ⟨he, h⟩ => ⟨by rw [he, hb], h⟩
theorem same_c (hE : Ev w0 w) (h1 : RT w bs A c x) (h2 : RT w bs A2 c2 y) (hs : x.nodes.length ≤ 500000) (hs2 : y.nodes.length ≤ 500000) (hb : decide (SameT x y) = b) :
    Calls Tryd.prog 43 #[.agg #[.slice A x.nodes.length c, .int .i64 x.root], .agg #[.slice A2 y.nodes.length c2, .int .i64 y.root]] w fun e w' => e = .returned (.bool b) ∧ Hid (Below w.heap.size w w') :=
  (Same_g (h1.given hE hs) (h2.given hE hs2)).mono fun e w' ⟨he, h⟩ => ⟨by rw [he, hb], Lib.hid h⟩
end
/-- What lies in a row of three made trees, each with whether it could be made. -/
structure Row3 (w : World) (bs : List Nat) (g k : Nat) (A : Option Addr) (c : Nat) (x : Tr) (b : Bool) : Prop where
  c0 : w.cell? ⟨g, k * 3, none⟩ = some (.slice A x.nodes.length c)
  c1 : w.cell? ⟨g, k * 3 + 1, none⟩ = some (.int .i64 x.root)
  c2 : w.cell? ⟨g, k * 3 + 2, none⟩ = some (.bool b)
  lt : g < w.heap.size
  tree : RT w bs A c x
  made : Made x b
  size : x.nodes.length ≤ 1000
theorem Row3.below {w w' : World} {bs : List Nat} {g k : Nat} {A : Option Addr} {c : Nat} {x : Tr} {b : Bool} (h : Row3 w bs g k A c x b) (hb : Below w.heap.size w w') : Row3 w' bs g k A c x b :=
  ⟨(hb.cell (p := ⟨g, k * 3, none⟩) h.lt).trans h.c0, (hb.cell (p := ⟨g, k * 3 + 1, none⟩) h.lt).trans h.c1, (hb.cell (p := ⟨g, k * 3 + 2, none⟩) h.lt).trans h.c2, Nat.lt_of_lt_of_le h.lt hb.size, h.tree.below hb, h.made, h.size⟩
theorem rows3 {w' : World} {bs : List Nat} {g : Nat} {ty : TypeId} {A1 A2 A3 : Option Addr} {c1 c2 c3 : Nat} {x y z : Tr} {b1 b2 b3 : Bool} (hB : Blk w' g ty #[.slice A1 x.nodes.length c1, .int .i64 x.root, .bool b1, .slice A2 y.nodes.length c2, .int .i64 y.root, .bool b2, .slice A3 z.nodes.length c3, .int .i64 z.root, .bool b3])
    (h1 : RT w' bs A1 c1 x) (h2 : RT w' bs A2 c2 y) (h3 : RT w' bs A3 c3 z) (m1 : Made x b1) (m2 : Made y b2) (m3 : Made z b3) (s1 : x.nodes.length ≤ 1000) (s2 : y.nodes.length ≤ 1000) (s3 : z.nodes.length ≤ 1000) :
    ∀ k, k < 3 → ∃ A c x b, Row3 w' bs g k A c x b := by
  intro k hk
  match k, hk with
  | 0, _ => exact ⟨A1, c1, x, b1, hB.cell 0, hB.cell 1, hB.cell 2, hB.lt, h1, m1, s1⟩
  | 1, _ => exact ⟨A2, c2, y, b2, hB.cell 3, hB.cell 4, hB.cell 5, hB.lt, h2, m2, s2⟩
  | 2, _ => exact ⟨A3, c3, z, b3, hB.cell 6, hB.cell 7, hB.cell 8, hB.lt, h3, m3, s3⟩
end Go.Proofs.YtclfpjfjebheoaaDoor
/- Parts and ways, in plain Lean; two rows of trees of a law's own, side by side. -/
namespace Go.Proofs.YtclfpjfjebheoaaDoor
set_option linter.unusedSimpArgs false
open Go.RowKit
open Classical

theorem partsL_open {t : Tr} (h : RightT t) : partsL t = (openK 4 0 [nf (treeOf t)]).map flatT := by
  unfold partsL nfTr
  rw [if_pos h]
  by_cases h4 : (nf (treeOf t)).d.kind = 4
  · simp [openK, h4]
  · by_cases h0 : (nf (treeOf t)).d.kind = 0
    · simp [openK, h0]
    · simp [openK, h4, h0, h]
theorem waysL_open {t : Tr} (h : RightT t) : openedL t 5 = (openK 5 5 [nf (treeOf t)]).map flatT := by
  unfold openedL nfTr
  rw [if_pos h]
  by_cases h4 : (nf (treeOf t)).d.kind = 5
  · simp [openK, h4]
  · simp [openK, h4, h]
theorem flat_parts {ts : List Tr} (h : ∀ t ∈ ts, RightT t) : ts.flatMap partsL = (openK 4 0 ((ts.map treeOf).map nf)).map flatT := by
  induction ts with
  | nil => rfl
  | cons t ts ih =>
    rw [List.flatMap_cons, ih fun x hx => h x (by simp [hx]), partsL_open (h t (by simp)), List.map_cons, List.map_cons, openK_cons 4 0 (nf (treeOf t)) (List.map nf (List.map treeOf ts)), List.map_append]
theorem flat_ways {ts : List Tr} (h : ∀ t ∈ ts, RightT t) : ts.flatMap (openedL · 5) = (openK 5 5 ((ts.map treeOf).map nf)).map flatT := by
  induction ts with
  | nil => rfl
  | cons t ts ih =>
    rw [List.flatMap_cons, ih fun x hx => h x (by simp [hx]), waysL_open (h t (by simp)), List.map_cons, List.map_cons, openK_cons 5 5 (nf (treeOf t)) (List.map nf (List.map treeOf ts)), List.map_append]
theorem parts_of_seq {ts : List Tr} (h : ∀ t ∈ ts, RightT t) : partsL (ofET seqD ts) = ts.flatMap partsL := by
  rw [partsL_open (seq_right h), seq_treeOf h, open_S (rights_treeOf h), flat_parts h]
theorem ways_of_choice {ts : List Tr} (h : ∀ t ∈ ts, RightT t) (hn : ts ≠ []) : openedL (ofET choiceD ts) 5 = ts.flatMap (openedL · 5) := by
  rw [waysL_open (choice_right h), choice_treeOf h, open_C (rights_treeOf h) (by simpa using hn), flat_ways h]
theorem S_open {u : T} (hf : FitT u) (hn : NT u) : S (openK 4 0 [u]) = u := by
  by_cases h4 : u.d.kind = 4
  · rw [show openK 4 0 [u] = u.kids by simp [openK, h4]]; exact S_kids hf hn h4
  · by_cases h0 : u.d.kind = 0
    · rw [show openK 4 0 [u] = [] by simp [openK, h0]]
      obtain ⟨h1, h2⟩ := fits_zero hf.fit h0
      cases u with
      | node d ks =>
        simp only [T.d, T.kids] at h1 h2
        have : ks = [] := List.eq_nil_of_length_eq_zero (by omega)
        subst this; subst h1; rfl
    · rw [show openK 4 0 [u] = [u] by simp [openK, h4, h0]]; exact S_one hf hn h4 h0
theorem C_open {u : T} (hf : FitT u) (hn : NT u) : C (openK 5 5 [u]) = u := by
  by_cases h4 : u.d.kind = 5
  · rw [show openK 5 5 [u] = u.kids by simp [openK, h4]]
    cases hn with
    | node d ks hk _ h5 =>
      simp only [T.kids, T.d] at *
      obtain ⟨rfl, h2⟩ := fits_five hf.fit h4
      unfold C
      rw [show ks.map nf = ks from map_nf_id (fun x hx => hf.kids x hx) hk, openK_id (fun x hx => ⟨h5 rfl x hx, h5 rfl x hx⟩)]
      exact coll_many _ _ (by simp only [T.kids] at h2; omega)
  · rw [show openK 5 5 [u] = [u] by simp [openK, h4]]
    unfold C
    rw [List.map_cons, List.map_nil, nf_id u hf hn, openK_id (by simp [h4])]
    rfl
theorem open_fit1 {k z : Int} {u : T} (hf : FitT u) : ∀ x ∈ openK k z [u], FitT x := open_fit (by simp [hf])
theorem parts_back {t : Tr} (h : RightT t) : ofEB seqD (partsL t) = true ∧ ofET seqD (partsL t) = nfTr t := by
  have hf := nf_fit _ h.fitT
  have := seq_flat (L := openK 4 0 [nf (treeOf t)]) (open_fit1 hf)
  rw [partsL_open h]
  exact ⟨this.2, by rw [this.1, S_open hf (nf_nt _)]; unfold nfTr; rw [if_pos h]⟩
theorem ways_back {t : Tr} (h : RightT t) : ofEB choiceD (openedL t 5) = true ∧ ofET choiceD (openedL t 5) = nfTr t := by
  have hf := nf_fit _ h.fitT
  have := choice_flat (L := openK 5 5 [nf (treeOf t)]) (open_fit1 hf)
  rw [waysL_open h]
  exact ⟨this.2, by rw [this.1, C_open hf (nf_nt _)]; unfold nfTr; rw [if_pos h]⟩
theorem sum_flats (L : List T) : ((L.map flatT).map (·.nodes.length)).sum = sizes L := by
  induction L with
  | nil => rfl
  | cons a L ih => simp only [List.map_cons, List.sum_cons, sizes, ih, flatT_len]
theorem ways_sum {t : Tr} (h : RightT t) : ((openedL t 5).map (·.nodes.length)).sum ≤ t.nodes.length ∧ (openedL t 5).length ≤ t.nodes.length := by
  rw [waysL_open h, sum_flats, List.length_map]
  have h1 := sizes_open 5 5 [nf (treeOf t)]
  have h2 := nf_size (treeOf t)
  rw [h.size] at h2
  have h3 := sizes_len (openK 5 5 [nf (treeOf t)])
  simp only [sizes] at h1
  exact ⟨by omega, by omega⟩
/-! ### Two rows -/
theorem OL.frame' {w w' : World} {base : Nat} {X Y : Nat → Prop} {v : Value} {ts : List Tr} {r : Option Nat} (h : OL w base X v ts) (hg : w.grownBy w' r) (hv : v.ownBlock = none ∨ v.ownBlock ≠ r) (hX : ∀ b, X b → b < w.heap.size → some b ≠ r ∧ Y b) : OL w' base Y v ts := by
  obtain ⟨nvs, hl, hr, hn⟩ := h
  exact ⟨nvs, hl, hr.kept hg hv, fun j t nv h1 h2 => ⟨((hn j t nv h1 h2).1.grown hg fun b h => ⟨h.2.1, fun e => (hX b h.1 h.2.1).1 e.symm⟩).more fun b h => ⟨(hX b h.1 h.2.1).2, Nat.lt_of_lt_of_le h.2.1 hg.size, h.2.2.1, h.2.2.2.grown hg h.2.1 (hX b h.1 h.2.1).1⟩, (hn j t nv h1 h2).2⟩⟩
structure PR (w0 w : World) (a b : Value) (P W : List Tr) : Prop where
  p : OL w w0.heap.size (fun x => b.ownBlock ≠ some x) a P
  q : OL w w0.heap.size (fun x => a.ownBlock ≠ some x) b W
  ne : ∀ g, a.ownBlock = some g → b.ownBlock ≠ some g
theorem PR.below {w0 w w' : World} {a b : Value} {P W : List Tr} (h : PR w0 w a b P W) (hb : Below w.heap.size w w') : PR w0 w' a b P W := ⟨h.p.below hb, h.q.below hb, h.ne⟩
theorem PR.swap {w0 w : World} {a b : Value} {P W : List Tr} (h : PR w0 w a b P W) : PR w0 w b a W P := ⟨h.q, h.p, fun g hg ha => h.ne g ha hg⟩
theorem PR.nil (w0 w : World) : PR w0 w (.slice none 0 0) (.slice none 0 0) [] [] := ⟨OL.nil_ _ _ _, OL.nil_ _ _ _, fun g hg => by simp [Value.ownBlock] at hg⟩
/-- The one row grows. -/
theorem PR.push {w0 w w' : World} {a a' b : Value} {P W us : List Tr} {nvs mvs : List Value} {S : Nat → Prop} (h : PR w0 w a b P W) (hl : nvs.length = P.length)
    (hn : ∀ (j : Nat) (t : Tr) (nv : Value), P[j]? = some t → nvs[j]? = some nv → RNodes w (fun x => b.ownBlock ≠ some x ∧ x < w.heap.size ∧ a.ownBlock ≠ some x ∧ Soft w x) nv t.nodes ∧ -9223372036854775808 ≤ t.root ∧ t.root ≤ 9223372036854775807)
    (hl2 : mvs.length = us.length) (hn2 : ∀ (j : Nat) (t : Tr) (nv : Value), us[j]? = some t → mvs[j]? = some nv → RNodes w S nv t.nodes ∧ -9223372036854775808 ≤ t.root ∧ t.root ≤ 9223372036854775807)
    (hS : ∀ x, S x → b.ownBlock ≠ some x ∧ x < w.heap.size ∧ a.ownBlock ≠ some x ∧ Soft w x)
    (hr : w'.ownsRow w0.heap.size 34 2 a' (P.length + us.length) (treesCells P nvs ++ treesCells us mvs)) (hg : w.grownBy w' a.ownBlock) (hat : a'.ownBlock = a.ownBlock ∨ a'.ownBlock = some w.heap.size) : PR w0 w' a' b (P ++ us) W := by
  have hat' : a'.ownBlock = a.ownBlock ∨ ∀ g, a'.ownBlock = some g → w.heap.size ≤ g := by
    rcases hat with h | h
    · exact .inl h
    · exact .inr fun g hg => by rw [h] at hg; injection hg; omega
  refine ⟨OL.append hl hn hl2 hn2 hS hr hg hat', ?_, fun g hg' e => ?_⟩
  · refine OL.frame' h.q hg ?_ fun x hx hlt => ⟨fun e => hx e.symm, fun e => ?_⟩
    · cases hbo : b.ownBlock with
      | none => exact .inl rfl
      | some g => exact .inr fun e => h.ne g e.symm hbo
    · rcases hat with h1 | h1
      · exact hx (h1 ▸ e)
      · rw [h1] at e; injection e; omega
  · rcases hat with h1 | h1
    · exact h.ne g (h1 ▸ hg') e
    · rw [h1] at hg'; injection hg' with hg'; have := (h.q.lt e).2; omega
/-- A row that was handed back: its cells. -/
theorem RTrees.row {w : World} {S : Nat → Prop} {v : Value} {us : List Tr} (h : RTrees w S v us) (hS : ∀ b, S b → b < w.heap.size) : ∃ A c mvs, v = .slice A us.length c ∧ us.length ≤ maxLen ∧ mvs.length = us.length ∧ Reads w w.heap.size 2 A us.length (treesCells us mvs) ∧ (∀ u ∈ treesCells us mvs, u.oneCell' = true) ∧
    ∀ (j : Nat) (t : Tr) (nv : Value), us[j]? = some t → mvs[j]? = some nv → RNodes w S nv t.nodes ∧ -9223372036854775808 ≤ t.root ∧ t.root ≤ 9223372036854775807 := by
  obtain ⟨mvs, hl, hrow, hn⟩ := h.is
  obtain ⟨A, c, rfl, hc, hr⟩ := hrow.is
  refine ⟨A, c, mvs, rfl, hrow.small, hl, ⟨hrow.len, fun hp => ?_⟩, cells_one us mvs hl (fun j t nv h1 h2 => (hn j t nv h1 h2).1), hn⟩
  obtain ⟨b, off, rfl, hb, hcell⟩ := hr hp
  refine ⟨_, rfl, hS b hb, fun j u hu => ?_⟩
  rw [show (⟨b, off, none⟩ : Addr).add j = ⟨b, off + j, none⟩ by unfold Addr.add; simp]
  exact hcell j u hu
def Since (w1 w : World) : Prop := w1.heap.size ≤ w.heap.size
theorem Since.below {w1 w w' : World} {B : Nat} (h : Since w1 w) (hb : Below B w w') : Since w1 w' := Nat.le_trans h hb.size
theorem OL.reads_ {w : World} {base : Nat} {X : Nat → Prop} {v : Value} {ts : List Tr} (h : OL w base X v ts) : RTrees w (fun b => b < w.heap.size) v ts := by
  have h1 : OwnList w base 0 v ts := OL.list (h.weaken (Y := fun b => 0 ≤ b) fun b _ => Nat.zero_le b)
  exact h1.reads.more fun b hb => hb.2
theorem Ev.grown {w0 w w' : World} {r : Option Nat} (h : Ev w0 w) (hg : w.grownBy w' r) (hr : ∀ g, r = some g → w0.heap.size ≤ g) : Ev w0 w' :=
  ⟨h.bel.trans (below_of_grown hg h.bel.size hr), h.kt, h.tt⟩
theorem XL.grown {w w' : World} {lo : Nat} {v : Value} {us : List Tr} {r : Option Nat} (h : XL w lo v us) (hg : w.grownBy w' r) (hr : ∀ g, r = some g → g < lo) : RTrees w' (fun b => lo ≤ b ∧ b < w.heap.size ∧ Soft w' b) v us := by
  have hne : ∀ b, lo ≤ b → r ≠ some b := fun b hb e => by have := hr b e; omega
  exact (RTrees.keep h fun p hp => World.cell?_of_block (hg.block p.block hp.2.1 (fun e => hne _ hp.1 e.symm))).more fun b hb => ⟨hb.1, hb.2.1, hb.2.2.grown hg hb.2.1 fun e => hne _ hb.1 e.symm⟩
section
variable {w0 w : World} {bs : List Nat} {A : Option Addr} {c lo : Nat} {x : Tr} {b : Bool} {v : Value} {us : List Tr}
theorem xl_given (hE : Ev w0 w) (h : XL w lo v us) (hs : (us.map (·.nodes.length)).sum ≤ 100000) (hf : us.length ≤ 100000) : GivenEL us v (fun b => lo ≤ b ∧ b < w.heap.size ∧ Soft w b) w := ⟨h, fun _ h => h.2.1, hE.ktab, hE.tog, hs, hf⟩
theorem seqX_c (hE : Ev w0 w) (hl : BL w bs) (h : XL w lo v us) (hs : (us.map (·.nodes.length)).sum ≤ 100000) (hf : us.length ≤ 100000) (hb : ofEB seqD us = b) : Calls Tryd.prog 20 #[v] w (TP (ofET seqD us) b bs w) :=
  (Seq_g (xl_given hE h hs hf)).mono fun e w' h => tp hl h hb
theorem choiceX_c (hE : Ev w0 w) (hl : BL w bs) (h : XL w lo v us) (hs : (us.map (·.nodes.length)).sum ≤ 100000) (hf : us.length ≤ 100000) (hb : ofEB choiceD us = b) : Calls Tryd.prog 22 #[v] w (TP (ofET choiceD us) b bs w) :=
  (Choice_g (xl_given hE h hs hf)).mono fun e w' h => tp hl h hb
theorem parts_c (hE : Ev w0 w) (h1 : RT w bs A c x) (hs : x.nodes.length ≤ 100000) : Calls Tryd.prog 24 #[.agg #[.slice A x.nodes.length c, .int .i64 x.root]] w fun e w' => ∃ u, e = .returned u ∧ Hid (XL w' w.heap.size u (partsL x)) ∧ Hid (Below w.heap.size w w') :=
  (Parts_g (h1.givenE hE hs)).mono fun e w' ⟨⟨u, he, hu⟩, hb⟩ => ⟨u, he, Lib.hid hu, Lib.hid hb⟩
theorem ways_c (hE : Ev w0 w) (h1 : RT w bs A c x) (hs : x.nodes.length ≤ 100000) : Calls Tryd.prog 25 #[.agg #[.slice A x.nodes.length c, .int .i64 x.root]] w fun e w' => ∃ u, e = .returned u ∧ Hid (XL w' w.heap.size u (openedL x 5)) ∧ Hid (Below w.heap.size w w') :=
  (Ways_g (h1.givenE hE hs)).mono fun e w' ⟨u, he, hu, hb⟩ => ⟨u, he, Lib.hid (OL.xl hu), Lib.hid hb⟩
theorem exact_c {v' : Value} {us' : List Tr} (h : XL w lo v us) (h' : RTrees w (fun b => b < w.heap.size) v' us') (he : us = us') (hs : ∀ t ∈ us, t.nodes.length ≤ 1000000) : Calls Tryd.prog 26 #[v, v'] w fun e w' => e = .returned (.bool true) ∧ Hid (Below w.heap.size w w') := by
  subst he
  exact (exactL_eq h h' (fun _ h => h.2.1) (fun _ h => h) hs).mono fun e w' ⟨he, hb⟩ => ⟨he, Lib.hid hb⟩
end
structure PartsRel (ts : List Tr) (w wr : World) (a b : Value) (j : Nat) : Prop where
  right : ∀ t ∈ ts.take j, RightT t
  ev : Ev w wr
  pr : PR w wr a b ((ts.take j).flatMap partsL) ((ts.take j).flatMap (openedL · 5))
  lp : ((ts.take j).flatMap partsL).length ≤ j * 500000
  lq : ((ts.take j).flatMap (openedL · 5)).length ≤ j * 500000
theorem PartsRel.next {ts : List Tr} {w wr wr' : World} {a b a' b' : Value} {j : Nat} {t : Tr} (h : PartsRel ts w wr a b j) (ht : ts[j]? = some t) (hr : RightT t) (hs : t.nodes.length ≤ 400) (ev : Ev w wr') (pr : PR w wr' a' b' ((ts.take j).flatMap partsL ++ partsL t) ((ts.take j).flatMap (openedL · 5) ++ openedL t 5)) : PartsRel ts w wr' a' b' (j + 1) := by
  have e : ts.take (j + 1) = ts.take j ++ [t] := by rw [List.take_add_one, ht]; rfl
  have h1 := (parts_sum t).2
  have h2 := (ways_sum hr).2
  have h3 := h.lp
  have h4 := h.lq
  refine ⟨fun x hx => ?_, ev, ?_, ?_, ?_⟩
  · rw [e] at hx
    rcases List.mem_append.1 hx with hx | hx
    · exact h.right x hx
    · simp at hx; subst hx; exact hr
  · rw [e, List.flatMap_append, List.flatMap_append, List.flatMap_cons, List.flatMap_cons, List.flatMap_nil, List.flatMap_nil, List.append_nil, List.append_nil]; exact pr
  · rw [e, List.flatMap_append, List.flatMap_cons, List.flatMap_nil, List.append_nil, List.length_append]; omega
  · rw [e, List.flatMap_append, List.flatMap_cons, List.flatMap_nil, List.append_nil, List.length_append]; omega
end Go.Proofs.YtclfpjfjebheoaaDoor
/- Contracts of the document's answers on names (bonsairef02): letters, digits, what is taken, names. Conditions: lengths as Go has them. -/
namespace Go.Proofs.YtclfpjfjebheoaaDoor
open Go.RowKit

set_option maxHeartbeats 400000 in
theorem rletter_any (c : UInt8) (w : World) : Calls Tryd.prog 104 #[.int .u8 c.toNat] w fun e w' => e = .returned (.bool (Nm.isLet c)) ∧ w = w' := by
  rw [Nm.isLet_nat]
  obtain ⟨b, hb⟩ : ∃ b : Nat, b = c.toNat := ⟨_, rfl⟩
  rw [← hb]; clear hb
  go_enter Tryd.func104, Tryd.ntmps104
  go_wp2
  all_goals go_ret
  all_goals refine ⟨ret_bool ?_, rfl⟩
  all_goals rw [Bool.eq_iff_iff]
  all_goals simp
  all_goals omega
set_option maxHeartbeats 400000 in
theorem rdigit_any (c : UInt8) (w : World) : Calls Tryd.prog 105 #[.int .u8 c.toNat] w fun e w' => e = .returned (.bool (Nm.isDig c)) ∧ w = w' := by
  rw [Nm.isDig_nat]
  obtain ⟨b, hb⟩ : ∃ b : Nat, b = c.toNat := ⟨_, rfl⟩
  rw [← hb]; clear hb
  go_enter Tryd.func105, Tryd.ntmps105
  go_wp2
  all_goals go_ret
  all_goals refine ⟨ret_bool ?_, rfl⟩
  all_goals rw [Bool.eq_iff_iff]
  all_goals simp
  all_goals omega

theorem nm_zero {s : ByteArray} (h : s.toList = []) : Nm.nmLen s.data.toList = 0 := by rw [← Lib.toList_data, h]; rfl
theorem nm_zero' {s : ByteArray} (h0 : 0 < s.size) (h : Nm.isLet s[0] = false) : Nm.nmLen s.data.toList = 0 := by
  have ho := ok_at s 0 h0
  rw [h] at ho
  have : Nm.IsTake s.data.toList 0 := ⟨Nat.zero_le _, fun j hj => by omega, fun _ => by simpa using ho⟩
  exact this.eq.symm
theorem ok_first {s : ByteArray} (h0 : 0 < s.size) (h : Nm.isLet s[0] = true) (k : Nat) (hk : k < s.size) : Nm.ok s.data.toList k = (Nm.isLet s[k] || Nm.isDig s[k]) := by
  rw [ok_at s k hk]
  rcases Nat.eq_zero_or_pos k with e | e
  · subst e; rw [h]; simp
  · simp [e]
theorem take_zero {s : ByteArray} (h : Nm.nmLen s.data.toList = 0) : (⟨#[]⟩ : ByteArray) = ⟨(s.data.toList.take (Nm.nmLen s.data.toList)).toArray⟩ := by rw [h]; rfl

set_option maxHeartbeats 1000000 in
theorem rtake_any (s : ByteArray) (hs : s.size ≤ maxLen) (w : World) :
    Calls Tryd.prog 103 #[.string s] w fun e w' => e = .returned (.string ⟨(s.data.toList.take (Nm.nmLen s.data.toList)).toArray⟩) ∧ w = w' := by
  unfold maxLen at hs
  by_cases hz : s.toList = []
  · go_enter Tryd.func103, Tryd.ntmps103
    go_wp2
    go_ret
    exact ⟨ret_string (take_zero (nm_zero hz)), rfl⟩
  have h0 : 0 < s.size := by
    rcases Nat.eq_zero_or_pos s.size with h | h
    · exfalso; apply hz; rw [Lib.toList_data]; exact List.eq_nil_of_length_eq_zero (by simpa using h)
    · exact h
  have hse : s.toList.isEmpty = false := by simpa using hz
  clear hz
  cases hl : Nm.isLet s[0]
  · go_enter Tryd.func103, Tryd.ntmps103
    go_wp2_with (go_at_call 104; refine (rletter_any _ _).mono ?_; rintro e w' ⟨rfl, rfl⟩)
    go_ret
    exact ⟨ret_string (take_zero (nm_zero' h0 hl)), rfl⟩
  · have Hok := Lib.hid (ok_first h0 hl)
    go_enter Tryd.func103, Tryd.ntmps103
    go_wp2_with (go_at_call 104; refine (rletter_any _ _).mono ?_; rintro e w' ⟨rfl, rfl⟩)
    go_loop [3] (fun i => ∃ k : Nat, k ≤ s.size ∧ i = .int .i64 k ∧ ∀ j, j < k → Nm.ok s.data.toList j = true) (fun i => s.size - (intOf i).toNat)
    case atStart => exact ⟨0, Nat.zero_le _, rfl, fun j hj => by omega⟩
    case round =>
      obtain ⟨k, hk, rfl, hok⟩ := hrel
      by_cases hlt : k < s.size
      · go_wp2_with (first | (go_at_call 104; refine (rletter_any _ _).mono ?_; rintro e w' ⟨rfl, rfl⟩) | (go_at_call 105; refine (rdigit_any _ _).mono ?_; rintro e w' ⟨rfl, rfl⟩))
        all_goals have ho := Hok.out k hlt
        all_goals first
          | (go_round
             case rel => exact ⟨k + 1, by omega, by go_num, ok_step hok (by rw [ho]; simp [*])⟩
             case measure => simp [intOf]; omega)
          | (go_ret
             exact ⟨ret_string (take_end s hk hok fun _ => by rw [ho]; simp [*]), rfl⟩)
      · go_wp2
        go_ret
        exact ⟨ret_string (take_end s hk hok fun h => absurd h hlt), rfl⟩

set_option maxHeartbeats 400000 in
theorem rmay_any (s : ByteArray) (hs : s.size ≤ maxLen) (w : World) :
    Calls Tryd.prog 102 #[.string s] w fun e w' => e = .returned (.bool (Nm.may s.data.toList)) ∧ w = w' := by
  obtain ⟨M, hM⟩ : ∃ M, M = Nm.may s.data.toList := ⟨_, rfl⟩
  rw [← hM]
  obtain ⟨t, ht⟩ : ∃ t : ByteArray, t = ⟨(s.data.toList.take (Nm.nmLen s.data.toList)).toArray⟩ := ⟨_, rfl⟩
  have hts : (t.toList == s.toList) = decide (Nm.nmLen s.data.toList = s.data.toList.length) := by
    have hle := Nm.nmLen_le s.data.toList
    rw [ht, Bool.eq_iff_iff, beq_iff_eq, decide_eq_true_eq, Lib.toList_data, Lib.toList_data]
    constructor
    · intro h
      have := congrArg List.length h
      simp only [List.length_take] at this
      omega
    · intro h
      exact List.take_of_length_le (by omega)
  have htake := fun wx => rtake_any s hs wx
  rw [← ht] at htake
  have Ht := Lib.hid htake
  have HM : Hid (M = (decide (s.toList ≠ []) && decide (s.size ≤ 32) && (t.toList == s.toList))) := by
    rw [hM, hts, Lib.toList_data]
    simp [Nm.may, Hid]
  clear ht htake hts hM
  go_enter Tryd.func102, Tryd.ntmps102
  go_wp2_with (go_at_call 103; refine (Ht.out _).mono ?_; rintro e w' ⟨rfl, rfl⟩)
  all_goals go_ret
  all_goals refine ⟨ret_bool ?_, rfl⟩
  all_goals rw [HM.out, Bool.eq_iff_iff]
  all_goals simp [*] <;> omega
end Go.Proofs.YtclfpjfjebheoaaDoor
/- The contracts of bonsairef04.Fits, Leaf. Conditions: a node's fields as Go has them. -/
namespace Go.Proofs.YtclfpjfjebheoaaDoor
open Go.RowKit

set_option maxRecDepth 100000 in
set_option maxHeartbeats 4000000 in
theorem rfits_any (n : Nd) (hn : n.d.Ok) (kv : Value) (k : Int) (W : World) :
    Calls Tryd.prog 95 #[.agg (nodeCells n kv).toArray, .int .i64 k] W fun e w' => e = .returned (.bool (fits n.d k)) ∧ Below W.heap.size W w' := by
  obtain ⟨⟨kind, s0, s1, s2, s3, text, mn, mx⟩, kids⟩ := n
  obtain ⟨⟨k1, k2⟩, hset, htx, hmn, hmx⟩ := hn
  have htx' : (⟨text.toArray⟩ : ByteArray).size ≤ maxLen := by rw [size_mk]; exact htx
  have HM := Lib.hid (fun wx => rmay_any ⟨text.toArray⟩ htx' wx)
  clear hmn hmx hset htx htx'
  simp only [nodeCells] at *
  go_enter Tryd.func95, Tryd.ntmps95
  go_upto_region 2 with fail
  obtain ⟨wb, hwb⟩ : ∃ wb, wb = (W.alloc (.cells #[.int .u8 kind, .int .u64 s0, .int .u64 s1, .int .u64 s2, .int .u64 s3, .string ⟨text.toArray⟩, .int .i64 mn, .int .i64 mx, kv] 65)).alloc (.cells #[.int .u64 0, .int .u64 0, .int .u64 0, .int .u64 0] 62) := ⟨_, rfl⟩
  obtain ⟨V0, hV0⟩ : ∃ V0 : Value, V0 = .agg #[.int .u8 kind, .int .u64 s0, .int .u64 s1, .int .u64 s2, .int .u64 s3, .string ⟨text.toArray⟩, .int .i64 mn, .int .i64 mx, kv] := ⟨_, rfl⟩
  rw [← hwb, ← hV0]
  have hB0 : Blk wb W.heap.size 65 #[.int .u8 kind, .int .u64 s0, .int .u64 s1, .int .u64 s2, .int .u64 s3, .string ⟨text.toArray⟩, .int .i64 mn, .int .i64 mx, kv] := by rw [hwb]; exact (Blk.new W _ _).alloc _
  have hB1 : Blk wb (W.heap.size + 1) 62 #[.int .u64 0, .int .u64 0, .int .u64 0, .int .u64 0] := by rw [hwb]; exact Blk.new1 _ _ _ _
  have hbb : Below W.heap.size W wb := by rw [hwb]; exact ((Below.refl _ _).alloc (Nat.le_refl _) _).alloc (by simp) _
  obtain ⟨c0, c1, c2, c3, c4, c5, c6, c7, c8⟩ := hB0.nine
  have e0 : wb.cell? ⟨W.heap.size + 1, 0, none⟩ = some (.int .u64 0) := hB1.cell 0
  have e1 : wb.cell? ⟨W.heap.size + 1, 1, none⟩ = some (.int .u64 0) := hB1.cell 1
  have e2 : wb.cell? ⟨W.heap.size + 1, 2, none⟩ = some (.int .u64 0) := hB1.cell 2
  have e3 : wb.cell? ⟨W.heap.size + 1, 3, none⟩ = some (.int .u64 0) := hB1.cell 3
  clear hV0 hwb hB0 hB1
  go_cut [6] from 7 to 26 (fun x wx => x = .bool (decide (noSet ⟨kind, s0, s1, s2, s3, text, mn, mx⟩ ∧ text = [] ∧ noNum ⟨kind, s0, s1, s2, s3, text, mn, mx⟩)) ∧ wx = wb)
  case first =>
    go_wp2_with fail
    all_goals go_meet
    all_goals refine ⟨?_, rfl⟩
    all_goals simp [noSet, noNum, *]
    all_goals (rw [Bool.eq_iff_iff]; simp)
  case rest =>
    obtain ⟨rfl, rfl⟩ := hcut
    obtain ⟨pl, hpl⟩ : ∃ pl, pl = decide (noSet ⟨kind, s0, s1, s2, s3, text, mn, mx⟩ ∧ text = [] ∧ noNum ⟨kind, s0, s1, s2, s3, text, mn, mx⟩) := ⟨_, rfl⟩
    rw [← hpl]
    have HPL := Lib.hid hpl
    clear hpl
    have hk : kind = 0 ∨ kind = 1 ∨ kind = 2 ∨ kind = 3 ∨ kind = 4 ∨ kind = 5 ∨ kind = 6 ∨ kind = 7 ∨ kind = 8 ∨ kind = 9 ∨ 10 ≤ kind := by omega
    rcases hk with rfl | rfl | rfl | rfl | rfl | rfl | rfl | rfl | rfl | rfl | hk
    rotate_right
    · have b0 : (kind == 0) = false := beq_eq_false_iff_ne.2 (by omega)
      have b1 : (kind == 1) = false := beq_eq_false_iff_ne.2 (by omega)
      have b2 : (kind == 2) = false := beq_eq_false_iff_ne.2 (by omega)
      have b3 : (kind == 3) = false := beq_eq_false_iff_ne.2 (by omega)
      have b4 : (kind == 4) = false := beq_eq_false_iff_ne.2 (by omega)
      have b5 : (kind == 5) = false := beq_eq_false_iff_ne.2 (by omega)
      have b6 : (kind == 6) = false := beq_eq_false_iff_ne.2 (by omega)
      have b7 : (kind == 7) = false := beq_eq_false_iff_ne.2 (by omega)
      have b8 : (kind == 8) = false := beq_eq_false_iff_ne.2 (by omega)
      have b9 : (kind == 9) = false := beq_eq_false_iff_ne.2 (by omega)
      go_wp2_with fail
      go_ret
      refine ⟨ret_bool ?_, hbb⟩
      rw [eq_comm, fits, decide_eq_false_iff_not]
      rintro ⟨h, -⟩
      simp only [fitsD] at h
      omega
    all_goals go_wp2_with (go_at_call 102; refine (HM.out _).mono ?_; rintro e w' ⟨rfl, rfl⟩)
    all_goals go_ret
    all_goals refine ⟨ret_bool ?_, hbb⟩
    all_goals have hpl := HPL.out
    all_goals clear HM HPL c0 c1 c2 c3 c4 c5 c6 c7 c8 e0 e1 e2 e3 hbb
    all_goals rw [Bool.eq_iff_iff]
    all_goals simp only [fits, fitsD, fitsK, noSet, noNum, decide_eq_true_eq] at hpl ⊢
    all_goals simp [*]
    all_goals have htl : text = [] ↔ text.length = 0 := List.length_eq_zero_iff.symm
    all_goals simp only [htl] at *
    all_goals clear htl
    all_goals first
      | (cases pl
         · have hq := of_decide_eq_false hpl.symm
           clear hpl
           first | omega | (exfalso; simp at *; done) | (simp; omega)
         · have hq := of_decide_eq_true hpl.symm
           clear hpl
           first | omega | (exfalso; simp at *; done) | (simp; omega))
      | (clear hpl; omega)
end Go.Proofs.YtclfpjfjebheoaaDoor
/- The contract of bonsairef04.Right. Conditions: the tree reads in what there is; bounds on sizes. -/
namespace Go.Proofs.YtclfpjfjebheoaaDoor
open Go.RowKit

theorem right_count {t : Tr} (h0 : 0 ≤ t.root) (h1 : t.root < t.nodes.length) (hfit : ∀ n ∈ t.nodes, fits n.d n.kids.length = true) (hlow : Low t.nodes) :
    RightT t ↔ ∀ i : Nat, i < t.nodes.length → (kidsOf t.nodes).count (i : Int) = if (i : Int) = t.root then 0 else 1 := by
  have hlen : ∀ (j : Nat) (n : Nd), t.nodes[j]? = some n → j < t.nodes.length := fun j n hn => (List.getElem?_eq_some_iff.1 hn).1
  constructor
  · intro hr i hi
    have hp := hr.shape.perm.count_eq (i : Int)
    have hnd : (rangeI t.nodes.length).count (i : Int) = 1 := Nat.le_antisymm (List.nodup_iff_count.1 (nodup_rangeI _) _) (List.count_pos_iff.2 (mem_rangeI.2 ⟨by omega, by omega⟩))
    rw [hnd, List.count_cons] at hp
    by_cases e : (i : Int) = t.root
    · rw [if_pos e]; rw [if_pos (by rw [e]; exact beq_self_eq_true _)] at hp; omega
    · rw [if_neg e]; rw [if_neg (by simpa using fun e2 => e e2.symm)] at hp; omega
  · intro hc
    have hmem : ∀ k ∈ kidsOf t.nodes, 0 ≤ k ∧ k + 1 < t.nodes.length := fun k hk => by
      obtain ⟨i, n, hn, hk⟩ := mem_kidsOf.1 hk
      have := hlow i n hn k hk
      have := hlen i n hn
      omega
    have htop : t.root + 1 = t.nodes.length := by
      rcases Nat.eq_zero_or_pos t.nodes.length with e | e
      · omega
      · have h2 := hc (t.nodes.length - 1) (by omega)
        by_cases e2 : ((t.nodes.length - 1 : Nat) : Int) = t.root
        · omega
        · rw [if_neg e2] at h2
          have h3 : ((t.nodes.length - 1 : Nat) : Int) ∈ kidsOf t.nodes := List.count_pos_iff.1 (by omega)
          have := hmem _ h3
          omega
    have hroot : t.root ∉ kidsOf t.nodes := fun h => by
      have := hc t.root.toNat (by omega)
      rw [Int.toNat_of_nonneg h0, if_pos rfl] at this
      exact absurd (List.count_pos_iff.2 h) (by omega)
    have hnd : (kidsOf t.nodes).Nodup := List.nodup_iff_count.2 fun k => by
      by_cases hk : k ∈ kidsOf t.nodes
      · have h2 := hmem k hk
        have := hc k.toNat (by omega)
        rw [Int.toNat_of_nonneg h2.1] at this
        split at this <;> omega
      · rw [List.count_eq_zero.2 hk]; omega
    refine (rightT_iff htop h0 ⟨fun j n _ hn => hfit n (List.mem_of_getElem? hn), fun j n _ hn => hlow j n hn, by rw [List.take_length]; exact List.nodup_cons.2 ⟨hroot, hnd⟩⟩).2 fun j hj => ?_
    by_cases e : (j : Int) = t.root
    · rw [e]; simp
    · have := hc j hj
      rw [if_neg e] at this
      exact List.mem_cons_of_mem _ (List.count_pos_iff.1 (by omega))

def cnt (L : List Int) (i : Nat) : Int := ((L.count (i : Int) : Nat) : Int)
theorem cnt_set {n : Nat} {L : List Int} {k : Int} (h0 : 0 ≤ k) : (tabOf n (cnt L)).set k.toNat (.int .i64 (cnt L k.toNat + 1)) = tabOf n (cnt (L ++ [k])) :=
  tabOf_set _ fun j _ => by
    unfold cnt
    rw [List.count_append]
    by_cases e : j = k.toNat
    · subst e; rw [if_pos rfl, Int.toNat_of_nonneg h0]; simp
    · rw [if_neg e, List.count_singleton, if_neg (by simp; omega)]; simp
theorem cnt_le (L : List Int) (i : Nat) : 0 ≤ cnt L i ∧ cnt L i ≤ L.length := ⟨by unfold cnt; omega, by unfold cnt; have := List.count_le_length (a := (i : Int)) (l := L); omega⟩
theorem kidsOf_le {ns : List Nd} {K : Nat} (hks : ∀ n ∈ ns, n.kids.length ≤ K) (j : Nat) : (kidsOf (ns.take j)).length ≤ j * K := by
  induction j with
  | zero => simp [kidsOf]
  | succ j ih =>
    cases hn : ns[j]? with
    | none =>
      have : ns.take (j + 1) = ns.take j := by rw [List.take_add_one, hn]; simp
      rw [this, Nat.succ_mul]; omega
    | some n =>
      rw [kidsOf_take hn, List.length_append]
      have := hks n (List.mem_of_getElem? hn)
      rw [Nat.succ_mul]; omega

structure RRel (ns : List Nd) (root : Int) (n : Nat) (w : World) (B : Nat) (nv : Value) (te : TypeId) (j : Nat) (wr : World) : Prop where
  fit : ∀ (i : Nat) (N : Nd), i < j → ns[i]? = some N → fits N.d N.kids.length = true
  low : ∀ (i : Nat) (N : Nd), i < j → ns[i]? = some N → ∀ k ∈ N.kids, 0 ≤ k ∧ k < (i : Int)
  box : Blk wr B te #[nv, .int .i64 root]
  tab : Blk wr (B + 1) 3 (tabOf n (cnt (kidsOf (ns.take j)))).toArray
  below : Below B w wr
structure RIn (ns : List Nd) (root : Int) (n : Nat) (w : World) (B : Nat) (nv : Value) (te : TypeId) (g : Nat) (cs : Array Value) (j : Nat) (kids : List Int) (q : Nat) (wr : World) : Prop where
  low : ∀ k ∈ kids.take q, 0 ≤ k ∧ k < (j : Int)
  box : Blk wr B te #[nv, .int .i64 root]
  nbox : Blk wr g 65 cs
  tab : Blk wr (B + 1) 3 (tabOf n (cnt (kidsOf (ns.take j) ++ kids.take q))).toArray
  below : Below B w wr

open Classical in
set_option maxRecDepth 100000 in
set_option maxHeartbeats 4000000 in
theorem rright_any (t : Tr) (v : Value) (S : Nat → Prop) (w : World) (ht : RTree w S v t) (hS : ∀ b, S b → b < w.heap.size) (hsz : t.nodes.length ≤ 1000000) (hks : ∀ n ∈ t.nodes, n.kids.length ≤ 1000000) :
    Calls Tryd.prog 91 #[v] w fun e w' => e = .returned (.bool (decide (RightT t))) ∧ Below w.heap.size w w' := by
  obtain ⟨nv, rfl, hns, hr1, hr2⟩ := ht
  obtain ⟨A, c, rfl, hc, hs, hcells⟩ := hns.at_
  clear hcells
  have hmk := make_zeros t.nodes.length hsz
  by_cases hroot : 0 ≤ t.root ∧ t.root < t.nodes.length
  · obtain ⟨hr3, hr4⟩ := hroot
    obtain ⟨ns, root⟩ := t
    simp only at *
    obtain ⟨n, hm⟩ : ∃ n, ns.length = n := ⟨_, rfl⟩
    obtain ⟨A', c', hv, _, _, hcells⟩ := hns.at_
    injection hv with h1 _ h3
    subst h1
    subst h3
    obtain ⟨b, off, rfl, hbS, _⟩ := hcells (by omega)
    have hbB := hS b hbS
    clear hcells
    obtain ⟨Z, hZ⟩ : ∃ Z, Z = (tabOf ns.length fun _ => 0).toArray := ⟨_, rfl⟩
    rw [← hZ] at hmk
    have HZ := Lib.hid hZ
    have HNS := Lib.hid hns
    rw [hm] at hmk hsz hc hs HNS hr4
    have HM := Lib.hid hm
    have HR0 := Lib.hid hr3
    rw [hm]
    clear hZ hns hm
    go_enter Tryd.func91, Tryd.ntmps91
    go_wp2
    go_loopw [4] (fun i wr => ∃ j : Nat, j ≤ n ∧ i = .int .i64 j ∧ Hid (RRel ns root n w w.heap.size (.slice (some ⟨b, off, none⟩) n c) 34 j wr)) (fun i _ => n - (intOf i).toNat)
    case atStart =>
      refine ⟨0, Nat.zero_le _, rfl, Lib.hid ⟨fun i N h => by omega, fun i N h => by omega, (Blk.new w _ _).alloc _, ?_, ((Below.refl _ _).alloc (Nat.le_refl _) _).alloc (by simp) _⟩⟩
      have h1 : Z = (tabOf n (cnt (kidsOf (ns.take 0)))).toArray := by
        rw [HZ.out, HM.out]
        congr 1
      rw [← h1]
      exact Blk.new1 _ _ _ _
    case round =>
      obtain ⟨wo, rfl⟩ : ∃ wo, wo = wr := ⟨_, rfl⟩
      obtain ⟨j, hj, rfl, HR⟩ := hrel
      by_cases hlt : j < n
      · obtain ⟨N, hN⟩ : ∃ N, ns[j]? = some N := ⟨_, List.getElem?_eq_getElem (by rw [HM.out]; exact hlt)⟩
        have hns2 : RNodes wo S (.slice (some ⟨b, off, none⟩) ns.length c) ns := by
          have := HNS.out.below HR.out.below hS
          rwa [HM.out]
        obtain ⟨_, Ak, ck, hki, hdo, hck, hkc⟩ := hns2.known j N hN
        have e0 : wo.cell? ⟨w.heap.size, 0, none⟩ = some (.slice (some ⟨b, off, none⟩) n c) := HR.out.box.cell 0
        have c0 : wo.cell? ⟨b, off + j * 9, none⟩ = some (.int .u8 N.d.kind) := hkc 0 _ rfl
        have c1 : wo.cell? ⟨b, off + j * 9 + 1, none⟩ = some (.int .u64 N.d.s0) := hkc 1 _ rfl
        have c2 : wo.cell? ⟨b, off + j * 9 + 2, none⟩ = some (.int .u64 N.d.s1) := hkc 2 _ rfl
        have c3 : wo.cell? ⟨b, off + j * 9 + 3, none⟩ = some (.int .u64 N.d.s2) := hkc 3 _ rfl
        have c4 : wo.cell? ⟨b, off + j * 9 + 4, none⟩ = some (.int .u64 N.d.s3) := hkc 4 _ rfl
        have c5 : wo.cell? ⟨b, off + j * 9 + 5, none⟩ = some (.string ⟨N.d.text.toArray⟩) := hkc 5 _ rfl
        have c6 : wo.cell? ⟨b, off + j * 9 + 6, none⟩ = some (.int .i64 N.d.min) := hkc 6 _ rfl
        have c7 : wo.cell? ⟨b, off + j * 9 + 7, none⟩ = some (.int .i64 N.d.max) := hkc 7 _ rfl
        have c8 : wo.cell? ⟨b, off + j * 9 + 8, none⟩ = some (.slice Ak N.kids.length ck) := hkc 8 _ rfl
        have hF := fun (o : Obj) => rfits_any N hdo (.slice Ak N.kids.length ck) (N.kids.length : Int) (wo.alloc o)
        have hbs := HR.out.below.size
        have HN := Lib.hid hN
        have HKI := Lib.hid hki
        have hkl : N.kids.length ≤ 1000000 := hks N (List.mem_of_getElem? hN)
        simp only [nodeCells] at hF
        clear hkc hns2 hki hN
        cases hf : fits N.d (N.kids.length : Int)
        · rw [hf] at hF
          have HF := Lib.hid hF
          have HNR := Lib.hid (not_right_fit (t := ⟨ns, root⟩) HN.out hf)
          clear hF hf
          go_wp2_with (go_at_call 95; refine (HF.out _).mono ?_; rintro e w5 ⟨rfl, hb5⟩)
          go_ret
          exact ⟨ret_bool (by simp [HNR.out]), (HR.out.below.alloc HR.out.below.size _).trans (hb5.mono (by simp; omega))⟩
        · rw [hf] at hF
          have HF := Lib.hid hF
          have HFT := Lib.hid hf
          clear hF hf
          go_wp2_with (first
            | (go_at_call 95
               refine (HF.out _).mono ?_
               rintro e w5 ⟨rfl, hb5⟩)
            | fail)
          have hb50 : Below w.heap.size w w5 := (HR.out.below.alloc HR.out.below.size _).trans (hb5.mono (by simp; omega))
          obtain ⟨cs, hcs⟩ : ∃ cs : Array Value, cs = #[.int .u8 N.d.kind, .int .u64 N.d.s0, .int .u64 N.d.s1, .int .u64 N.d.s2, .int .u64 N.d.s3, .string ⟨N.d.text.toArray⟩, .int .i64 N.d.min, .int .i64 N.d.max, .slice Ak N.kids.length ck] := ⟨_, rfl⟩
          rw [← hcs] at hb5
          have HCS := Lib.hid hcs
          clear hcs c0 c1 c2 c3 c4 c5 c6 c7 c8 e0
          go_loopw [6] (fun i wr => ∃ q : Nat, q ≤ N.kids.length ∧ i = .int .i64 q ∧ Hid (RIn ns root n w w.heap.size (.slice (some ⟨b, off, none⟩) n c) 34 wo.heap.size cs j N.kids q wr) ∧ Hid (RInts wr S (.slice Ak N.kids.length ck) N.kids)) (fun i _ => N.kids.length - (intOf i).toNat)
          case atStart =>
            refine ⟨0, Nat.zero_le _, rfl, Lib.hid ⟨by simp, ?_, ?_, ?_, hb50⟩, Lib.hid ?_⟩
            · exact (HR.out.box.alloc _).below hb5 (by have := HR.out.box.lt; simp; omega)
            · exact (Blk.new _ _ _).below hb5 (by simp)
            · simpa using (HR.out.tab.alloc _).below hb5 (by have := HR.out.tab.lt; simp; omega)
            · exact (HKI.out.keep fun p hp => World.cell?_alloc_lt _ _ _ (by have := hS _ hp; omega)).below hb5 (fun b hb => by have := hS _ hb; simp; omega)
          case round =>
            obtain ⟨q, hq, rfl, HI, HK⟩ := hrel
            have hx8 : cs[8]? = some (.slice Ak N.kids.length ck) := by rw [HCS.out]; rfl
            have d8 : wr.cell? ⟨wo.heap.size, 8, none⟩ = some (.slice Ak N.kids.length ck) := (HI.out.nbox.cell 8).trans hx8
            clear hx8
            by_cases hql : q < N.kids.length
            · obtain ⟨k, hkq⟩ : ∃ k, N.kids[q]? = some k := ⟨_, List.getElem?_eq_getElem hql⟩
              obtain ⟨bk, ok, rfl, hbk, hkc⟩ := HK.out.get q k hkq
              have hkm : k ∈ N.kids := List.mem_of_getElem? hkq
              by_cases hkr : 0 ≤ k ∧ k < (j : Int)
              · obtain ⟨hk0, hk1⟩ := hkr
                obtain ⟨x, hx⟩ : ∃ x, x = cnt (kidsOf (ns.take j) ++ N.kids.take q) k.toNat := ⟨_, rfl⟩
                have hck : wr.cell? ⟨w.heap.size + 1, k.toNat, none⟩ = some (.int .i64 x) := by
                  rw [HI.out.tab.cell, List.getElem?_toArray, tabOf_at (by omega), hx]
                have hfk := HI.out.tab.frozen k.toNat
                have hkM : k < (n : Int) := by omega
                have hxl : 0 ≤ x ∧ x ≤ 1000001000000 := by
                  have h1 := cnt_le (kidsOf (ns.take j) ++ N.kids.take q) k.toNat
                  have h2 := kidsOf_le hks j
                  have h3 : j * 1000000 ≤ 1000000 * 1000000 := Nat.mul_le_mul_right _ (by omega)
                  rw [List.length_append, List.length_take] at h1
                  rw [hx]; omega
                obtain ⟨hx0, hx1⟩ := hxl
                have HX := Lib.hid hx
                have HKQ := Lib.hid hkq
                have HKM := Lib.hid hkm
                clear hkq hkm hx
                go_wp2
                go_roundw
                case measure => simp [intOf]; omega
                case rel =>
                  have et : N.kids.take (q + 1) = N.kids.take q ++ [k] := by rw [List.take_add_one, HKQ.out]; rfl
                  refine ⟨q + 1, by omega, by go_num, Lib.hid ⟨fun z hz => ?_, ?_, ?_, ?_, ?_⟩, Lib.hid (HK.out.keep fun p hp => World.cell?_setCell_other _ _ _ _ (fun e => by have := hS _ hp; rw [← e] at this; simp at this; omega))⟩
                  · rw [et] at hz
                    rcases List.mem_append.1 hz with hz | hz
                    · exact HI.out.low z hz
                    · simp at hz; subst hz; exact ⟨hk0, hk1⟩
                  · exact HI.out.box.far (by simp) _
                  · exact HI.out.nbox.far (by have := HR.out.tab.lt; simp; omega) _
                  · have h1 := HI.out.tab.set_ k.toNat (.int .i64 (x + 1))
                    rw [List.setIfInBounds_toArray, HX.out, cnt_set hk0] at h1
                    rw [et, ← List.append_assoc]
                    rw [HX.out]
                    exact h1
                  · exact HI.out.below.setCell (by simp) _
              · have HNR := Lib.hid (not_right_low (t := ⟨ns, root⟩) HN.out hkm hkr)
                clear hkq hkm
                rcases Int.lt_or_le k 0 with hk0 | hk0
                · go_wp2
                  go_ret
                  exact ⟨ret_bool (by simp [HNR.out]), HI.out.below⟩
                · have hk1 : (j : Int) ≤ k := by omega
                  clear hkr
                  go_wp2
                  go_ret
                  exact ⟨ret_bool (by simp [HNR.out]), HI.out.below⟩
            · have hqe : q = N.kids.length := by omega
              subst hqe
              have hI := HI.out
              have htl : N.kids.take N.kids.length = N.kids := List.take_length
              go_wp2
              go_roundw
              case measure => simp [intOf]; omega
              case rel =>
                refine ⟨j + 1, by omega, by go_num, Lib.hid ⟨fun i M hi hM => ?_, fun i M hi hM => ?_, hI.box, ?_, hI.below⟩⟩
                · rcases Nat.lt_succ_iff_lt_or_eq.1 hi with h1 | rfl
                  · exact HR.out.fit i M h1 hM
                  · rw [HN.out] at hM; injection hM with hM; subst hM; exact HFT.out
                · rcases Nat.lt_succ_iff_lt_or_eq.1 hi with h1 | rfl
                  · exact HR.out.low i M h1 hM
                  · rw [HN.out] at hM; injection hM with hM; subst hM
                    have := hI.low; rwa [htl] at this
                · have := hI.tab
                  rw [htl] at this
                  rw [kidsOf_take HN.out]
                  exact this
      · have hje : j = n := by omega
        subst hje
        have hiff := right_count (t := ⟨ns, root⟩) HR0.out (by simp only; rw [HM.out]; exact hr4) (fun N hN => by
          obtain ⟨i, hi⟩ := List.getElem?_of_mem hN
          exact HR.out.fit i N (by rw [← HM.out]; exact (List.getElem?_eq_some_iff.1 hi).1) hi) (fun i N hN => HR.out.low i N (by rw [← HM.out]; exact (List.getElem?_eq_some_iff.1 hN).1) hN)
        simp only [HM.out] at hiff
        have htk : ns.take j = ns := List.take_of_length_le (by rw [HM.out]; exact Nat.le_refl _)
        have htab := HR.out.tab
        rw [htk] at htab
        have HTAB := Lib.hid htab
        have HIFF := Lib.hid hiff
        have hbs := HR.out.below.size
        clear hiff htk htab
        have e0 : wo.cell? ⟨w.heap.size, 0, none⟩ = some (.slice (some ⟨b, off, none⟩) j c) := HR.out.box.cell 0
        go_wp2
        go_loopw [7] (fun i wr => ∃ q : Nat, q ≤ j ∧ i = .int .i64 q ∧ (∀ i : Nat, i < q → (kidsOf ns).count (i : Int) = if (i : Int) = root then 0 else 1) ∧ wr = wo) (fun i _ => j - (intOf i).toNat)
        case atStart => exact ⟨0, Nat.zero_le _, rfl, fun i h => by omega, rfl⟩
        case round =>
          obtain ⟨q, hq, rfl, hall, rfl⟩ := hrel
          by_cases hql : q < j
          · have e1 : wr.cell? ⟨w.heap.size, 1, none⟩ = some (.int .i64 root) := HR.out.box.cell 1
            have e2 : wr.cell? ⟨w.heap.size + 1, q, none⟩ = some (.int .i64 (cnt (kidsOf ns) q)) := by
              rw [HTAB.out.cell, List.getElem?_toArray, tabOf_at hql]
            have hnext : (kidsOf ns).count (q : Int) = (if (q : Int) = root then 0 else 1) → ∀ i : Nat, i < q + 1 → (kidsOf ns).count (i : Int) = if (i : Int) = root then 0 else 1 := fun h i hi => by
              rcases Nat.lt_succ_iff_lt_or_eq.1 hi with h1 | rfl
              · exact hall i h1
              · exact h
            have hbad : (kidsOf ns).count (q : Int) ≠ (if (q : Int) = root then 0 else 1) → ¬ RightT ⟨ns, root⟩ := fun h hr => h (HIFF.out.1 hr q hql)
            have HNEXT := Lib.hid hnext
            have HBAD := Lib.hid hbad
            obtain ⟨x, hx⟩ : ∃ x : Nat, x = (kidsOf ns).count (q : Int) := ⟨_, rfl⟩
            have hxc : cnt (kidsOf ns) q = (x : Int) := by rw [hx]; rfl
            rw [hxc] at e2
            rw [← hx] at HNEXT HBAD
            clear hnext hbad hx hxc hall
            by_cases hqr : (q : Int) = root
            · rw [if_pos hqr] at HNEXT HBAD
              have b1 : ((q : Int) == root) = true := beq_iff_eq.2 hqr
              have b2 : ((q : Int) != root) = false := by simp [bne, b1]
              have HQR := Lib.hid hqr
              clear hqr
              by_cases hx0 : (x : Int) = 0
              · have b3 : ((x : Int) != 0) = false := by simp [hx0]
                have b4 : (x : Int) ≠ 0 ↔ False := by simp [hx0]
                go_wp2
                go_roundw
                case measure => simp [intOf]; omega
                case rel => exact ⟨q + 1, by omega, by go_num, HNEXT.out (by omega), trivial⟩
              · have b3 : ((x : Int) != 0) = true := by simp; omega
                have HNR := Lib.hid (HBAD.out (by omega))
                go_wp2
                go_ret
                exact ⟨ret_bool (by simp [HNR.out]), HR.out.below⟩
            · rw [if_neg hqr] at HNEXT HBAD
              have b1 : ((q : Int) == root) = false := beq_eq_false_iff_ne.2 hqr
              have b2 : ((q : Int) != root) = true := by simp [bne, b1]
              clear hqr
              by_cases hx0 : (x : Int) = 1
              · have b3 : ((x : Int) != 1) = false := by simp [hx0]
                go_wp2
                go_roundw
                case measure => simp [intOf]; omega
                case rel => exact ⟨q + 1, by omega, by go_num, HNEXT.out (by omega), trivial⟩
              · have b3 : ((x : Int) != 1) = true := by simp; omega
                have HNR := Lib.hid (HBAD.out (by omega))
                go_wp2
                go_ret
                exact ⟨ret_bool (by simp [HNR.out]), HR.out.below⟩
          · have hqe : q = j := by omega
            subst hqe
            have HYES := Lib.hid (HIFF.out.2 hall)
            clear hall
            go_wp2
            go_ret
            exact ⟨ret_bool (by simp [HYES.out]), HR.out.below⟩
  · have hno : ¬ RightT t := fun hr => hroot ⟨hr.shape.pos, by have := hr.shape.top; omega⟩
    have HNO := Lib.hid hno
    clear hno
    rcases Int.lt_or_le t.root 0 with h0 | h0
    · go_enter Tryd.func91, Tryd.ntmps91
      go_wp2
      go_ret
      exact ⟨ret_bool (by simp [HNO.out]), (Below.refl _ _).alloc (Nat.le_refl _) _⟩
    · have h1 : (t.nodes.length : Int) ≤ t.root := by omega
      clear hroot
      go_enter Tryd.func91, Tryd.ntmps91
      go_wp2
      go_ret
      exact ⟨ret_bool (by simp [HNO.out]), (Below.refl _ _).alloc (Nat.le_refl _) _⟩
end Go.Proofs.YtclfpjfjebheoaaDoor
/- The contracts of bonsairef04.Size, Root. -/
namespace Go.Proofs.YtclfpjfjebheoaaDoor
open Go.RowKit
open Classical

/-- What the document's functions ask beside. -/
structure GivenR (t : Tr) (v : Value) (S : Nat → Prop) (w : World) : Prop where
  given : Given t v S w
  kids : ∀ n ∈ t.nodes, n.kids.length ≤ 1000000
theorem GivenR.below {t : Tr} {v : Value} {S : Nat → Prop} {w w' : World} (h : GivenR t v S w) (hb : Below w.heap.size w w') : GivenR t v S w' := ⟨h.given.below hb, h.kids⟩
theorem rright_g {t : Tr} {v : Value} {S : Nat → Prop} {w : World} (h : GivenR t v S w) : Calls Tryd.prog 91 #[v] w fun e w' => e = .returned (.bool (decide (RightT t))) ∧ Below w.heap.size w w' :=
  rright_any t v S w h.given.read h.given.old (by have := h.given.small; omega) h.kids

set_option maxHeartbeats 2000000 in
theorem rRoot_g {t : Tr} {v : Value} {S : Nat → Prop} {w : World} (h : GivenR t v S w) :
    Calls Tryd.prog 93 #[v] w fun e w' => (∃ N : Nd, e = .returned (.agg (nodeCells N (.slice none 0 0)).toArray) ∧ N = rootOf t) ∧ Below w.heap.size w w' := by
  have HR := Lib.hid (fun wx (hx : Below w.heap.size w wx) => rright_g (h.below hx))
  have HG := Lib.hid h
  obtain ⟨nv, rfl, hns, hr1, hr2⟩ := h.given.read
  obtain ⟨A, c, rfl, hc, hs, _⟩ := hns.at_
  by_cases hr : RightT t
  · have hv : rootOf t = ⟨(treeOf t).d, []⟩ := if_pos hr
    have hn := hr.shape.root_lt
    have h0 := hr.shape.pos
    have hrl : t.root < (t.nodes.length : Int) := by omega
    obtain ⟨N, hN⟩ : ∃ N, t.nodes[t.root.toNat]? = some N := ⟨_, List.getElem?_eq_getElem hn⟩
    have hd : (treeOf t).d = N.d := by unfold treeOf; rw [D_eq hr.shape.low hN]; rfl
    obtain ⟨A', c', hv', _, _, hcells⟩ := hns.at_
    injection hv' with h1 _ h3
    subst h1
    subst h3
    obtain ⟨b, off, rfl, hbS, _⟩ := hcells (by omega)
    have hbB := h.given.old b hbS
    obtain ⟨_, Ak, ck, hki, hdo, hck, hkc⟩ := hns.known t.root.toNat N hN
    have k0 : w.cell? ⟨b, off + t.root.toNat * 9, none⟩ = some (.int .u8 N.d.kind) := hkc 0 _ rfl
    have k1 : w.cell? ⟨b, off + t.root.toNat * 9 + 1, none⟩ = some (.int .u64 N.d.s0) := hkc 1 _ rfl
    have k2 : w.cell? ⟨b, off + t.root.toNat * 9 + 2, none⟩ = some (.int .u64 N.d.s1) := hkc 2 _ rfl
    have k3 : w.cell? ⟨b, off + t.root.toNat * 9 + 3, none⟩ = some (.int .u64 N.d.s2) := hkc 3 _ rfl
    have k4 : w.cell? ⟨b, off + t.root.toNat * 9 + 4, none⟩ = some (.int .u64 N.d.s3) := hkc 4 _ rfl
    have k5 : w.cell? ⟨b, off + t.root.toNat * 9 + 5, none⟩ = some (.string ⟨N.d.text.toArray⟩) := hkc 5 _ rfl
    have k6 : w.cell? ⟨b, off + t.root.toNat * 9 + 6, none⟩ = some (.int .i64 N.d.min) := hkc 6 _ rfl
    have k7 : w.cell? ⟨b, off + t.root.toNat * 9 + 7, none⟩ = some (.int .i64 N.d.max) := hkc 7 _ rfl
    have k8 : w.cell? ⟨b, off + t.root.toNat * 9 + 8, none⟩ = some (.slice Ak N.kids.length ck) := hkc 8 _ rfl
    have hlt1 : t.root.toNat < t.nodes.length := hn
    rw [decide_eq_true hr] at HR
    have HV := Lib.hid hv
    have HD := Lib.hid hd
    clear hcells hkc hki
    clear h hns hr hv hd hN
    go_enter Tryd.func93, Tryd.ntmps93
    go_wp2_with (first
        | (go_at_call 91
           refine (HR.out _ (((Below.refl _ _).alloc (Nat.le_refl _) _).alloc (by simp) _)).mono ?_
           rintro e w1 ⟨rfl, hb1⟩
           have hb01 : Below w.heap.size w w1 := (((Below.refl _ _).alloc (Nat.le_refl _) _).alloc (by simp) _).trans (hb1.mono (by simp <;> omega))
           have d0 : w1.cell? ⟨w.heap.size, 0, none⟩ = some (.slice (some ⟨b, off, none⟩) t.nodes.length c) := by
             rw [hb1.cell (p := ⟨w.heap.size, 0, none⟩) (by simp <;> omega)]; exact ((Blk.new w _ _).alloc _).cell 0
           have d1 : w1.cell? ⟨w.heap.size, 1, none⟩ = some (.int .i64 t.root) := by
             rw [hb1.cell (p := ⟨w.heap.size, 1, none⟩) (by simp <;> omega)]; exact ((Blk.new w _ _).alloc _).cell 1
           have hB1 : Blk w1 (w.heap.size + 1) 65 #[.int .u8 0, .int .u64 0, .int .u64 0, .int .u64 0, .int .u64 0, .string ⟨#[]⟩, .int .i64 0, .int .i64 0, .slice none 0 0] := (Blk.new1 _ _ _ _).below hb1 (by simp)
           have HB1 := Lib.hid hB1
           have e0 : ∀ o : Obj, (w1.alloc o).cell? ⟨w.heap.size + 1, 0, none⟩ = some (.int .u8 0) := fun o => (hB1.alloc o).cell 0
           have f0 : ∀ o : Obj, (w1.alloc o).frozen? ⟨w.heap.size + 1, 0, none⟩ = false := fun o => (hB1.alloc o).frozen 0
           have e1 : ∀ o : Obj, (w1.alloc o).cell? ⟨w.heap.size + 1, 1, none⟩ = some (.int .u64 0) := fun o => (hB1.alloc o).cell 1
           have f1 : ∀ o : Obj, (w1.alloc o).frozen? ⟨w.heap.size + 1, 1, none⟩ = false := fun o => (hB1.alloc o).frozen 1
           have e2 : ∀ o : Obj, (w1.alloc o).cell? ⟨w.heap.size + 1, 2, none⟩ = some (.int .u64 0) := fun o => (hB1.alloc o).cell 2
           have f2 : ∀ o : Obj, (w1.alloc o).frozen? ⟨w.heap.size + 1, 2, none⟩ = false := fun o => (hB1.alloc o).frozen 2
           have e3 : ∀ o : Obj, (w1.alloc o).cell? ⟨w.heap.size + 1, 3, none⟩ = some (.int .u64 0) := fun o => (hB1.alloc o).cell 3
           have f3 : ∀ o : Obj, (w1.alloc o).frozen? ⟨w.heap.size + 1, 3, none⟩ = false := fun o => (hB1.alloc o).frozen 3
           have e4 : ∀ o : Obj, (w1.alloc o).cell? ⟨w.heap.size + 1, 4, none⟩ = some (.int .u64 0) := fun o => (hB1.alloc o).cell 4
           have f4 : ∀ o : Obj, (w1.alloc o).frozen? ⟨w.heap.size + 1, 4, none⟩ = false := fun o => (hB1.alloc o).frozen 4
           have e5 : ∀ o : Obj, (w1.alloc o).cell? ⟨w.heap.size + 1, 5, none⟩ = some (.string ⟨#[]⟩) := fun o => (hB1.alloc o).cell 5
           have f5 : ∀ o : Obj, (w1.alloc o).frozen? ⟨w.heap.size + 1, 5, none⟩ = false := fun o => (hB1.alloc o).frozen 5
           have e6 : ∀ o : Obj, (w1.alloc o).cell? ⟨w.heap.size + 1, 6, none⟩ = some (.int .i64 0) := fun o => (hB1.alloc o).cell 6
           have f6 : ∀ o : Obj, (w1.alloc o).frozen? ⟨w.heap.size + 1, 6, none⟩ = false := fun o => (hB1.alloc o).frozen 6
           have e7 : ∀ o : Obj, (w1.alloc o).cell? ⟨w.heap.size + 1, 7, none⟩ = some (.int .i64 0) := fun o => (hB1.alloc o).cell 7
           have f7 : ∀ o : Obj, (w1.alloc o).frozen? ⟨w.heap.size + 1, 7, none⟩ = false := fun o => (hB1.alloc o).frozen 7
           have e8 : ∀ o : Obj, (w1.alloc o).cell? ⟨w.heap.size + 1, 8, none⟩ = some (.slice none 0 0) := fun o => (hB1.alloc o).cell 8
           have f8 : ∀ o : Obj, (w1.alloc o).frozen? ⟨w.heap.size + 1, 8, none⟩ = false := fun o => (hB1.alloc o).frozen 8
           clear hB1
           have c0 := hb01.cell (p := ⟨b, off + t.root.toNat * 9, none⟩) hbB |>.trans k0
           have c1 := hb01.cell (p := ⟨b, off + t.root.toNat * 9 + 1, none⟩) hbB |>.trans k1
           have c2 := hb01.cell (p := ⟨b, off + t.root.toNat * 9 + 2, none⟩) hbB |>.trans k2
           have c3 := hb01.cell (p := ⟨b, off + t.root.toNat * 9 + 3, none⟩) hbB |>.trans k3
           have c4 := hb01.cell (p := ⟨b, off + t.root.toNat * 9 + 4, none⟩) hbB |>.trans k4
           have c5 := hb01.cell (p := ⟨b, off + t.root.toNat * 9 + 5, none⟩) hbB |>.trans k5
           have c6 := hb01.cell (p := ⟨b, off + t.root.toNat * 9 + 6, none⟩) hbB |>.trans k6
           have c7 := hb01.cell (p := ⟨b, off + t.root.toNat * 9 + 7, none⟩) hbB |>.trans k7
           have c8 := hb01.cell (p := ⟨b, off + t.root.toNat * 9 + 8, none⟩) hbB |>.trans k8
           clear hb1)
        | fail)
    have hsz1 := HB1.out.lt
    have hB2 := (HB1.out.alloc (.cells #[.int .u8 N.d.kind, .int .u64 N.d.s0, .int .u64 N.d.s1, .int .u64 N.d.s2, .int .u64 N.d.s3, .string ⟨N.d.text.toArray⟩, .int .i64 N.d.min, .int .i64 N.d.max, .slice none 0 0] 65)).set9 (.int .u8 N.d.kind) (.int .u64 N.d.s0) (.int .u64 N.d.s1) (.int .u64 N.d.s2) (.int .u64 N.d.s3) (.string ⟨N.d.text.toArray⟩) (.int .i64 N.d.min) (.int .i64 N.d.max) (.slice none 0 0)
    have hb2 := below_set9 (hb01.alloc hb01.size (.cells #[.int .u8 N.d.kind, .int .u64 N.d.s0, .int .u64 N.d.s1, .int .u64 N.d.s2, .int .u64 N.d.s3, .string ⟨N.d.text.toArray⟩, .int .i64 N.d.min, .int .i64 N.d.max, .slice none 0 0] 65)) (g := w.heap.size + 1) (by omega) (.int .u8 N.d.kind) (.int .u64 N.d.s0) (.int .u64 N.d.s1) (.int .u64 N.d.s2) (.int .u64 N.d.s3) (.string ⟨N.d.text.toArray⟩) (.int .i64 N.d.min) (.int .i64 N.d.max) (.slice none 0 0)
    refine bodyPost_ret (results_cell_row rfl _ _ (w.heap.size + 1) _ _ _ _ rfl hB2 Tryd.underlying65 rfl node_size) rfl ?_
    exact ⟨⟨⟨N.d, []⟩, rfl, by rw [HV.out, HD.out]⟩, hb2⟩
  · have hv : rootOf t = default := if_neg hr
    rw [decide_eq_false hr] at HR
    have HV := Lib.hid hv
    clear h hns hr hv
    go_enter Tryd.func93, Tryd.ntmps93
    go_wp2_with (first
        | (go_at_call 91
           refine (HR.out _ (((Below.refl _ _).alloc (Nat.le_refl _) _).alloc (by simp) _)).mono ?_
           rintro e w1 ⟨rfl, hb1⟩
           have hb01 : Below w.heap.size w w1 := (((Below.refl _ _).alloc (Nat.le_refl _) _).alloc (by simp) _).trans (hb1.mono (by simp <;> omega))
           have d0 : w1.cell? ⟨w.heap.size, 0, none⟩ = some (.slice A t.nodes.length c) := by
             rw [hb1.cell (p := ⟨w.heap.size, 0, none⟩) (by simp <;> omega)]; exact ((Blk.new w _ _).alloc _).cell 0
           have d1 : w1.cell? ⟨w.heap.size, 1, none⟩ = some (.int .i64 t.root) := by
             rw [hb1.cell (p := ⟨w.heap.size, 1, none⟩) (by simp <;> omega)]; exact ((Blk.new w _ _).alloc _).cell 1
           have hB1 : Blk w1 (w.heap.size + 1) 65 #[.int .u8 0, .int .u64 0, .int .u64 0, .int .u64 0, .int .u64 0, .string ⟨#[]⟩, .int .i64 0, .int .i64 0, .slice none 0 0] := (Blk.new1 _ _ _ _).below hb1 (by simp)
           have HB1 := Lib.hid hB1
           obtain ⟨e0, e1, e2, e3, e4, e5, e6, e7, e8⟩ := hB1.nine
           have f0 := hB1.frozen 0
           have f1 := hB1.frozen 1
           have f2 := hB1.frozen 2
           have f3 := hB1.frozen 3
           have f4 := hB1.frozen 4
           have f5 := hB1.frozen 5
           have f6 := hB1.frozen 6
           have f7 := hB1.frozen 7
           have f8 := hB1.frozen 8
           clear hB1
           clear hb1)
        | fail)
    have hsz1 := HB1.out.lt
    have hB2 := HB1.out.set9 (.int .u8 0) (.int .u64 0) (.int .u64 0) (.int .u64 0) (.int .u64 0) (.string ⟨#[]⟩) (.int .i64 0) (.int .i64 0) (.slice none 0 0)
    have hb2 := below_set9 hb01 (g := w.heap.size + 1) (by omega) (.int .u8 0) (.int .u64 0) (.int .u64 0) (.int .u64 0) (.int .u64 0) (.string ⟨#[]⟩) (.int .i64 0) (.int .i64 0) (.slice none 0 0)
    refine bodyPost_ret (results_cell_row rfl _ _ (w.heap.size + 1) _ _ _ _ rfl hB2 Tryd.underlying65 rfl node_size) rfl ?_
    exact ⟨⟨default, rfl, HV.out.symm⟩, hb2⟩


end Go.Proofs.YtclfpjfjebheoaaDoor
/- The contract of bonsairef04.Walk. -/
namespace Go.Proofs.YtclfpjfjebheoaaDoor
open Go.RowKit
open Classical

/-- Rows that a walk over a tree keeps: what is told, what is still to come. -/
structure RW (t : Tr) (forth : Bool) (base B : Nat) (w : World) (cs : Array Value) (R O Td : List Int) (vo vt : Value) (wr : World) : Prop where
  out : OInts wr base vo O
  todo : OInts wr base vt Td
  ap : Ap vo vt
  row : R = O ++ rest forth t.nodes Td
  fine : ∀ k ∈ Td, 0 ≤ k ∧ k.toNat < t.nodes.length
  box : Blk wr B 34 cs
  below : Below w.heap.size w wr
theorem RW.sizes {t : Tr} {forth : Bool} {base B : Nat} {w wr : World} {cs : Array Value} {R O Td : List Int} {vo vt : Value} (h : RW t forth base B w cs R O Td vo vt wr) (hlow : Low t.nodes) : O.length + Td.length ≤ R.length := by
  have h1 := rest_length forth _ (fun k hk => gRow_pos hlow forth _ (h.fine k hk).2)
  have h2 := congrArg List.length h.row
  rw [List.length_append] at h2
  omega
theorem RW.next {t : Tr} {forth : Bool} {base B : Nat} {w wr : World} {cs : Array Value} {R O T : List Int} {k : Int} {vo vt : Value} (h : RW t forth base B w cs R O (T ++ [k]) vo vt wr) (hlow : Low t.nodes) :
    R = (O ++ [k]) ++ rest forth t.nodes (T ++ pushed forth t.nodes k.toNat) ∧ (∀ j ∈ T ++ pushed forth t.nodes k.toNat, 0 ≤ j ∧ j.toNat < t.nodes.length) ∧ (O ++ [k]).length + (T ++ pushed forth t.nodes k.toNat).length ≤ R.length := by
  have hk := h.fine k (by simp)
  have h1 : R = (O ++ [k]) ++ rest forth t.nodes (T ++ pushed forth t.nodes k.toNat) := by rw [h.row, rest_snoc hlow forth T k hk.1 hk.2]; simp
  have h2 : ∀ j ∈ T ++ pushed forth t.nodes k.toNat, 0 ≤ j ∧ j.toNat < t.nodes.length := fun j hj => by
    rcases List.mem_append.1 hj with hj | hj
    · exact h.fine j (by simp [hj])
    · exact pushed_ok hlow forth _ hk.2 j hj
  refine ⟨h1, h2, ?_⟩
  have h3 := rest_length forth _ (fun k hk => gRow_pos hlow forth _ (h2 k hk).2)
  have h4 := congrArg List.length h1
  rw [List.length_append] at h4
  omega
structure RWIn (base B : Nat) (w : World) (cs : Array Value) (O Td : List Int) (vo vt : Value) (wr : World) : Prop where
  out : OInts wr base vo O
  todo : OInts wr base vt Td
  ap : Ap vo vt
  box : Blk wr B 34 cs
  below : Below w.heap.size w wr

end Go.Proofs.YtclfpjfjebheoaaDoor
/- The contract of bonsairef04.Sub. -/
namespace Go.Proofs.YtclfpjfjebheoaaDoor
open Go.RowKit

/-- What stands behind each round of the second loop: nodes so far, and their places in a table. -/
structure PT (t : Tr) (w : World) (cs : Array Value) (P : List Int) (j : Nat) (vb : Value) (gT : Nat) (vo : Value) (ns' : List Nd) (kvs : List Value) (place : Int → Int) (wr : World) : Prop where
  st : (P.take j).foldl (putStep t.nodes) ([], fun _ => 0) = (ns', place)
  out : OwnNK wr 65 (w.heap.size + 2) (fun b => gT < b) vo ns' kvs
  new : ∀ g, vo.ownBlock = some g → gT < g
  row : OInts wr (w.heap.size + 2) vb P.reverse
  old : ∀ g, vb.ownBlock = some g → g < gT
  tab : Blk wr gT 3 (tabOf t.nodes.length fun i => place (i : Int)).toArray
  far : w.heap.size + 2 ≤ gT
  box : Blk wr w.heap.size 34 cs
  res : Blk wr (w.heap.size + 1) 34 #[.slice none 0 0, .int .i64 0]
  below : Below w.heap.size w wr
theorem grown_then_below {a w w' : World} {r : Option Nat} (h : a.grownBy w r) (hb : Below w.heap.size w w') : a.grownBy w' r :=
  ⟨hb.os.trans h.os, hb.tape.trans h.tape, hb.output.trans h.output, Nat.le_trans h.size hb.size, fun i hi hr => (hb.block i (Nat.lt_of_lt_of_le hi h.size)).trans (h.block i hi hr)⟩
theorem PT.round {t : Tr} {w wo wb w8 : World} {cs : Array Value} {P : List Int} {j gT : Nat} {vb vo v8 kv : Value} {ns' : List Nd} {kvs : List Value} {place : Int → Int} {k : Int} {N : Nd} (h : PT t w cs P j vb gT vo ns' kvs place wo)
    (hk : P[j]? = some k) (hN : t.nodes[k.toNat]? = some N) (h0 : 0 ≤ k) (hd : N.d.Ok) (hgb : wo.grownBy wb (some gT)) (htab : Blk wb gT 3 (tabOf t.nodes.length fun i => if (i : Int) = k then (ns'.length : Int) else place (i : Int)).toArray)
    (hkv : OInts wb wo.heap.size kv (N.kids.map place)) (hown8 : w8.ownsRow (w.heap.size + 2) 65 9 v8 (ns'.length + 1) (nodesCells ns' kvs ++ nodeCells ⟨N.d, N.kids.map place⟩ kv)) (hg8 : wb.grownBy w8 vo.ownBlock)
    (hat8 : v8.ownBlock = vo.ownBlock ∨ v8.ownBlock = some (wb.heap.size + 1)) :
    PT t w cs P (j + 1) vb gT v8 (ns' ++ [⟨N.d, N.kids.map place⟩]) (kvs ++ [kv]) (fun i => if i = k then (ns'.length : Int) else place i) w8 := by
  have hTl := h.tab.lt
  have hbl : Below (w.heap.size + 2) wo wb := below_of_grown hgb (by have := h.far; omega) (fun r hr => by have := h.far; injection hr with hr; omega)
  have hvo : ∀ g, vo.ownBlock = some g → w.heap.size + 2 ≤ g := fun g hg => (own_blk_lt h.out.row hg).1
  have hs1 := hgb.size
  have hbl8 : Below (w.heap.size + 2) wb w8 := below_of_grown hg8 (by have := h.far; omega) hvo
  refine ⟨?_, ?_, ?_, ?_, h.old, ?_, h.far, ?_, ?_, ?_⟩
  · rw [List.take_add_one, hk, List.foldl_append, h.st]
    simp [putStep, hN]
  · have o2 := h.out.frame hgb (.inr fun e => by have := h.new gT e; omega) (fun g e hX => by injection e with e; omega)
    refine o2.push (RInts.of_own hkv fun b hb => ?_) hd hown8 hg8 ?_
    · have h1 := hkv.lt b hb
      refine ⟨by have := h.far; omega, h1.2, fun e => ?_, by omega, own_soft hkv hb⟩
      have := (own_blk_lt h.out.row e).2
      omega
    · rcases hat8 with e | e
      · exact .inl e
      · exact .inr fun g hg => by rw [e] at hg; injection hg; omega
  · intro g hg
    rcases hat8 with e | e
    · exact h.new g (e ▸ hg)
    · rw [e] at hg; injection hg with hg; omega
  · have r1 := h.row.frame hgb (by
      cases hv : vb.ownBlock with
      | none => exact .inl rfl
      | some g => exact .inr fun e => by injection e with e; have := h.old g hv; omega)
    refine r1.frame hg8 ?_
    cases hv : vb.ownBlock with
    | none => exact .inl rfl
    | some g => exact .inr fun e => by have h1 := h.old g hv; have h2 := h.new g e.symm; omega
  · exact htab.grown hg8 fun e => by have := h.new gT e.symm; omega
  · exact (h.box.below hbl (by omega)).below hbl8 (by omega)
  · exact (h.res.below hbl (by omega)).below hbl8 (by omega)
  · exact h.below.trans ((hbl.mono (by omega)).trans (hbl8.mono (by omega)))

set_option maxRecDepth 20000 in
set_option maxHeartbeats 8000000 in
theorem rsub_g {t : Tr} {v : Value} {S : Nat → Prop} {w : World} (h : GivenR t v S w) (node : Int) :
    Calls Tryd.prog 101 #[v, .int .i64 node] w fun e w' => ∃ u x is, e = .returned (.tuple #[u, .bool is]) ∧ OwnTree w' w.heap.size u x ∧ IsSub t node x is ∧ Below w.heap.size w w' := by
  classical
  have HR := Lib.hid (fun wx (hx : Below w.heap.size w wx) => rright_g (h.below hx))
  obtain ⟨nv, rfl, hns, hr1, hr2⟩ := h.given.read
  obtain ⟨A, c, rfl, hc, hs, hcells⟩ := hns.at_
  have HG := Lib.hid h
  by_cases hin : RightT t ∧ 0 ≤ node ∧ node < (t.nodes.length : Int)
  · obtain ⟨hr, h0, hn⟩ := hin
    rw [decide_eq_true hr] at HR
    have hlow := hr.shape.low
    have hsm := h.given.small
    have hS := h.given.old
    obtain ⟨b, off, rfl, hbS, _⟩ := hcells (by omega)
    have hbB := hS b hbS
    have hnl : node.toNat < t.nodes.length := by omega
    obtain ⟨P, hP⟩ : ∃ P, P = post t.nodes node.toNat := ⟨_, rfl⟩
    have hPl : P.length ≤ 500000 := by
      rw [hP, post_size hlow _ hnl]
      have := size_le hr.shape node.toNat hnl
      omega
    have hmk := make_zeros t.nodes.length (by omega)
    obtain ⟨Z, hZ⟩ : ∃ Z, Z = (tabOf t.nodes.length fun _ => 0).toArray := ⟨_, rfl⟩
    rw [← hZ] at hmk
    have HZ := Lib.hid hZ
    have HP := Lib.hid hP
    have HROW := Lib.hid (show P.reverse = [] ++ rest false t.nodes [node] by rw [hP]; simp [rest, gRow])
    have HFIN := Lib.hid (put_post hlow node.toNat hnl (post_nodup hr.shape _ hnl) [] (fun _ => 0))
    have HMEM := Lib.hid (fun (j : Nat) (k : Int) (hk : P[j]? = some k) => post_mem hlow hnl (by rw [← hP]; exact hk))
    have HNS := Lib.hid hns
    have HRT := Lib.hid hr
    obtain ⟨i0, hi0, hz0, hz1, hz2⟩ := info_parts int_info
    obtain ⟨i1, hi1, hy0, hy1, hy2⟩ := info_parts node_info
    clear hns h hr hcells hP hZ
    go_enter Tryd.func101, Tryd.ntmps101
    go_wp2_with fail
    refine (HR.out _ (((Below.refl _ _).alloc (Nat.le_refl _) _).alloc (by simp) _)).mono ?_
    rintro e w1 ⟨rfl, hb1⟩
    have hb01 : Below w.heap.size w w1 := (((Below.refl _ _).alloc (Nat.le_refl _) _).alloc (by simp) _).trans (hb1.mono (by simp; omega))
    have hB1 : Blk w1 w.heap.size 34 #[.slice (some ⟨b, off, none⟩) t.nodes.length c, .int .i64 t.root] := ((Blk.new w _ _).alloc _).below hb1 (by simp; omega)
    have hC1 : Blk w1 (w.heap.size + 1) 34 #[.slice none 0 0, .int .i64 0] := (Blk.new1 _ _ _ _).below hb1 (by simp)
    have d0 : w1.cell? ⟨w.heap.size, 0, none⟩ = some (.slice (some ⟨b, off, none⟩) t.nodes.length c) := hB1.cell 0
    have hw1 : w.heap.size + 1 < w1.heap.size := hC1.lt
    have HB1 := Lib.hid hB1
    have HC1 := Lib.hid hC1
    have Hb01 := Lib.hid hb01
    clear hb1 hB1 hb01 hC1
    go_wp2_with fail
    go_loopw [6, 7] (fun vo vt wr => ∃ (O Td : List Int) (Ao : Option Addr) (co : Nat) (At : Option Addr) (ct : Nat), vo = .slice Ao O.length co ∧ vt = .slice At Td.length ct ∧ Hid (RW t false (w.heap.size + 2) w.heap.size w #[.slice (some ⟨b, off, none⟩) t.nodes.length c, .int .i64 t.root] P.reverse O Td (.slice Ao O.length co) (.slice At Td.length ct) wr) ∧ Hid (Blk wr (w.heap.size + 1) 34 #[.slice none 0 0, .int .i64 0])) (fun vo _ _ => P.length - lenOf vo)
    case atStart =>
      refine ⟨[], [node], none, 0, some ⟨w1.heap.size, 0, none⟩, 1, rfl, rfl, Lib.hid ⟨OInts.nil_ _ _, ?_, Ap.nil_ _ _, HROW.out, fun k hk => ?_, HB1.out.alloc _, Hb01.out.alloc Hb01.out.size _⟩, Lib.hid (HC1.out.alloc _)⟩
      · exact OInts.lit1 w1 _ _ (by omega)
      · simp at hk; subst hk; exact ⟨h0, hnl⟩
    case round =>
      clear d0
      obtain ⟨wo, rfl⟩ : ∃ wo, wo = wr := ⟨_, rfl⟩
      obtain ⟨O, Td, Ao, co, At, ct, rfl, rfl, HW, HC⟩ := hrel
      have d0 : wo.cell? ⟨w.heap.size, 0, none⟩ = some (.slice (some ⟨b, off, none⟩) t.nodes.length c) := HW.out.box.cell 0
      rcases nil_or_snoc Td with rfl | ⟨T, k, rfl⟩
      · have hPO : P.reverse = O := by have := HW.out.row; simpa [rest] using this
        obtain rfl : O = P.reverse := hPO.symm
        have hlen : (P.reverse).length = P.length := List.length_reverse
        rw [hlen] at HW ⊢
        obtain ⟨n, hn'⟩ : ∃ n, n = P.length := ⟨_, rfl⟩
        have HNN := Lib.hid hn'
        rw [← hn'] at HW hPl ⊢
        clear hPO hlen hn'
        go_wp2_with fail
        have HWo := HW
        go_loopw [10, 11] (fun vo i wr => ∃ (m : Nat) (z : Int) (ns' : List Nd) (kvs : List Value) (place : Int → Int) (A' : Option Addr) (c' : Nat), m ≤ n ∧ i = .int .i64 z ∧ z = (m : Int) - 1 ∧ vo = .slice A' ns'.length c' ∧
          Hid (PT t w #[.slice (some ⟨b, off, none⟩) t.nodes.length c, .int .i64 t.root] P (n - m) (.slice Ao n co) wo.heap.size (.slice A' ns'.length c') ns' kvs place wr)) (fun _ i _ => ((intOf i) + 1).toNat)
        case atStart =>
          refine ⟨n, _, [], [], fun _ => 0, none, 0, Nat.le_refl _, rfl, rfl, rfl, Lib.hid ⟨by simp, OwnNK.nil_ _ _ _ _, fun g h => by simp [Value.ownBlock] at h, HWo.out.out.alloc _, fun g hg => (HWo.out.out.lt g hg).2, ?_, HC.out.lt, HWo.out.box.alloc _, HC.out.alloc _, HWo.out.below.alloc HWo.out.below.size _⟩⟩
          rw [← HZ.out]
          exact Blk.new _ _ _
        case round =>
          clear d0
          obtain ⟨wq, rfl⟩ : ∃ wq, wq = wr := ⟨_, rfl⟩
          obtain ⟨m, z, ns', kvs, place, A', c', hm, rfl, hz, rfl, HQ⟩ := hrel
          have d0 : wq.cell? ⟨w.heap.size, 0, none⟩ = some (.slice (some ⟨b, off, none⟩) t.nodes.length c) := HQ.out.box.cell 0
          rcases m with _ | m
          · obtain rfl : z = -1 := by omega
            clear hz
            obtain ⟨place', e1, _, _⟩ := HFIN.out
            have hst := HQ.out.st
            rw [Nat.sub_zero, HNN.out, List.take_length, HP.out, e1] at hst
            simp only [List.nil_append, List.length_nil] at hst
            injection hst with hst _
            have hsz : ns'.length = (D t.nodes node.toNat).size := by rw [← hst, flatAt_length]
            have hsp : 0 < ns'.length := by rw [hsz]; exact (D t.nodes node.toNat).size_pos
            have hsl : ns'.length ≤ 1000000 := by
              rw [hsz]
              have := size_le HRT.out.shape node.toNat hnl
              omega
            have HST := Lib.hid hst
            have HSZ := Lib.hid hsz
            have f0 := HQ.out.res.frozen 0
            have f1 := HQ.out.res.frozen 1
            have g0 : wq.cell? ⟨w.heap.size + 1, 0, none⟩ = some (.slice none 0 0) := HQ.out.res.cell 0
            have g1 : wq.cell? ⟨w.heap.size + 1, 1, none⟩ = some (.int .i64 0) := HQ.out.res.cell 1
            clear hst hsz e1
            go_wp2_with fail
            obtain ⟨w3, hw3⟩ : ∃ w3, w3 = (wq.setCell ⟨w.heap.size + 1, 0, none⟩ (.slice A' ns'.length c')).setCell ⟨w.heap.size + 1, 1, none⟩ (.int .i64 ((ns'.length : Int) - 1)) := ⟨_, rfl⟩
            have hB3 : Blk w3 (w.heap.size + 1) 34 #[.slice A' ns'.length c', .int .i64 ((ns'.length : Int) - 1)] := by
              rw [hw3]; exact (HQ.out.res.set_ 0 (.slice A' ns'.length c')).set_ 1 (.int .i64 ((ns'.length : Int) - 1))
            have ho2 : OwnNodes w3 65 (w.heap.size + 2) (fun _ => True) (.slice A' ns'.length c') ns' := by
              rw [hw3]
              exact (OwnNodes.weaken ⟨kvs, HQ.out.out⟩ fun _ _ _ _ => trivial).low (g := w.heap.size + 1) (grown_set2 _ _ _ _ _ _) (by omega)
            have hb3 : Below w.heap.size w w3 := by
              rw [hw3]
              exact (HQ.out.below.setCell (by simp) _).setCell (by simp) _
            rw [← hw3]
            refine bodyPost_ret (results_cell2 rfl _ _ (w.heap.size + 1) _ _ _ rfl hB3 Tryd.underlying34 rfl tree_size) rfl ?_
            refine ⟨_, flatT (D t.nodes node.toNat), true, rfl, ⟨.slice A' ns'.length c', ?_, ?_⟩, ⟨fun _ _ _ => ⟨rfl, rfl⟩, fun hno => absurd ⟨HRT.out, h0, hn⟩ hno⟩, hb3⟩
            · rw [flatT, HSZ.out]
            · show OwnNodes w3 _ _ _ _ (flatAt 0 (D t.nodes node.toNat))
              rw [HST.out]
              exact ho2.base_ (by omega)
          · obtain rfl : z = (m : Int) := by omega
            clear hz
            obtain ⟨k, hk⟩ : ∃ k, P[n - (m + 1)]? = some k := ⟨_, List.getElem?_eq_getElem (by have := HNN.out; omega)⟩
            obtain ⟨hk0, hkl⟩ := HMEM.out _ k hk
            obtain ⟨N, hN⟩ : ∃ N, t.nodes[k.toNat]? = some N := ⟨_, List.getElem?_eq_getElem hkl⟩
            obtain ⟨_, Ak, ck, hki, hdo, hck, hkc⟩ := (HNS.out.below HQ.out.below hS).known k.toNat N hN
            have hrev : P.reverse[m]? = some k := by
              have := HNN.out
              rw [List.getElem?_reverse (by omega), ← hk]; congr 1; omega
            obtain ⟨gr, rfl, -, hgr1, hgr2, hkr⟩ := HQ.out.row.at_ hrev
            have hgT := HQ.out.tab.lt
            have hgr3 : gr < wo.heap.size := HQ.out.old gr rfl
            have cc : ∀ i u, (nodeCells N (.slice Ak N.kids.length ck))[i]? = some u → wq.cell? ⟨b, off + (k.toNat * 9 + i), none⟩ = some u := hkc
            have c0 : wq.cell? ⟨b, off + k.toNat * 9, none⟩ = some (.int .u8 N.d.kind) := cc 0 _ rfl
            have c1 : wq.cell? ⟨b, off + k.toNat * 9 + 1, none⟩ = some (.int .u64 N.d.s0) := cc 1 _ rfl
            have c2 : wq.cell? ⟨b, off + k.toNat * 9 + 2, none⟩ = some (.int .u64 N.d.s1) := cc 2 _ rfl
            have c3 : wq.cell? ⟨b, off + k.toNat * 9 + 3, none⟩ = some (.int .u64 N.d.s2) := cc 3 _ rfl
            have c4 : wq.cell? ⟨b, off + k.toNat * 9 + 4, none⟩ = some (.int .u64 N.d.s3) := cc 4 _ rfl
            have c5 : wq.cell? ⟨b, off + k.toNat * 9 + 5, none⟩ = some (.string ⟨N.d.text.toArray⟩) := cc 5 _ rfl
            have c6 : wq.cell? ⟨b, off + k.toNat * 9 + 6, none⟩ = some (.int .i64 N.d.min) := cc 6 _ rfl
            have c7 : wq.cell? ⟨b, off + k.toNat * 9 + 7, none⟩ = some (.int .i64 N.d.max) := cc 7 _ rfl
            have c8 : wq.cell? ⟨b, off + k.toNat * 9 + 8, none⟩ = some (.slice Ak N.kids.length ck) := cc 8 _ rfl
            have hm0 : (0 : Int) ≤ (m : Int) := by omega
            have hlt : m < n := by omega
            have hmn : (m : Int) < (n : Int) := by omega
            have hkn : k < (t.nodes.length : Int) := by omega
            have HK := Lib.hid hk
            have HN := Lib.hid hN
            have HKI := Lib.hid hki
            have HDO := Lib.hid hdo
            have hkk : N.kids.length ≤ 1000000 := HG.out.kids N (List.mem_of_getElem? hN)
            have n0 := World.new_ne wq _ d0
            have n1 := World.new_ne wq _ hkr
            have n2 := World.new_ne wq _ c0
            clear hk hN hki hdo hkc cc hrev
            go_upto_region 15 with fail
            go_cut [12] from 69 to 76 (fun X wx => X = .pointer (some ⟨wq.heap.size, 0, none⟩) ∧ Hid (wx = (wq.alloc (.cells #[.int .u8 N.d.kind, .int .u64 N.d.s0, .int .u64 N.d.s1, .int .u64 N.d.s2, .int .u64 N.d.s3, .string ⟨N.d.text.toArray⟩, .int .i64 N.d.min, .int .i64 N.d.max, .slice Ak N.kids.length ck] 65)).drew))
            case first =>

              go_region_held3 (fun w' => w'.cell? ⟨w.heap.size, 0, none⟩ = some (.slice (some ⟨b, off, none⟩) t.nodes.length c) ∧ w'.cell? ⟨gr, m, none⟩ = some (.int .i64 k) ∧ w'.cell? ⟨b, off + k.toNat * 9, none⟩ = some (.int .u8 N.d.kind) ∧ w'.cell? ⟨b, off + k.toNat * 9 + 1, none⟩ = some (.int .u64 N.d.s0) ∧ w'.cell? ⟨b, off + k.toNat * 9 + 2, none⟩ = some (.int .u64 N.d.s1) ∧ w'.cell? ⟨b, off + k.toNat * 9 + 3, none⟩ = some (.int .u64 N.d.s2) ∧ w'.cell? ⟨b, off + k.toNat * 9 + 4, none⟩ = some (.int .u64 N.d.s3) ∧ w'.cell? ⟨b, off + k.toNat * 9 + 5, none⟩ = some (.string ⟨N.d.text.toArray⟩) ∧ w'.cell? ⟨b, off + k.toNat * 9 + 6, none⟩ = some (.int .i64 N.d.min) ∧ w'.cell? ⟨b, off + k.toNat * 9 + 7, none⟩ = some (.int .i64 N.d.max) ∧ w'.cell? ⟨b, off + k.toNat * 9 + 8, none⟩ = some (.slice Ak N.kids.length ck)) (go_keep) (fail)
              all_goals (go_wp2_with fail)
              all_goals go_meet
              all_goals exact ⟨rfl, Lib.hid rfl⟩
            case rest =>
              obtain ⟨rfl, HWC⟩ := hcut
              have hcw : wq.grownBy wc none := by rw [HWC.out]; exact only_drew (only_alloc (grown_refl wq none) _)
              have hnb : Blk wc wq.heap.size 65 #[.int .u8 N.d.kind, .int .u64 N.d.s0, .int .u64 N.d.s1, .int .u64 N.d.s2, .int .u64 N.d.s3, .string ⟨N.d.text.toArray⟩, .int .i64 N.d.min, .int .i64 N.d.max, .slice Ak N.kids.length ck] := by rw [HWC.out]; exact (Blk.new _ _ _).drew
              have htb : Blk wc wo.heap.size 3 (tabOf t.nodes.length fun i => place (i : Int)).toArray := HQ.out.tab.grown hcw (by simp)
              have hcr : wc.cell? ⟨gr, m, none⟩ = some (.int .i64 k) := hcw.cell hkr (by simp)
              have hct : wc.cell? ⟨wo.heap.size, k.toNat, none⟩ = some (.int .i64 (place k)) := by
                rw [htb.cell, List.getElem?_toArray, tabOf_at hkl, Int.toNat_of_nonneg hk0]
              have hft := htb.frozen k.toNat
              have hnl' : ns'.length ≤ 1000000 := by
                have h1 := putStep_length t.nodes (P.take (n - (m + 1))) ([], fun _ => 0)
                rw [HQ.out.st] at h1
                simp only [List.length_take, List.length_nil] at h1
                omega
              have HCW := Lib.hid hcw
              have HNB := Lib.hid hnb
              have HTB := Lib.hid htb
              clear hcw hnb htb d0 hkr c0 c1 c2 c3 c4 c5 c6 c7 c8 n0 n1 n2
              go_wp2_with fail
              obtain ⟨wa, hwa⟩ : ∃ wa, wa = wc.setCell ⟨wo.heap.size, k.toNat, none⟩ (.int .i64 (ns'.length : Int)) := ⟨_, rfl⟩
              rw [← hwa]
              have hga : wq.grownBy wa (some wo.heap.size) := by
                rw [hwa]
                exact only_setCell (a := wq) (g := wo.heap.size) ⟨HCW.out.os, HCW.out.tape, HCW.out.output, HCW.out.size, fun i hi _ => HCW.out.block i hi (by simp)⟩ (.inl rfl) _
              have hna : Blk wa wq.heap.size 65 #[.int .u8 N.d.kind, .int .u64 N.d.s0, .int .u64 N.d.s1, .int .u64 N.d.s2, .int .u64 N.d.s3, .string ⟨N.d.text.toArray⟩, .int .i64 N.d.min, .int .i64 N.d.max, .slice Ak N.kids.length ck] := by rw [hwa]; exact HNB.out.far (by simp; omega) _
              have hta : Blk wa wo.heap.size 3 (tabOf t.nodes.length fun i => if (i : Int) = k then (ns'.length : Int) else place (i : Int)).toArray := by
                rw [hwa]
                have := HTB.out.set_ k.toNat (.int .i64 (ns'.length : Int))
                rw [List.setIfInBounds_toArray, tabOf_set (G := fun i => if (i : Int) = k then (ns'.length : Int) else place (i : Int)) _ (fun j _ => by
                  by_cases e : j = k.toNat
                  · rw [if_pos e, if_pos (by omega)]
                  · rw [if_neg e, if_neg (by omega)])] at this
                exact this
              have HGA := Lib.hid hga
              have HNA := Lib.hid hna
              have HTA := Lib.hid hta
              have hwl : wq.heap.size < wa.heap.size := hna.lt
              clear hwa hga hna hta hct hft hcr
              go_loopw [13, 14] (fun v i wr => ∃ (q : Nat) (A3 : Option Addr) (c3 : Nat), q ≤ N.kids.length ∧ i = .int .i64 q ∧ v = .slice A3 q c3 ∧ Hid (OInts wr wa.heap.size (.slice A3 q c3) ((N.kids.take q).map place)) ∧ Hid (Below wa.heap.size wa wr)) (fun _ i _ => N.kids.length - (intOf i).toNat)
              case atStart => exact ⟨0, none, 0, Nat.zero_le _, rfl, rfl, Lib.hid (OInts.nil_ _ _), Lib.hid (Below.refl _ _)⟩
              case round =>
                obtain ⟨wi, rfl⟩ : ∃ wi, wi = wr := ⟨_, rfl⟩
                obtain ⟨q, A3, c3, hq, rfl, rfl, HKR, HBI⟩ := hrel
                have hni := HNA.out.below HBI.out HNA.out.lt
                obtain ⟨e0, e1, e2, e3, e4, e5, e6, e7, e8⟩ := hni.nine
                have hsa := HBI.out.size
                by_cases hql : q < N.kids.length
                · obtain ⟨kk, hkk⟩ : ∃ kk, N.kids[q]? = some kk := ⟨_, List.getElem?_eq_getElem hql⟩
                  have hkb := hlow _ N HN.out kk (List.mem_of_getElem? hkk)
                  obtain ⟨bk, ok, rfl, hbk, hkc⟩ := (HKI.out.keep (w' := wi) fun p hp => by
                    have h1 := hS _ hp
                    exact (HBI.out.cell (by omega)).trans (World.cell?_of_block (HGA.out.block p.block (by omega) (by simp; omega)))).get q kk hkk
                  obtain ⟨x, hx⟩ : ∃ x, x = place kk := ⟨_, rfl⟩
                  have hct : wi.cell? ⟨wo.heap.size, kk.toNat, none⟩ = some (.int .i64 x) := by
                    rw [(HTA.out.below HBI.out HTA.out.lt).cell, List.getElem?_toArray, tabOf_at (by omega), if_neg (by omega), Int.toNat_of_nonneg hkb.1, hx]
                  have hkk0 : 0 ≤ kk := hkb.1
                  have hkkl : kk < (t.nodes.length : Int) := by omega
                  have hql' : (q : Int) < (N.kids.length : Int) := by omega
                  have HKO := Lib.hid (show wi.ownsRow wa.heap.size 3 1 (.slice A3 q c3) q (((N.kids.take q).map place).map (Value.int .i64)) by
                    have h1 := HKR.out
                    unfold OInts at h1
                    have e : ((N.kids.take q).map place).length = q := by simp; omega
                    rwa [e] at h1)
                  have HX := Lib.hid (show (N.kids.take (q + 1)).map place = (N.kids.take q).map place ++ [x] by rw [List.take_add_one, hkk, hx]; simp)
                  clear hkk hx hni hkb
                  go_wp2_with (at_builtin; go_loud (refine wpList_append1 wi rfl (.tmp 92) (.tmp 101) _ rfl wa.heap.size 3 i0 _ 1 8 Tryd.underlying63 hi0 hz0 hz1 hz2 rfl (by omega) (.slice A3 q c3) q _ rfl HKO.out [.int .i64 x] rfl rfl (by simp [Value.oneCell']) (by unfold maxLen; omega) (by omega) (by omega) ?_); intro v5 w5 hown5 hgg5 hat5; have HOWN5 := Lib.hid hown5; have HGG5 := Lib.hid hgg5; clear hown5 hgg5 hat5)
                  go_roundw
                  case measure => simp [intOf]; omega
                  case rel =>
                    obtain ⟨A5, c5, rfl, _, _, _⟩ := own_slice HOWN5.out
                    (repeat apply Exists.intro)
                    refine ⟨?_, rfl⟩
                    refine ⟨q + 1, A5, c5, by omega, by go_num, rfl, Lib.hid ?_, Lib.hid (HBI.out.trans (below_of_grown HGG5.out hsa (fun r hr => (HKR.out.lt r hr).1)))⟩
                    have h1 := HOWN5.out
                    unfold OInts
                    have e : ((N.kids.take (q + 1)).map place).length = q + 1 := by simp; omega
                    rw [e, HX.out, List.map_append]
                    exact h1
                · obtain rfl : q = N.kids.length := by omega
                  have f8 := hni.frozen 8
                  have hgi := grown_then_below HGA.out HBI.out
                  obtain ⟨wb, hwb⟩ : ∃ wb, wb = wi.setCell ⟨wq.heap.size, 8, none⟩ (.slice A3 N.kids.length c3) := ⟨_, rfl⟩
                  have hgb : wq.grownBy wb (some wo.heap.size) := by rw [hwb]; exact only_setCell hgi (.inr (Nat.le_refl _)) _
                  have hrow : wb.ownsRow (w.heap.size + 2) 65 9 (.slice A' ns'.length c') ns'.length (nodesCells ns' kvs) := HQ.out.out.row.kept hgb (.inr fun e => by have := HQ.out.new _ e; omega)
                  have hkv : OInts wb wq.heap.size (.slice A3 N.kids.length c3) (N.kids.map place) := by
                    have h1 := HKR.out
                    rw [List.take_length] at h1
                    rw [hwb]
                    refine (h1.frame (r := some wq.heap.size) (only_setCell (grown_refl _ _) (.inl rfl) _) ?_).base_ (by omega)
                    cases hv : (Value.slice A3 N.kids.length c3).ownBlock with
                    | none => exact .inl rfl
                    | some g => exact .inr fun e => by injection e with e; have := (h1.lt g hv).1; omega
                  have htb : Blk wb wo.heap.size 3 (tabOf t.nodes.length fun i => if (i : Int) = k then (ns'.length : Int) else place (i : Int)).toArray := by
                    rw [hwb]; exact (HTA.out.below HBI.out HTA.out.lt).far (by simp; omega) _
                  have HWB := Lib.hid hwb
                  have HGB := Lib.hid hgb
                  have HROWB := Lib.hid hrow
                  have HKV := Lib.hid hkv
                  have HTBB := Lib.hid htb
                  have hwbs : wq.heap.size ≤ wb.heap.size := hgb.size
                  have hwbl : w.heap.size + 2 ≤ wb.heap.size := by omega
                  clear hwb hgb hrow hkv htb hni hgi
                  rw [HWB.out] at HROWB HGB HKV HTBB hwbs hwbl
                  go_wp2_with (at_builtin; go_loud (refine wpList_append1N (wi.setCell ⟨wq.heap.size, 8, none⟩ (.slice A3 N.kids.length c3)) wi.heap.size (setCell_size _ _ _) rfl (.tmp 105) (.tmp 107) _ rfl (w.heap.size + 2) 65 i1 _ 9 96 Tryd.underlying32 hi1 hy0 hy1 hy2 rfl (by omega) (.slice A' ns'.length c') ns'.length (nodesCells ns' kvs) rfl HROWB.out [_, _, _, _, _, _, _, _, _] rfl rfl (by simp [Value.oneCell']) (by unfold maxLen; omega) (by omega) hwbl ?_); intro v8 w8 hown8 hg8 hat8; have HOWN8 := Lib.hid hown8; have HG8 := Lib.hid hg8; have HAT8 := Lib.hid hat8; clear hown8 hg8 hat8)
                  go_roundw
                  case measure => simp [intOf]
                  case rel =>
                    obtain ⟨A8, c8', rfl, _, _, _⟩ := own_slice HOWN8.out
                    have hpt := HQ.out.round HK.out HN.out hk0 HDO.out HGB.out HTBB.out HKV.out HOWN8.out HG8.out HAT8.out
                    have e : (ns' ++ [(⟨N.d, N.kids.map place⟩ : Nd)]).length = ns'.length + 1 := by simp
                    have e2 : n - (m + 1) + 1 = n - m := by omega
                    rw [e2] at hpt
                    (repeat apply Exists.intro)
                    refine ⟨?_, rfl⟩
                    exact ⟨m, _, ns' ++ [⟨N.d, N.kids.map place⟩], _, _, A8, c8', by omega, rfl, rfl, by rw [e], Lib.hid (by rw [e]; exact hpt)⟩
      · have hszs := HW.out.sizes hlow
        rw [List.length_append, List.length_singleton, List.length_reverse] at hszs
        have hkf := HW.out.fine k (by simp)
        obtain ⟨N, hN⟩ : ∃ N, t.nodes[k.toNat]? = some N := ⟨_, List.getElem?_eq_getElem hkf.2⟩
        have hnext := HW.out.next hlow
        rw [pushed_of hN, if_neg (by decide)] at hnext
        obtain ⟨hrow2, hfine2, hsz2⟩ := hnext
        simp only [List.length_append, List.length_singleton, List.length_reverse] at hsz2
        obtain ⟨g, rfl, -, hg1, hg2, hk⟩ := HW.out.todo.at_ (j := T.length) (k := k) (by simp)
        obtain ⟨A', c', hv', hc1, hc2⟩ := HW.out.todo.slice
        injection hv' with hAA _ hcc
        subst hcc
        clear hAA
        have hTl : T.length + 1 ≤ 1000000000 := by omega
        have hOl : O.length + 1 ≤ 1000000000 := by omega
        have hbo := HW.out.below.size
        have hCl := HC.out.lt
        have HSH := Lib.hid (show OInts wo (w.heap.size + 2) (.slice (some ⟨g, 0, none⟩) T.length ct) T by
          have := HW.out.todo.shrink (m := T.length) (by simp)
          simpa using this)
        have HROW2 := Lib.hid hrow2
        have HFINE2 := Lib.hid hfine2
        have HAP := Lib.hid (show Ap (.slice (some ⟨g, 0, none⟩) T.length ct) (.slice Ao O.length co) from fun x h1 h2 => HW.out.ap.symm x (by simpa [Value.ownBlock] using h1) h2)
        obtain ⟨_, Ak, ck, hki, -, hck, hkc⟩ := (HNS.out.below HW.out.below hS).known k.toNat N hN
        have c8 : wo.cell? ⟨b, off + k.toNat * 9 + 8, none⟩ = some (.slice Ak N.kids.length ck) := hkc 8 _ rfl
        have HKI := Lib.hid hki
        have HN := Lib.hid hN
        have hk0 : 0 ≤ k := hkf.1
        have hkl : k < (t.nodes.length : Int) := by omega
        have hkk : N.kids.length ≤ 1000000 := HG.out.kids N (List.mem_of_getElem? HN.out)
        clear hkc hki hkf hrow2 hfine2 hN
        simp only [List.length_append, List.length_singleton] at hc1 ⊢
        have hTc : (T.length : Int) ≤ (ct : Int) := by omega
        go_wp2_with (first
          | (at_builtin
             go_loud (refine wpList_append1 wo rfl (.tmp 46) (.tmp 48) _ rfl (w.heap.size + 2) 3 i0 _ 1 8 Tryd.underlying63 hi0 hz0 hz1 hz2 rfl (by omega) (.slice Ao O.length co) O.length (O.map (Value.int .i64)) rfl HW.out.out [.int .i64 k] rfl rfl (by simp [Value.oneCell']) (by unfold maxLen; omega) (by omega) (by omega) ?_)
             intro v1 w2 hown1 hgg hat1
             have hb2 : Below w.heap.size w w2 := HW.out.below.trans (below_of_grown hgg HW.out.below.size (fun r hr => by have := (HW.out.out.lt r hr).1; omega))
             have hB2 := HW.out.box.grown hgg (fun e => by have := (HW.out.out.lt _ e.symm).1; omega)
             have hC2 := HC.out.grown hgg (fun e => by have := (HW.out.out.lt _ e.symm).1; omega)
             have d0 : w2.cell? ⟨w.heap.size, 0, none⟩ = some (.slice (some ⟨b, off, none⟩) t.nodes.length c) := hB2.cell 0
             have c8 : w2.cell? ⟨b, off + k.toNat * 9 + 8, none⟩ = some (.slice Ak N.kids.length ck) := (hgg.cell c8 (fun e => by have := (HW.out.out.lt _ e.symm).1; simp only at this; omega))
             have hbes := HSH.out.beside HAP.out hgg hat1 (Nat.le_succ _)
             have HT2 := Lib.hid (show w2.ownsRow (w.heap.size + 2) 3 1 (.slice (some ⟨g, 0, none⟩) T.length ct) T.length (T.map (Value.int .i64)) from hbes.1)
             have HAP2 := Lib.hid hbes.2
             have HRD := Lib.hid (Row.reads (HKI.out.keep (w' := w2) fun p hp => (hb2.cell (hS _ hp)).trans (HW.out.below.cell (hS _ hp)).symm) (B := w2.heap.size) (fun b hb => Nat.lt_of_lt_of_le (hS b hb) hb2.size))
             have hsz2' : w.heap.size + 2 ≤ w2.heap.size := Nat.le_trans (by omega) hgg.size
             have HOWN1 := Lib.hid hown1
             have HB2 := Lib.hid hB2
             have HC2 := Lib.hid hC2
             have Hb2 := Lib.hid hb2
             clear hown1 hgg hat1 hB2 hb2 hC2 hbes)
          | (at_builtin
             go_loud (refine wpList_append_any w2 rfl (.tmp 50) (.tmp 56) _ rfl (w.heap.size + 2) 3 i0 _ 1 8 Tryd.underlying63 hi0 hz0 hz1 hz2 rfl (by omega) (.slice (some ⟨g, 0, none⟩) T.length ct) T.length (T.map (Value.int .i64)) rfl HT2.out w2.heap.size Ak N.kids.length ck (N.kids.map (Value.int .i64)) rfl HRD.out (by simp [Value.oneCell']) (by unfold maxLen; omega) (by omega) hsz2' ?_)
             intro v3 w3 hown3 hg3 hat3
             have HOWN3 := Lib.hid hown3
             have HG3 := Lib.hid hg3
             have HAT3 := Lib.hid hat3
             clear hown3 hg3 hat3))
        obtain ⟨A1, c1, rfl, _, _, _⟩ := own_slice HOWN1.out
        obtain ⟨A3, c3, rfl, _, _, _⟩ := own_slice HOWN3.out
        have hbes3 := OInts.beside (OInts.push1 HOWN1.out) HAP2.out.symm HG3.out HAT3.out (Nat.le_refl _)
        have hTb : ∀ r, (Value.slice (some ⟨g, 0, none⟩) T.length ct).ownBlock = some r → w.heap.size + 2 ≤ r := fun r hr => by
          have : g = r := by simpa [Value.ownBlock] using hr
          omega
        go_roundw
        case measure => simp [lenOf]; omega
        case rel =>
          have e1 : (O ++ [k]).length = O.length + 1 := by simp
          have e2 : (T ++ N.kids).length = T.length + N.kids.length := by simp
          refine ⟨O ++ [k], T ++ N.kids, A1, c1, A3, c3, by rw [e1], by rw [e2], Lib.hid ⟨?_, ?_, ?_, HROW2.out, HFINE2.out, ?_, ?_⟩, Lib.hid ?_⟩
          · rw [e1]; exact hbes3.1
          · rw [e2]; exact OInts.push HOWN3.out
          · rw [e1, e2]; exact hbes3.2
          · exact HB2.out.grown HG3.out (fun e => by have := hTb _ e.symm; omega)
          · exact Hb2.out.trans (below_of_grown HG3.out Hb2.out.size (fun r hr => by have := hTb r hr; omega))
          · exact HC2.out.grown HG3.out (fun e => by have := hTb _ e.symm; omega)
  · have HIN := Lib.hid hin
    have hcase : ¬ RightT t ∨ (RightT t ∧ node < 0) ∨ (RightT t ∧ 0 ≤ node ∧ (t.nodes.length : Int) ≤ node) := by
      by_cases hr : RightT t
      · by_cases h0 : 0 ≤ node
        · exact .inr (.inr ⟨hr, h0, by
            rcases Int.lt_or_le node (t.nodes.length : Int) with h1 | h1
            · exact absurd ⟨hr, h0, h1⟩ hin
            · exact h1⟩)
        · exact .inr (.inl ⟨hr, by omega⟩)
      · exact .inl hr
    clear hin h hns
    rcases hcase with hr | ⟨hr, hn0⟩ | ⟨hr, hn0, hn1⟩
    · rw [decide_eq_false hr] at HR
      clear hr
      go_enter Tryd.func101, Tryd.ntmps101
      go_wp2_with (first
        | (go_at_call 91
           refine (HR.out _ (((Below.refl _ _).alloc (Nat.le_refl _) _).alloc (by simp) _)).mono ?_
           rintro e w1 ⟨rfl, hb1⟩
           have hb01 : Below w.heap.size w w1 := (((Below.refl _ _).alloc (Nat.le_refl _) _).alloc (by simp) _).trans (hb1.mono (by simp; omega))
           have d0 : w1.cell? ⟨w.heap.size, 0, none⟩ = some (.slice A t.nodes.length c) := by
             rw [hb1.cell (p := ⟨w.heap.size, 0, none⟩) (by simp; omega)]; exact ((Blk.new w _ _).alloc _).cell 0
           have hB1 : Blk w1 (w.heap.size + 1) 34 #[.slice none 0 0, .int .i64 0] := (Blk.new1 _ _ _ _).below hb1 (by simp)
           have f0 := hB1.frozen 0
           have f1 := hB1.frozen 1
           have e0 : w1.cell? ⟨w.heap.size + 1, 0, none⟩ = some (.slice none 0 0) := hB1.cell 0
           have e1 : w1.cell? ⟨w.heap.size + 1, 1, none⟩ = some (.int .i64 0) := hB1.cell 1
           have HB1 := Lib.hid hB1
           clear hb1 hB1)
        | fail)
      obtain ⟨w3, hw3⟩ : ∃ w3, w3 = (w1.setCell ⟨w.heap.size + 1, 0, none⟩ (.slice none 0 0)).setCell ⟨w.heap.size + 1, 1, none⟩ (.int .i64 0) := ⟨_, rfl⟩
      have hB3 : Blk w3 (w.heap.size + 1) 34 #[.slice none 0 0, .int .i64 0] := by
        rw [hw3]; exact (HB1.out.set_ 0 (.slice none 0 0)).set_ 1 (.int .i64 0)
      have hb3 : Below w.heap.size w w3 := by
        rw [hw3]
        exact (hb01.setCell (by simp) _).setCell (by simp) _
      rw [← hw3]
      refine bodyPost_ret (results_cell2 rfl _ _ (w.heap.size + 1) _ _ _ rfl hB3 Tryd.underlying34 rfl tree_size) rfl ?_
      exact ⟨_, _, _, rfl, OwnTree.zero _ _, ⟨fun a b c => absurd ⟨a, b, c⟩ HIN.out, fun _ => ⟨rfl, rfl⟩⟩, hb3⟩
    · rw [decide_eq_true hr] at HR
      clear hr
      go_enter Tryd.func101, Tryd.ntmps101
      go_wp2_with (first
        | (go_at_call 91
           refine (HR.out _ (((Below.refl _ _).alloc (Nat.le_refl _) _).alloc (by simp) _)).mono ?_
           rintro e w1 ⟨rfl, hb1⟩
           have hb01 : Below w.heap.size w w1 := (((Below.refl _ _).alloc (Nat.le_refl _) _).alloc (by simp) _).trans (hb1.mono (by simp; omega))
           have d0 : w1.cell? ⟨w.heap.size, 0, none⟩ = some (.slice A t.nodes.length c) := by
             rw [hb1.cell (p := ⟨w.heap.size, 0, none⟩) (by simp; omega)]; exact ((Blk.new w _ _).alloc _).cell 0
           have hB1 : Blk w1 (w.heap.size + 1) 34 #[.slice none 0 0, .int .i64 0] := (Blk.new1 _ _ _ _).below hb1 (by simp)
           have f0 := hB1.frozen 0
           have f1 := hB1.frozen 1
           have e0 : w1.cell? ⟨w.heap.size + 1, 0, none⟩ = some (.slice none 0 0) := hB1.cell 0
           have e1 : w1.cell? ⟨w.heap.size + 1, 1, none⟩ = some (.int .i64 0) := hB1.cell 1
           have HB1 := Lib.hid hB1
           clear hb1 hB1)
        | fail)
      obtain ⟨w3, hw3⟩ : ∃ w3, w3 = (w1.setCell ⟨w.heap.size + 1, 0, none⟩ (.slice none 0 0)).setCell ⟨w.heap.size + 1, 1, none⟩ (.int .i64 0) := ⟨_, rfl⟩
      have hB3 : Blk w3 (w.heap.size + 1) 34 #[.slice none 0 0, .int .i64 0] := by
        rw [hw3]; exact (HB1.out.set_ 0 (.slice none 0 0)).set_ 1 (.int .i64 0)
      have hb3 : Below w.heap.size w w3 := by
        rw [hw3]
        exact (hb01.setCell (by simp) _).setCell (by simp) _
      rw [← hw3]
      refine bodyPost_ret (results_cell2 rfl _ _ (w.heap.size + 1) _ _ _ rfl hB3 Tryd.underlying34 rfl tree_size) rfl ?_
      exact ⟨_, _, _, rfl, OwnTree.zero _ _, ⟨fun a b c => absurd ⟨a, b, c⟩ HIN.out, fun _ => ⟨rfl, rfl⟩⟩, hb3⟩
    · rw [decide_eq_true hr] at HR
      clear hr
      go_enter Tryd.func101, Tryd.ntmps101
      go_wp2_with (first
        | (go_at_call 91
           refine (HR.out _ (((Below.refl _ _).alloc (Nat.le_refl _) _).alloc (by simp) _)).mono ?_
           rintro e w1 ⟨rfl, hb1⟩
           have hb01 : Below w.heap.size w w1 := (((Below.refl _ _).alloc (Nat.le_refl _) _).alloc (by simp) _).trans (hb1.mono (by simp; omega))
           have d0 : w1.cell? ⟨w.heap.size, 0, none⟩ = some (.slice A t.nodes.length c) := by
             rw [hb1.cell (p := ⟨w.heap.size, 0, none⟩) (by simp; omega)]; exact ((Blk.new w _ _).alloc _).cell 0
           have hB1 : Blk w1 (w.heap.size + 1) 34 #[.slice none 0 0, .int .i64 0] := (Blk.new1 _ _ _ _).below hb1 (by simp)
           have f0 := hB1.frozen 0
           have f1 := hB1.frozen 1
           have e0 : w1.cell? ⟨w.heap.size + 1, 0, none⟩ = some (.slice none 0 0) := hB1.cell 0
           have e1 : w1.cell? ⟨w.heap.size + 1, 1, none⟩ = some (.int .i64 0) := hB1.cell 1
           have HB1 := Lib.hid hB1
           clear hb1 hB1)
        | fail)
      obtain ⟨w3, hw3⟩ : ∃ w3, w3 = (w1.setCell ⟨w.heap.size + 1, 0, none⟩ (.slice none 0 0)).setCell ⟨w.heap.size + 1, 1, none⟩ (.int .i64 0) := ⟨_, rfl⟩
      have hB3 : Blk w3 (w.heap.size + 1) 34 #[.slice none 0 0, .int .i64 0] := by
        rw [hw3]; exact (HB1.out.set_ 0 (.slice none 0 0)).set_ 1 (.int .i64 0)
      have hb3 : Below w.heap.size w w3 := by
        rw [hw3]
        exact (hb01.setCell (by simp) _).setCell (by simp) _
      rw [← hw3]
      refine bodyPost_ret (results_cell2 rfl _ _ (w.heap.size + 1) _ _ _ rfl hB3 Tryd.underlying34 rfl tree_size) rfl ?_
      exact ⟨_, _, _, rfl, OwnTree.zero _ _, ⟨fun a b c => absurd ⟨a, b, c⟩ HIN.out, fun _ => ⟨rfl, rfl⟩⟩, hb3⟩
end Go.Proofs.YtclfpjfjebheoaaDoor
/- The contracts of bonsairef04.Clean, Kids. -/
namespace Go.Proofs.YtclfpjfjebheoaaDoor
set_option linter.unusedSimpArgs false
open Go.RowKit
open Classical

set_option maxHeartbeats 2000000 in
theorem rClean_g {t : Tr} {v : Value} {S : Nat → Prop} {w : World} (h : GivenR t v S w) :
    Calls Tryd.prog 98 #[v] w fun e w' => ∃ u, e = .returned u ∧ OwnTree w' w.heap.size u (cleanOf t) ∧ Below w.heap.size w w' := by
  have HS := Lib.hid (fun (wx : World) (hx : Below w.heap.size w wx) => rsub_g (h.below hx) t.root)
  have hcl : ∀ x is, IsSub t t.root x is → x = cleanOf t := by
    intro x is hs
    unfold cleanOf
    by_cases hr : RightT t
    · rw [if_pos hr]
      exact (hs.yes hr hr.shape.pos (by have := hr.shape.top; omega)).2
    · rw [if_neg hr]
      exact (hs.no fun h => hr h.1).2
  have HCL := Lib.hid hcl
  obtain ⟨nv, rfl, hns, hr1, hr2⟩ := h.given.read
  clear h hcl
  go_enter Tryd.func98, Tryd.ntmps98
  go_wp2_with (first
    | (go_at_call 101
       refine (HS.out _ (((Below.refl _ _).alloc (Nat.le_refl _) _).alloc (by simp) _)).mono ?_
       rintro e w1 ⟨u, x, is, rfl, ⟨xv, rfl, kvs, ho0⟩, hsub, hb1⟩
       obtain ⟨A2, c2, rfl, _, _, _⟩ := own_slice ho0.row
       have ho : OwnNodes w1 65 _ (fun _ => True) (.slice A2 x.nodes.length c2) x.nodes := ⟨kvs, ho0⟩
       have hb01 : Below w.heap.size w w1 := (((Below.refl _ _).alloc (Nat.le_refl _) _).alloc (by simp) _).trans (hb1.mono (by simp <;> omega))
       have hB1 : Blk w1 (w.heap.size + 1) 34 #[.slice none 0 0, .int .i64 0] := (Blk.new1 _ _ _ _).below hb1 (by simp)
       have e0 : ∀ o : Obj, (w1.alloc o).cell? ⟨w.heap.size + 1, 0, none⟩ = some (.slice none 0 0) := fun o => (hB1.alloc o).cell 0
       have e1 : ∀ o : Obj, (w1.alloc o).cell? ⟨w.heap.size + 1, 1, none⟩ = some (.int .i64 0) := fun o => (hB1.alloc o).cell 1
       have f0 : ∀ o : Obj, (w1.alloc o).frozen? ⟨w.heap.size + 1, 0, none⟩ = false := fun o => (hB1.alloc o).frozen 0
       have f1 : ∀ o : Obj, (w1.alloc o).frozen? ⟨w.heap.size + 1, 1, none⟩ = false := fun o => (hB1.alloc o).frozen 1
       have HB1 := Lib.hid hB1
       have HO := Lib.hid ho
       have HSUB := Lib.hid hsub
       clear hb1 hB1 ho hsub)
    | fail)
  have hO1 := HO.out
  simp only [World.size_alloc] at hO1
  have hO2 := (hO1.below ((Below.refl _ _).alloc (Nat.le_refl _) (.cells #[.slice A2 x.nodes.length c2, .int .i64 x.root] 34))).low (g := w.heap.size + 1) (grown_set2 _ _ 0 1 (.slice A2 x.nodes.length c2) (.int .i64 x.root)) (by omega)
  have hB2 := (HB1.out.alloc (.cells #[.slice A2 x.nodes.length c2, .int .i64 x.root] 34)).set2 (.slice A2 x.nodes.length c2) (.int .i64 x.root)
  have hb2 := ((hb01.alloc hb01.size (.cells #[.slice A2 x.nodes.length c2, .int .i64 x.root] 34)).setCell (p := ⟨w.heap.size + 1, 0, none⟩) (by simp) (.slice A2 x.nodes.length c2)).setCell (p := ⟨w.heap.size + 1, 1, none⟩) (by simp) (.int .i64 x.root)
  refine bodyPost_ret (results_cell1 rfl _ _ (w.heap.size + 1) _ _ _ rfl hB2 Tryd.underlying34 rfl tree_size) rfl ?_
  rw [← HCL.out x is HSUB.out]
  exact ⟨_, rfl, ⟨.slice A2 x.nodes.length c2, rfl, hO2.base_ (by omega)⟩, hb2⟩


set_option maxRecDepth 20000 in
set_option maxHeartbeats 8000000 in
theorem rKids_g {t : Tr} {v : Value} {S : Nat → Prop} {w : World} (h : GivenR t v S w) :
    Calls Tryd.prog 92 #[v] w fun e w' => ∃ u, e = .returned u ∧ OwnList w' w.heap.size w.heap.size u (kidsOfT t) ∧ Below w.heap.size w w' := by
  have HR := Lib.hid (fun wx (hx : Below w.heap.size w wx) => rright_g (h.below hx))
  have HG := Lib.hid h
  obtain ⟨nv, rfl, hns, hr1, hr2⟩ := h.given.read
  obtain ⟨A, c, rfl, hc, hs, _⟩ := hns.at_
  clear h hns
  by_cases hr : RightT t
  · rw [decide_eq_true hr] at HR
    obtain ⟨rn, hrn⟩ : ∃ rn : Nat, t.root = (rn : Int) := ⟨t.root.toNat, by have := hr.shape.pos; omega⟩
    have hrl : rn < t.nodes.length := by have := hr.shape.root_lt; omega
    have hrl' : (rn : Int) < (t.nodes.length : Int) := by omega
    obtain ⟨N, hN⟩ : ∃ N, t.nodes[rn]? = some N := ⟨_, List.getElem?_eq_getElem hrl⟩
    have hK : kidsOfT t = N.kids.map fun k => flatT (D t.nodes k.toNat) := kids_root hr (by rw [hrn]; exact hN)
    have HKD := Lib.hid hK
    have HN := Lib.hid hN
    have HRT := Lib.hid hr
    have HRN := Lib.hid hrn
    have hkl := hr.kids_le N (List.mem_of_getElem? hN)
    have hsm := HG.out.given.small
    obtain ⟨b, off, Ak, ck, rfl, hbS, hki, _, _, _, _, _, _, _, _, _, c8⟩ := (HasT.nodes ((HG.out.given.read).has HG.out.given.old)).get rn N hN
    have HKI := Lib.hid hki
    have HC8 := Lib.hid c8
    rw [hrn] at HR ⊢
    clear hr hN hK hrn hki c8
    go_enter Tryd.func92, Tryd.ntmps92
    go_wp2_with fail
    refine (HR.out _ ((Below.refl _ _).alloc (Nat.le_refl _) _)).mono ?_
    rintro e w1 ⟨rfl, hb1⟩
    have hb01 : Below w.heap.size w w1 := ((Below.refl _ _).alloc (Nat.le_refl _) _).trans (hb1.mono (by simp <;> omega))
    have hB1 : Blk w1 w.heap.size 34 #[.slice (some ⟨b, off, none⟩) t.nodes.length c, .int .i64 rn] := (Blk.new w _ _).below hb1 (by simp)
    have d0 : w1.cell? ⟨w.heap.size, 0, none⟩ = some (.slice (some ⟨b, off, none⟩) t.nodes.length c) := hB1.cell 0
    have d1 : w1.cell? ⟨w.heap.size, 1, none⟩ = some (.int .i64 rn) := hB1.cell 1
    have c8 : w1.cell? ⟨b, off + rn * 9 + 8, none⟩ = some (.slice Ak N.kids.length ck) := (hb01.cell (p := ⟨b, off + rn * 9 + 8, none⟩) hbS).trans HC8.out
    have HB1 := Lib.hid hB1
    have HW1 := Lib.hid hb01
    clear hb1 hB1 hb01
    go_wp2_with fail
    have H0 : Hid (KidsRel t (some ⟨b, off, none⟩) c w.heap.size w (.slice none 0 0) [] w1) := Lib.hid ⟨by rw [HRN.out]; exact HB1.out, OwnList.nil_ _ _ _, HW1.out⟩
    clear d0 d1 c8
    go_loopw [3, 5] (fun vo i wr => ∃ (j : Nat) (Ao : Option Addr) (co : Nat), j ≤ N.kids.length ∧ i = .int .i64 j ∧ vo = .slice Ao j co ∧ Hid (KidsRel t (some ⟨b, off, none⟩) c w.heap.size w (.slice Ao j co) ((N.kids.take j).map fun k => flatT (D t.nodes k.toNat)) wr)) (fun _ i _ => N.kids.length - (intOf i).toNat)
    case atStart => exact ⟨0, none, 0, Nat.zero_le _, rfl, rfl, H0⟩
    case round =>
      obtain ⟨wo, rfl⟩ : ∃ wo, wo = wr := ⟨_, rfl⟩
      obtain ⟨j, Ao, co, hj, rfl, rfl, HREL⟩ := hrel
      by_cases hlt : j < N.kids.length
      · have hlt' : (j : Int) < (N.kids.length : Int) := by omega
        obtain ⟨k, hk⟩ : ∃ k, N.kids[j]? = some k := ⟨_, List.getElem?_eq_getElem hlt⟩
        have hkl2 := HRT.out.shape.low rn N HN.out k (List.mem_of_getElem? hk)
        obtain ⟨y, rfl⟩ : ∃ y : Nat, k = (y : Int) := ⟨k.toNat, by omega⟩
        have hyl : y < t.nodes.length := by omega
        obtain ⟨bk, ok, rfl, hbk, hkc⟩ := HKI.out.get j _ hk
        obtain ⟨X, hX⟩ : ∃ X, X = flatT (D t.nodes y) := ⟨_, rfl⟩
        have hroot : X.root = ((D t.nodes y).size : Int) - 1 := by rw [hX]; rfl
        have hszl : (D t.nodes y).size ≤ 500000 := by have := size_le HRT.out.shape y hyl; omega
        have hXr : -9223372036854775808 ≤ X.root ∧ X.root ≤ 9223372036854775807 := by rw [hX]; exact flat_root _ (by omega)
        have HXR := Lib.hid hXr
        have HSb := Lib.hid (show ∀ wx, Below wo.heap.size wo wx → Calls Tryd.prog 101 #[.agg #[.slice (some ⟨b, off, none⟩) t.nodes.length c, .int .i64 rn], .int .i64 (y : Int)] wx fun e w' => (∃ u, e = .returned (.tuple #[u, .bool true]) ∧ OwnTree w' wx.heap.size u X) ∧ Below wx.heap.size wx w' from fun wx hx => by
          have h1 := rsub_g (HG.out.below (HREL.out.below.trans (hx.mono HREL.out.below.size))) (y : Int)
          rw [HRN.out] at h1
          refine h1.mono ?_
          rintro e w' ⟨u, x, is, rfl, ho, hi, hbb⟩
          obtain ⟨rfl, rfl⟩ := hi.yes HRT.out (by omega) (by omega)
          rw [Int.toNat_natCast, ← hX] at ho
          exact ⟨⟨u, rfl, ho⟩, hbb⟩)
        have HC8R := Lib.hid (show ∀ wx, Below wo.heap.size wo wx → wx.cell? ⟨w.heap.size, 0, none⟩ = some (.slice (some ⟨b, off, none⟩) t.nodes.length c) ∧ wx.cell? ⟨w.heap.size, 1, none⟩ = some (.int .i64 rn) ∧ wx.cell? ⟨bk, ok + j, none⟩ = some (.int .i64 (y : Int)) from fun wx hx => by
          have hb := HREL.out.box.below hx HREL.out.box.lt
          have hlt := HREL.out.box.lt
          refine ⟨hb.cell 0, ?_, ?_⟩
          · have := hb.cell 1
            rw [HRN.out] at this
            exact this
          · exact (hx.cell (p := ⟨bk, ok + j, none⟩) (by show bk < _; have := hbk; omega)).trans ((HREL.out.below.cell (p := ⟨bk, ok + j, none⟩) hbk).trans hkc))
        have HKJ := Lib.hid hk
        have HXE := Lib.hid hX
        have hBw := HREL.out.box.lt
        obtain ⟨i0, hi0, hz0, hz1, hz2⟩ := info_parts tree_info
        clear hk hkc hkl2 hX hroot hXr
        go_wp2_with fail
        /- R8< -/
        refine wp_region_inv (G := BG) BG.none_ (BE TT ZT) (BN [.other, .other, .other, .other, .other, .other, .other, .other, .other, .box, .store 9, .other])
          [fun v _ => v = .agg #[.slice (some ⟨b, off, none⟩) t.nodes.length c, .int .i64 rn], fun v _ => v = .slice (some ⟨bk, ok, none⟩) N.kids.length ck, fun v _ => v = .int .i64 j, fun v _ => v = .pointer (some ⟨bk, ok + j, none⟩), fun v _ => v = .int .i64 (y : Int), fun v s => ∃ u, v = .tuple #[u, .bool true] ∧ RG wo.heap.size X u s, fun v s => ∃ u, v = .tuple #[u, .bool true] ∧ RG wo.heap.size X u s, RG wo.heap.size X, fun v _ => v = .bool true, RBox 9, RFillG 9 wo.heap.size X, fun v _ => v = .bool true]
          (by kernel_rfl) (fun _ _ _ => BE.trans) (BE.refl _) (by kernel_rfl) (by kernel_rfl) (BN.none_ _) ?rstk8 ?rstepsk8 ?rfink8
        case rstk8 =>
          intro R hR v s s' _ h hr
          simp only [List.mem_cons, List.not_mem_nil, or_false] at hR
          rcases hR with rfl | rfl | rfl | rfl | rfl | rfl | rfl | rfl | rfl | rfl | rfl | rfl
          · exact hr
          · exact hr
          · exact hr
          · exact hr
          · exact hr
          · exact hr.imp fun _ h' => ⟨h'.1, h'.2.keep h⟩
          · exact hr.imp fun _ h' => ⟨h'.1, h'.2.keep h⟩
          · exact hr.keep h
          · exact hr
          · exact hr.keep h
          · exact hr.keep h
          · exact hr
        case rstepsk8 =>
          refine ⟨?_, ?_, ?_, ?_, ?_, ?_, ?_, ?_, ?_, ?_, ?_, ?_, trivial⟩
          · intro a γ wx hB hE hN hW K hK
            have hw := hE.below_drew
            have h1 : a.tmps[1]? = some (.pointer (some ⟨w.heap.size, 0, none⟩)) := (hB.at_ 1 (of_decide_eq_true (by kernel_rfl))).trans rfl
            have hc := HC8R.out _ hw
            clear hB hN hE
            go_simp
            exact hK (.agg #[.slice (some ⟨b, off, none⟩) t.nodes.length c, .int .i64 rn]) γ _ (BE.refl _) (fun _ _ h => h) rfl
          · intro a γ wx hB hE hN hW K hK
            have hw := hE.below_drew
            have h4 : a.tmps[4]? = some (.slice (some ⟨bk, ok, none⟩) N.kids.length ck) := (hB.at_ 4 (of_decide_eq_true (by kernel_rfl))).trans rfl
            clear hB hN hE
            go_simp
            exact hK (.slice (some ⟨bk, ok, none⟩) N.kids.length ck) γ _ (BE.refl _) (fun _ _ h => h) rfl
          · intro a γ wx hB hE hN hW K hK
            have hw := hE.below_drew
            have h5 : a.tmps[5]? = some (.int .i64 j) := (hB.at_ 5 (of_decide_eq_true (by kernel_rfl))).trans rfl
            clear hB hN hE
            go_simp
            exact hK (.int .i64 j) γ _ (BE.refl _) (fun _ _ h => h) rfl
          · intro a γ wx hB hE hN hW K hK
            have hw := hE.below_drew
            obtain ⟨⟨_, h26, rfl⟩, ⟨_, h27, rfl⟩, -⟩ := hW
            clear hB hN hE
            go_simp
            exact hK (.pointer (some ⟨bk, ok + j, none⟩)) γ _ (BE.refl _) (fun _ _ h => h) rfl
          · intro a γ wx hB hE hN hW K hK
            have hw := hE.below_drew
            obtain ⟨⟨_, h28, rfl⟩, -⟩ := hW
            have hc := HC8R.out _ hw
            clear hB hN hE
            go_simp
            exact hK (.int .i64 (y : Int)) γ _ (BE.refl _) (fun _ _ h => h) rfl
          · intro a γ wx hB hE hN hW K hK
            have hw := hE.below_drew
            obtain ⟨⟨_, h25, rfl⟩, ⟨_, h29, rfl⟩, -⟩ := hW
            have hok := hE.boxes
            clear hB hN hE
            go_simp
            refine (HSb.out _ hw).mono ?_
            rintro e w' ⟨⟨u, rfl, hu⟩, hbb⟩
            exact hK _ γ _ (BE.call hbb) (fun _ _ h => h) ⟨u, rfl, RG.own hu HXR.out.1 HXR.out.2 hw.size hok⟩
          · intro a γ wx hB hE hN hW K hK
            have hw := hE.below_drew
            obtain ⟨⟨v30, h30, ⟨u30, rfl, r30⟩⟩, -⟩ := hW
            clear hB hN hE
            go_simp
            exact hK (_) γ _ (BE.refl _) (fun _ _ h => h) ⟨u30, rfl, r30⟩
          · intro a γ wx hB hE hN hW K hK
            have hw := hE.below_drew
            obtain ⟨⟨v24, h24, ⟨u24, rfl, r24⟩⟩, -⟩ := hW
            clear hB hN hE
            go_simp
            exact hK (_) γ _ (BE.refl _) (fun _ _ h => h) r24
          · intro a γ wx hB hE hN hW K hK
            have hw := hE.below_drew
            obtain ⟨⟨v24, h24, ⟨u24, rfl, r24⟩⟩, -⟩ := hW
            clear hB hN hE
            go_simp
            exact hK (.bool true) γ _ (BE.refl _) (fun _ _ h => h) rfl
          · intro a γ wx hB hE hN hW K hK
            have hw := hE.below_drew
            clear hB hE
            go_simp
            exact hK _ _ _ (BE.alloc (i := 9) hN) BN.alloc RBox.made
          · intro a γ wx hB hE hN hW K hK
            have hw := hE.below_drew
            obtain ⟨⟨v6, h6, r6⟩, ⟨v31, h31, r31⟩, -⟩ := hW
            obtain ⟨gb, A, n, c, γ', rfl, rfl, c0, c1, f0, f1, hS, hN', hF⟩ := fill_boxG hE hN r6 r31
            clear hB hE
            go_simp
            exact hK undef γ' _ hS (hN' _ _ (by kernel_rfl)) hF
          · intro a γ wx hB hE hN hW K hK
            have hw := hE.below_drew
            obtain ⟨⟨_, h32, rfl⟩, -⟩ := hW
            clear hB hN hE
            go_simp
            exact hK (.bool true) γ _ (BE.refl _) (fun _ _ h => h) rfl
        intro a' γ wx hB hE hK
        obtain ⟨_, h25, rfl⟩ := hK 0 (of_decide_eq_true (by kernel_rfl))
        obtain ⟨_, h26, rfl⟩ := hK 1 (of_decide_eq_true (by kernel_rfl))
        obtain ⟨_, h27, rfl⟩ := hK 2 (of_decide_eq_true (by kernel_rfl))
        obtain ⟨_, h28, rfl⟩ := hK 3 (of_decide_eq_true (by kernel_rfl))
        obtain ⟨_, h29, rfl⟩ := hK 4 (of_decide_eq_true (by kernel_rfl))
        obtain ⟨v30, h30, ⟨u30, rfl, r30⟩⟩ := hK 5 (of_decide_eq_true (by kernel_rfl))
        obtain ⟨v24, h24, ⟨u24, rfl, r24⟩⟩ := hK 6 (of_decide_eq_true (by kernel_rfl))
        obtain ⟨v31, h31, r31⟩ := hK 7 (of_decide_eq_true (by kernel_rfl))
        obtain ⟨_, h32, rfl⟩ := hK 8 (of_decide_eq_true (by kernel_rfl))
        obtain ⟨v6, h6, r6⟩ := hK 9 (of_decide_eq_true (by kernel_rfl))
        obtain ⟨_, r_10⟩ := hK 10 (of_decide_eq_true (by kernel_rfl))
        obtain ⟨_, h7, rfl⟩ := hK 11 (of_decide_eq_true (by kernel_rfl))
        have ha := hB.eq [(25, .agg #[.slice (some ⟨b, off, none⟩) t.nodes.length c, .int .i64 rn]), (26, .slice (some ⟨bk, ok, none⟩) N.kids.length ck), (27, .int .i64 j), (28, .pointer (some ⟨bk, ok + j, none⟩)), (29, .int .i64 (y : Int)), (30, .tuple #[u30, .bool true]), (24, .tuple #[u24, .bool true]), (31, v31), (32, .bool true), (6, v6), (7, .bool true)] rfl (by kernel_rfl) ⟨h25, h26, h27, h28, h29, h30, h24, h31, h32, h6, h7, trivial⟩
        subst ha
        have hw := hE.below_drew
        clear hK hB h25 h26 h27 h28 h29 h30 h24 h31 h32 h6 h7
        simp only [putAll, List.foldl_cons, List.foldl_nil, List.setIfInBounds_toArray, List.set_cons_succ, List.set_cons_zero]
        /- >R8 -/
        have hcont := box_treeG (u := undef) hE r6 r_10
        obtain ⟨gx, Ax, nx, cx, hp6, hbx, htx⟩ := hcont
        subst hp6
        have HREL3 : Hid (KidsRel t (some ⟨b, off, none⟩) c w.heap.size w (.slice Ao j co) ((N.kids.take j).map fun k => flatT (D t.nodes k.toNat)) wx) := Lib.hid ⟨HREL.out.box.below hw HREL.out.box.lt, HREL.out.out.below hw, HREL.out.below.trans (hw.mono HREL.out.below.size)⟩
        obtain ⟨nvs, hnl, hrow, hns⟩ := id HREL3.out.out
        have htl : ((N.kids.take j).map fun k => flatT (D t.nodes k.toNat)).length = j := by simp; omega
        have hrow2 := hrow
        rw [htl] at hrow2
        have HROW := Lib.hid hrow2
        have HNS := Lib.hid hns
        have HNL := Lib.hid hnl
        have HTL := Lib.hid htl
        have HTX := Lib.hid htx
        have hs3 := hw.size
        have e0 : wx.cell? ⟨gx, 0, none⟩ = some (.slice Ax nx cx) := hbx.cell 0
        have e1 : wx.cell? ⟨gx, 1, none⟩ = some (.int .i64 X.root) := hbx.cell 1
        clear hrow hrow2 hns hnl htl htx hbx hE hw
        go_wp2_with (at_builtin
                     go_loud (refine wpList_append1 wx rfl (.tmp 33) (.tmp 35) _ rfl (w.heap.size + 1) 34 i0 _ 2 32 Tryd.underlying48 hi0 hz0 hz1 hz2 rfl (by omega) (.slice Ao j co) j (treesCells ((N.kids.take j).map fun k => flatT (D t.nodes k.toNat)) nvs) rfl HROW.out [_, _] rfl rfl (by simp [Value.oneCell']) (by unfold maxLen; omega) (by omega) (by omega) ?_)
                     intro v4 w4 hown4 hg4 hat4
                     obtain ⟨A4, c4, rfl, _, _, _⟩ := own_slice hown4
                     have HOW4 := Lib.hid hown4
                     have HG4 := Lib.hid hg4
                     have HAT4 := Lib.hid hat4
                     clear hown4 hg4 hat4)
        go_roundw
        case measure => simp [intOf]; omega
        case rel =>
          have hvl : ∀ g, (Value.slice Ao j co).ownBlock = some g → w.heap.size + 1 ≤ g ∧ g < wo.heap.size := fun g e => by
            obtain ⟨_, _, hr0, _⟩ := HREL.out.out
            exact own_blk_lt hr0 e
          refine ⟨j + 1, A4, c4, by omega, by go_num, rfl, Lib.hid ⟨HREL3.out.box.grown HG4.out (fun e => by have := (hvl _ e.symm).1; omega), ?_, HREL3.out.below.trans (below_of_grown HG4.out HREL3.out.below.size fun g e => by have := (hvl g e).1; omega)⟩⟩
          have e1 : (N.kids.take (j + 1)).map (fun k => flatT (D t.nodes k.toNat)) = (N.kids.take j).map (fun k => flatT (D t.nodes k.toNat)) ++ [X] := by
            rw [List.take_add_one, HKJ.out, HXE.out]; simp
          rw [e1]
          obtain ⟨nv', hv', hn', hr1', hr2'⟩ := HTX.out
          have ev : nv' = .slice Ax nx cx := by simp at hv'; exact hv'.symm
          subst ev
          refine OwnList.push HNL.out HNS.out hn' (fun b hb => ⟨by have := hb.1; omega, hb.2.1, fun e => by have := (hvl b e).2; have := hb.1; omega, hb.2.2⟩) hr1' hr2' ?_ HG4.out ?_
          · rw [HTL.out]; exact HOW4.out
          · rcases HAT4.out with h | h
            · exact .inl h
            · exact .inr fun g hg => by rw [h] at hg; injection hg; omega
      · have hje : j = N.kids.length := by omega
        subst hje
        go_wp2_with fail
        go_ret
        refine ⟨_, rfl, ?_, HREL.out.below⟩
        have := HREL.out.out
        rw [List.take_length, ← HKD.out] at this
        exact this.base_ (by omega)
  · rw [decide_eq_false hr] at HR
    go_enter Tryd.func92, Tryd.ntmps92
    go_wp2_with fail
    refine (HR.out _ ((Below.refl _ _).alloc (Nat.le_refl _) _)).mono ?_
    rintro e w1 ⟨rfl, hb1⟩
    have hb01 : Below w.heap.size w w1 := ((Below.refl _ _).alloc (Nat.le_refl _) _).trans (hb1.mono (by simp <;> omega))
    have HV := Lib.hid (show kidsOfT t = [] from if_neg hr)
    have HW1 := Lib.hid hb01
    clear hb1 hb01 hr
    go_wp2_with fail
    go_ret
    exact ⟨_, rfl, by rw [HV.out]; exact OwnList.nil_ _ _ _, HW1.out⟩
end Go.Proofs.YtclfpjfjebheoaaDoor
/- The contract of bonsairef04.Of. -/
namespace Go.Proofs.YtclfpjfjebheoaaDoor
set_option linter.unusedSimpArgs false
open Go.RowKit

/-- A node that stands a further on. -/
def shN (a : Nat) (n : Nd) : Nd := ⟨n.d, n.kids.map fun k => (a : Int) + k⟩
theorem ends_shift (a : Nat) : ∀ (o : Nat) (L : List T), ends (a + o) L = (ends o L).map fun k => (a : Int) + k
  | _, [] => rfl
  | o, t :: L => by
    simp only [ends, List.map_cons]
    rw [Nat.add_assoc, ends_shift a (o + t.size) L]
    congr 1
    omega
theorem flatAt_shift (a : Nat) (t : T) : ∀ o, flatAt (a + o) t = (flatAt o t).map (shN a) := by
  induction t using T.ind with
  | h d ks ih =>
    intro o
    have hs : ∀ (L : List T), (∀ k ∈ L, ∀ o, flatAt (a + o) k = (flatAt o k).map (shN a)) → ∀ o, flatsAt (a + o) L = (flatsAt o L).map (shN a) := by
      intro L
      induction L with
      | nil => intro _ o; rfl
      | cons k L ihL =>
        intro h o
        simp only [flatsAt, List.map_append]
        rw [h k (by simp), Nat.add_assoc, ihL (fun x hx => h x (by simp [hx]))]
    simp only [flatAt, List.map_append, List.map_cons, List.map_nil]
    rw [hs ks ih, ends_shift]
    rfl
theorem flatAt_from (a : Nat) (t : T) : flatAt a t = (flatAt 0 t).map (shN a) := by
  have := flatAt_shift a t 0
  rwa [Nat.add_zero] at this
/-- What a round does to the relation. -/
theorem of_round2 {d : Dt} {ts : List Tr} {B j : Nat} {w wr w1 w2 : World} {vo kv u v2 : Value} {t : Tr} (h : OfRel d ts B w j vo kv wr) (hB : B = w.heap.size) (ht : ts[j]? = some t)
    (ho : OwnNodes w1 65 (B + 2) (fun b => kv.ownBlock ≠ some b ∨ wr.heap.size ≤ b) u (flatsAt 0 ((ts.take j).map treeOf) ++ flatAt (flatsAt 0 ((ts.take j).map treeOf)).length (treeOf t)))
    (hg1 : wr.grownBy w1 vo.ownBlock) (hat : u.ownBlock = vo.ownBlock ∨ ∀ g, u.ownBlock = some g → wr.heap.size ≤ g)
    (hk : w2.ownsRow (B + 2) 3 1 v2 (j + 1) ((ends 0 ((ts.take j).map treeOf)).map (Value.int .i64) ++ [.int .i64 (((sizes ((ts.take j).map treeOf) + (treeOf t).size : Nat) : Int) - 1)]))
    (hg2 : w1.grownBy w2 kv.ownBlock) (hat2 : v2.ownBlock = kv.ownBlock ∨ v2.ownBlock = some (w1.heap.size + 1)) :
    OfRel d ts B w (j + 1) u v2 (w2.setCell ⟨B, 8, none⟩ v2) := by
  have s1 := hg1.size
  have s2 := hg2.size
  have e1 : (ts.take (j + 1)).map treeOf = (ts.take j).map treeOf ++ [treeOf t] := by rw [List.take_add_one, ht]; simp
  have hf : flatsAt 0 ((ts.take (j + 1)).map treeOf) = flatsAt 0 ((ts.take j).map treeOf) ++ flatAt (flatsAt 0 ((ts.take j).map treeOf)).length (treeOf t) := by
    rw [e1, flatsAt_append, Nat.zero_add, flatsAt_length]
    simp [flatsAt]
  have he : (ends 0 ((ts.take (j + 1)).map treeOf)).map (Value.int .i64) = (ends 0 ((ts.take j).map treeOf)).map (Value.int .i64) ++ [.int .i64 (((sizes ((ts.take j).map treeOf) + (treeOf t).size : Nat) : Int) - 1)] := by
    rw [e1, ends_append, List.map_append, Nat.zero_add]
    simp [ends]
  have hkl : ∀ g, kv.ownBlock = some g → B + 2 ≤ g ∧ g < wr.heap.size := fun g e => own_blk_lt h.kids e
  have hvl : ∀ g, vo.ownBlock = some g → B + 2 ≤ g := fun g e => by
    obtain ⟨kvs, hk⟩ := h.out
    exact (own_blk_lt hk.row e).1
  have hul : ∀ g, u.ownBlock = some g → B + 2 ≤ g ∧ g < w1.heap.size := fun g e => by
    obtain ⟨kvs, hk⟩ := ho
    exact own_blk_lt hk.row e
  have hbw := h.below.size
  have hcell := h.cell.lt
  have hap1 : u.ownBlock = none ∨ u.ownBlock ≠ kv.ownBlock := by
    cases hu : u.ownBlock with
    | none => exact .inl rfl
    | some g =>
      refine .inr fun e2 => ?_
      have h2 := hkl g e2.symm
      rcases hat with e | e
      · rcases h.apart with h3 | h3
        · rw [← e, hu] at h3; cases h3
        · exact h3 (by rw [← e, hu, e2])
      · have h1 := e g hu
        omega
  have hap2 : u.ownBlock = none ∨ u.ownBlock ≠ v2.ownBlock := by
    rcases hat2 with e | e
    · rw [e]; exact hap1
    · cases hu : u.ownBlock with
      | none => exact .inl rfl
      | some g =>
        refine .inr fun e2 => ?_
        rw [e] at e2
        injection e2 with e2
        have := hul g hu
        omega
  have o1 : OwnNodes w1 65 (B + 2) (fun b => kv.ownBlock ≠ some b ∧ v2.ownBlock ≠ some b) u (flatsAt 0 ((ts.take (j + 1)).map treeOf)) := by
    rw [hf]
    refine ho.weaken fun b _ hb hx => ?_
    have hk1 : kv.ownBlock ≠ some b := by
      rcases hx with hx | hx
      · exact hx
      · intro e; have := hkl b e; omega
    refine ⟨hk1, fun e => ?_⟩
    rcases hat2 with e1 | e1
    · exact hk1 (e1 ▸ e)
    · rw [e1] at e; injection e with e; omega
  have o2 := (o1.frame hg2 hap1 (fun g e hx => hx.1 e)).weaken (Y := fun b => v2.ownBlock ≠ some b) (fun _ _ _ hx => hx.2)
  have hbox2 : Blk w2 B 65 #[.int .u8 d.kind, .int .u64 d.s0, .int .u64 d.s1, .int .u64 d.s2, .int .u64 d.s3, .string ⟨d.text.toArray⟩, .int .i64 d.min, .int .i64 d.max, kv] :=
    (h.box.grown hg1 (fun e => by have := hvl B e.symm; omega)).grown hg2 (fun e => by have := hkl B e.symm; omega)
  have hcell2 : Blk w2 (B + 1) 34 #[.slice none 0 0, .int .i64 0] :=
    (h.cell.grown hg1 (fun e => by have := hvl (B + 1) e.symm; omega)).grown hg2 (fun e => by have := hkl (B + 1) e.symm; omega)
  have hb2 : Below B w w2 := (h.below.trans (below_of_grown hg1 (by omega) (fun g e => by have := hvl g e; omega))).trans (below_of_grown hg2 (by omega) (fun g e => by have := hkl g e; omega))
  refine ⟨o2.low (grown_set1 w2 B 8 v2) (by omega), ?_, hap2, ?_, ?_, ?_⟩
  · rw [he]
    refine hk.kept (grown_set1 w2 B 8 v2) ?_
    cases hv : v2.ownBlock with
    | none => exact .inl rfl
    | some g =>
      refine .inr fun e => ?_
      injection e with e
      have := (own_blk_lt hk hv).1
      omega
  · have := hbox2.set_ 8 v2
    simpa only [List.setIfInBounds_toArray, List.set_cons_zero, List.set_cons_succ] using this
  · exact hcell2.far (by simp) _
  · exact hb2.setCell (by simp) _


/-- What stands while the nodes of one kid are put behind the others. -/
structure In2 (wr wb wq : World) (B : Nat) (kv vo0 vo : Value) (F M : List Nd) (k : Nat) (kvs : List Value) : Prop where
  out : OwnNK wq 65 (B + 2) (fun b => kv.ownBlock ≠ some b ∨ wr.heap.size ≤ b) vo (F ++ M.take k) kvs
  grown : wb.grownBy wq vo0.ownBlock
  at_ : vo.ownBlock = vo0.ownBlock ∨ ∀ g, vo.ownBlock = some g → wb.heap.size ≤ g
theorem In2.next {wr wb wq w7 w8 : World} {B : Nat} {kv vo0 vo v8 kw : Value} {F M : List Nd} {k : Nat} {kvs : List Value} {m : Nd} (h : In2 wr wb wq B kv vo0 vo F M k kvs) (hm : M[k]? = some m) (hd : m.d.Ok) (hB : B + 2 ≤ wr.heap.size) (hwr : wr.heap.size ≤ wb.heap.size)
    (hb : Below wq.heap.size wq w7) (hk : OInts w7 wq.heap.size kw m.kids) (hown : w8.ownsRow (B + 2) 65 9 v8 ((F ++ M.take k).length + 1) (nodesCells (F ++ M.take k) kvs ++ nodeCells m kw)) (hg : w7.grownBy w8 vo.ownBlock) (hat : v8.ownBlock = vo.ownBlock ∨ v8.ownBlock = some (w7.heap.size + 1)) :
    In2 wr wb w8 B kv vo0 v8 F M (k + 1) (kvs ++ [kw]) := by
  have hs1 := h.grown.size
  have hs2 := hb.size
  have hvo : ∀ g, vo.ownBlock = some g → g < wq.heap.size := fun g e => (own_blk_lt h.out.row e).2
  have o1 := h.out.frame (only_of_below hb none) (by cases vo.ownBlock <;> simp) (fun g e => by cases e)
  have e : F ++ M.take (k + 1) = (F ++ M.take k) ++ [m] := by rw [List.take_add_one, hm]; simp
  refine ⟨?_, ?_, ?_⟩
  · rw [e]
    refine o1.push (RInts.of_own hk fun b hb2 => ?_) hd hown hg ?_
    · have h1 := hk.lt b hb2
      exact ⟨by omega, h1.2, fun e => by have := hvo b e; omega, .inr (by omega), own_soft hk hb2⟩
    · rcases hat with e | e
      · exact .inl e
      · exact .inr fun g hg2 => by rw [e] at hg2; injection hg2; omega
  · have h1 := grown_then_below h.grown hb
    refine ⟨hg.os.trans h1.os, hg.tape.trans h1.tape, hg.output.trans h1.output, Nat.le_trans h1.size hg.size, fun i hi hr => (hg.block i (Nat.lt_of_lt_of_le hi h1.size) (fun e2 => ?_)).trans (h1.block i hi hr)⟩
    rcases h.at_ with e3 | e3
    · exact hr (e2.trans e3)
    · have := e3 i e2.symm; omega
  · rcases hat with e2 | e2
    · rcases h.at_ with e3 | e3
      · exact .inl (e2.trans e3)
      · exact .inr fun g hg2 => e3 g (e2 ▸ hg2)
    · exact .inr fun g hg2 => by rw [e2] at hg2; injection hg2; omega
theorem below_row0 (w : World) (o : Obj) : Below w.heap.size w (w.alloc o) := (Below.refl _ _).alloc (Nat.le_refl _) _
theorem sizes_take_le2 (ts : List Tr) (j : Nat) (hr : ∀ t ∈ ts.take j, RightT t) : sizes ((ts.take j).map treeOf) ≤ (ts.map (·.nodes.length)).sum := by
  have h1 := sizes_take_le (ts.take j) hr j
  rw [List.take_take, Nat.min_self] at h1
  refine Nat.le_trans h1 ?_
  clear h1 hr
  induction ts generalizing j with
  | nil => simp
  | cons t ts ih =>
    cases j with
    | zero => simp
    | succ j => simp only [List.take_succ_cons, List.map_cons, List.sum_cons]; have := ih j; omega
theorem grown_of_below_then {a b c : World} {r : Option Nat} (h : Below a.heap.size a b) (k : b.grownBy c r) : a.grownBy c r :=
  ⟨k.os.trans h.os, k.tape.trans h.tape, k.output.trans h.output, Nat.le_trans h.size k.size, fun i hi hr => (k.block i (Nat.lt_of_lt_of_le hi h.size) hr).trans (h.block i hi)⟩
theorem flat_kids_le (T0 : T) (k : Nat) (m : Nd) (h : (flatAt 0 T0)[k]? = some m) : m.kids.length ≤ T0.size := by
  suffices ∀ (t : T) (o : Nat), ∀ m ∈ flatAt o t, m.kids.length ≤ t.size from this T0 0 m (List.mem_of_getElem? h)
  intro t
  induction t using T.ind with
  | h d ks ih =>
    have hs : ∀ (L : List T), (∀ k ∈ L, ∀ o, ∀ m ∈ flatAt o k, m.kids.length ≤ k.size) → ∀ o, ∀ m ∈ flatsAt o L, m.kids.length ≤ sizes L := by
      intro L
      induction L with
      | nil => intro _ o m hm; simp [flatsAt] at hm
      | cons k L ihL =>
        intro h o m hm
        simp only [flatsAt, List.mem_append] at hm
        simp only [sizes]
        rcases hm with hm | hm
        · have := h k (by simp) o m hm; omega
        · have := ihL (fun x hx => h x (by simp [hx])) _ m hm; omega
    intro o m hm
    simp only [flatAt, List.mem_append, List.mem_singleton] at hm
    simp only [T.size]
    rcases hm with hm | hm
    · have := hs ks ih o m hm; omega
    · subst hm
      simp only [ends_length]
      have : ∀ L : List T, L.length ≤ sizes L := fun L => by
        induction L with
        | nil => simp [sizes]
        | cons a L ih => simp only [List.length_cons, sizes]; have := a.size_pos; omega
      have := this ks; omega
end Go.Proofs.YtclfpjfjebheoaaDoor
/- The contract of bonsairef04.Of, walked. -/
namespace Go.Proofs.YtclfpjfjebheoaaDoor
set_option linter.unusedSimpArgs false
open Go.RowKit

set_option maxRecDepth 20000 in
set_option maxHeartbeats 8000000 in
theorem rOf_g {N : Nd} {kv0 : Value} (hd : N.d.Ok) {ts : List Tr} {v : Value} {S : Nat → Prop} {w : World} (h : GivenL ts v S w) (hkids : ∀ t ∈ ts, ∀ n ∈ t.nodes, n.kids.length ≤ 1000000) (hsum : (ts.map (·.nodes.length)).sum ≤ 500000) :
    Calls Tryd.prog 94 #[.agg (nodeCells N kv0).toArray, v] w fun e w' => ∃ u x is, e = .returned (.tuple #[u, .bool is]) ∧ OwnTree w' w.heap.size u x ∧ IsOf N.d ts x is ∧ Below w.heap.size w w' := by
  classical
  have HF := Lib.hid (fun (wx : World) => rfits_any N hd kv0 (ts.length : Int) wx)
  have HG := Lib.hid h
  have HKD := Lib.hid hkids
  obtain ⟨A, c, rfl, hc, hs, -⟩ := h.read.at_
  have hfew := h.few
  have HDO := Lib.hid hd
  have HSUM := Lib.hid hsum
  obtain ⟨i0, hi0, hz0, hz1, hz2⟩ := info_parts int_info
  obtain ⟨i1, hi1, hy0, hy1, hy2⟩ := info_parts node_info
  clear h hd hkids hsum
  simp only [nodeCells] at HF ⊢
  by_cases hfit : fits N.d ts.length = true
  · rw [hfit] at HF
    have HFIT := Lib.hid hfit
    clear hfit
    go_enter Tryd.func94, Tryd.ntmps94
    go_wp2_with fail
    refine Calls.mono (HF.out _) ?_
    rintro e w1 ⟨rfl, hb1⟩
    have HB1 : Hid (Blk w1 w.heap.size 65 #[.int .u8 N.d.kind, .int .u64 N.d.s0, .int .u64 N.d.s1, .int .u64 N.d.s2, .int .u64 N.d.s3, .string ⟨N.d.text.toArray⟩, .int .i64 N.d.min, .int .i64 N.d.max, kv0]) := Lib.hid (((Blk.new w _ _).alloc _).below hb1 (by simp; omega))
    have HC1 : Hid (Blk w1 (w.heap.size + 1) 34 #[.slice none 0 0, .int .i64 0]) := Lib.hid ((Blk.new1 w _ _ _).below hb1 (by simp))
    have Hb1 := Lib.hid (show Below w.heap.size w w1 from (((Below.refl _ _).alloc (Nat.le_refl _) _).alloc (by simp) _).trans (hb1.mono (by simp; omega)))
    have e8 : w1.cell? ⟨w.heap.size, 8, none⟩ = some kv0 := HB1.out.cell 8
    have f8 := HB1.out.frozen 8
    clear hb1
    go_wp2_with fail
    clear e8 f8
    go_loopw [6, 7] (fun vo i wr => ∃ (j : Nat) (F : List Nd) (Ao : Option Addr) (co : Nat) (Av : Option Addr) (cv : Nat), j ≤ ts.length ∧ i = .int .i64 j ∧ vo = .slice Ao F.length co ∧ Hid (F = flatsAt 0 ((ts.take j).map treeOf)) ∧ Hid (∀ t ∈ ts.take j, RightT t) ∧ Hid (OfRel N.d ts w.heap.size w j (.slice Ao F.length co) (.slice Av j cv) wr)) (fun _ i _ => ts.length - (intOf i).toNat)
    case atStart =>
      refine ⟨0, [], none, 0, none, 0, Nat.zero_le _, rfl, rfl, Lib.hid (by simp [flatsAt]), Lib.hid (by simp), Lib.hid ⟨⟨_, OwnNK.nil_ _ _ _ _⟩, World.ownsRow_nil _ _ _ _, .inl rfl, ?_, HC1.out.far (by simp) _, Hb1.out.setCell (by simp) _⟩⟩
      have := HB1.out.set_ 8 (.slice none 0 0)
      simpa only [List.setIfInBounds_toArray, List.set_cons_zero, List.set_cons_succ] using this
    case round =>
      obtain ⟨wo, rfl⟩ : ∃ wo, wo = wr := ⟨_, rfl⟩
      obtain ⟨j, F, Ao, co, Av, cv, hj, rfl, rfl, HFE, HRT, HR⟩ := hrel
      have hBs := HR.out.box.lt
      have hB1s := HR.out.cell.lt
      have hHB := HR.out.below.size
      by_cases hlt : j < ts.length
      · obtain ⟨t, ht⟩ : ∃ t, ts[j]? = some t := ⟨_, List.getElem?_eq_getElem hlt⟩
        obtain ⟨b, off, Ak0, ck0, hA, hbS, hg, c0, c1⟩ := (HG.out.below HR.out.below).at_ j t ht
        subst hA
        have HGR := Lib.hid (show GivenR t _ S wo from ⟨hg, HKD.out t (List.mem_of_getElem? ht)⟩)
        have HTJ := Lib.hid ht
        have hbw : b < wo.heap.size := Nat.lt_of_lt_of_le (HG.out.old b hbS) hHB
        have hj0 : (0 : Int) ≤ (j : Int) := by omega
        have hj1 : (j : Int) < (ts.length : Int) := by omega
        clear ht hg
        by_cases hr : RightT t
        · have HRR := Lib.hid (rright_g HGR.out)
          rw [decide_eq_true hr] at HRR
          have HR1 := Lib.hid hr
          clear hr
          go_wp2_with fail
          refine Calls.mono HRR.out ?_
          rintro e w2 ⟨rfl, hb2⟩
          have c0' : w2.cell? ⟨b, off + j * 2, none⟩ = some (.slice Ak0 t.nodes.length ck0) := (hb2.cell (p := ⟨b, off + j * 2, none⟩) hbw).trans c0
          have c1' : w2.cell? ⟨b, off + j * 2 + 1, none⟩ = some (.int .i64 t.root) := (hb2.cell (p := ⟨b, off + j * 2 + 1, none⟩) hbw).trans c1
          have HCL := Lib.hid (rClean_g (HGR.out.below hb2))
          have Hb2 := Lib.hid hb2
          clear hb2 c0 c1
          go_wp2_with fail
          clear c0' c1'
          refine Calls.mono HCL.out ?_
          rintro e w3 ⟨u, rfl, ho, hb3⟩
          obtain ⟨T, hT⟩ : ∃ T, T = treeOf t := ⟨_, rfl⟩
          have hcl : cleanOf t = flatT T := by unfold cleanOf; rw [if_pos HR1.out, hT]
          rw [hcl] at ho
          have HTT := Lib.hid hT
          have HFT := Lib.hid (show FitT T by rw [hT]; exact HR1.out.fitT)
          obtain ⟨M0, hM0⟩ : ∃ M0, M0 = flatAt 0 T := ⟨_, rfl⟩
          have hML : M0.length = T.size := by rw [hM0, flatAt_length]
          have HM0 := Lib.hid hM0
          have HML := Lib.hid hML
          obtain ⟨nv, rfl, hons⟩ := ho
          have hons' : OwnNodes w3 65 w2.heap.size (fun _ => True) nv M0 := by rw [hM0]; exact hons
          obtain ⟨kvs8, hk8⟩ := hons'
          obtain ⟨A8, c8, rfl, -⟩ := own_slice hk8.row
          have hn8 : RNodes w3 (fun x => w2.heap.size ≤ x ∧ x < w3.heap.size) (.slice A8 M0.length c8) M0 := hk8.nodes fun x h1 h2 _ => ⟨h1, h2⟩
          obtain ⟨RR, hRR⟩ : ∃ RR, RR = (flatT T).root := ⟨_, rfl⟩
          rw [← hRR]
          obtain ⟨wb, hwb⟩ : ∃ wb, wb = w3.alloc (.cells #[.slice A8 M0.length c8, .int .i64 RR] 34) := ⟨_, rfl⟩
          have HB8 := Lib.hid (show Blk wb w3.heap.size 34 #[.slice A8 M0.length c8, .int .i64 RR] by rw [hwb]; exact Blk.new _ _ _)
          have HN8 := Lib.hid (show RNodes wb (fun x => w2.heap.size ≤ x ∧ x < w3.heap.size) (.slice A8 M0.length c8) M0 by rw [hwb]; exact RNodes.below hn8 (below_row0 w3 _) fun _ h => h.2)
          have HWB := Lib.hid (show Below wo.heap.size wo wb by rw [hwb]; exact (Hb2.out.trans (hb3.mono Hb2.out.size)).trans ((below_row0 w3 _).mono (Nat.le_trans Hb2.out.size hb3.size)))
          have hs23 : w2.heap.size ≤ w3.heap.size := hb3.size
          have hs12 : wo.heap.size ≤ w2.heap.size := Hb2.out.size
          have hs3b : wb.heap.size = w3.heap.size + 1 := by rw [hwb]; simp
          have hSum : F.length + M0.length ≤ 500000 := by
            have h1 := sizes_take_le2 ts (j + 1) (fun x hx => by
              rw [List.take_add_one, HTJ.out] at hx
              rcases List.mem_append.1 hx with hx | hx
              · exact HRT.out x hx
              · simp at hx; subst hx; exact HR1.out)
            have h2 := HSUM.out
            rw [List.take_add_one, HTJ.out, List.map_append, sizes_append] at h1
            simp only [Option.toList_some, List.map_cons, List.map_nil, sizes] at h1
            rw [HFE.out, flatsAt_length, HML.out, HTT.out]
            omega
          clear hons hk8 hn8 hcl hT hM0 hML hRR hb3
          go_wp2_with fail
          rw [← hwb]
          clear hwb
          obtain ⟨kvsF, hkF⟩ := HR.out.out
          have HKF := Lib.hid (show OwnNK wb 65 (w.heap.size + 2) (fun x => (Value.slice Av j cv).ownBlock ≠ some x ∨ wo.heap.size ≤ x) (.slice Ao F.length co) F kvsF by
            rw [← HFE.out] at hkF
            exact (hkF.frame (only_of_below HWB.out none) (by cases (Value.slice Ao F.length co).ownBlock <;> simp) (fun g e => by cases e)).weaken fun _ _ _ hx => .inl hx)
          clear hkF
          obtain ⟨M, hM⟩ : ∃ M, M = M0.map (shN F.length) := ⟨_, rfl⟩
          have HM := Lib.hid hM
          clear hM
          go_loopw [6, 10] (fun vo i wq => ∃ (k : Nat) (G : List Nd) (A9 : Option Addr) (c9 : Nat) (kvs : List Value), k ≤ M0.length ∧ i = .int .i64 k ∧ vo = .slice A9 G.length c9 ∧ Hid (G = F ++ M.take k) ∧ Hid (In2 wo wb wq w.heap.size (.slice Av j cv) (.slice Ao F.length co) (.slice A9 G.length c9) F M k kvs)) (fun _ i _ => M0.length - (intOf i).toNat)
          case atStart => exact ⟨0, F, Ao, co, kvsF, Nat.zero_le _, rfl, rfl, Lib.hid (by simp), Lib.hid ⟨by simpa using HKF.out, grown_refl wb _, .inl rfl⟩⟩
          case round =>
            obtain ⟨wq, rfl⟩ : ∃ wq, wq = wr := ⟨_, rfl⟩
            obtain ⟨k, G, A9, c9, kvs, hk, rfl, rfl, HGE, HI⟩ := hrel
            have hvo : ∀ g, (Value.slice Ao F.length co).ownBlock = some g → w.heap.size + 2 ≤ g ∧ g < wo.heap.size := fun g e => by
              obtain ⟨kk, hk2⟩ := HR.out.out
              have h0 := hk2.row
              rw [← HFE.out] at h0
              exact own_blk_lt h0 e
            have hgr := HI.out.grown
            have hsq := hgr.size
            have hB8 := HB8.out.grown hgr (fun e => by have := (hvo _ e.symm).2; omega)
            have d8 : wq.cell? ⟨w3.heap.size, 0, none⟩ = some (.slice A8 M0.length c8) := hB8.cell 0
            have d9 : wq.cell? ⟨w3.heap.size, 1, none⟩ = some (.int .i64 RR) := hB8.cell 1
            have HVO := Lib.hid hvo
            by_cases hkl : k < M0.length
            · obtain ⟨m0, hm0⟩ : ∃ m0, M0[k]? = some m0 := ⟨_, List.getElem?_eq_getElem hkl⟩
              have hlow := (shape_flat T).low
              have hkb : ∀ x ∈ m0.kids, 0 ≤ x ∧ x < (k : Int) := fun x hx => hlow k m0 (by
                show (flatAt 0 T)[k]? = some m0
                rw [← HM0.out]; exact hm0) x hx
              have HKB := Lib.hid hkb
              have hnq := HN8.out.grown hgr fun x hx => ⟨by omega, fun e => by have := (hvo x e).2; have := hx.1; omega⟩
              obtain ⟨b9, o9, Ak, ck, rfl, hb9, hki, hdo, x0, x1, x2, x3, x4, x5, x6, x7, x8⟩ := hnq.get k m0 hm0
              have hkn : m0.kids.length ≤ 500000 := by
                have h1 := flat_kids_le T k m0 (by rw [← HM0.out]; exact hm0)
                have := HML.out; omega
              have HDM := Lib.hid hdo
              have HMK := Lib.hid (show M[k]? = some (shN F.length m0) by rw [HM.out, List.getElem?_map, hm0]; rfl)
              have hk0 : (0 : Int) ≤ (k : Int) := by omega
              have hk1 : (k : Int) < (M0.length : Int) := by omega
              obtain ⟨wa, hwa⟩ : ∃ wa, wa = wq.alloc (.cells #[.int .u8 m0.d.kind, .int .u64 m0.d.s0, .int .u64 m0.d.s1, .int .u64 m0.d.s2, .int .u64 m0.d.s3, .string ⟨m0.d.text.toArray⟩, .int .i64 m0.d.min, .int .i64 m0.d.max, .slice Ak m0.kids.length ck] 65) := ⟨_, rfl⟩
              have HNA := Lib.hid (show Blk wa wq.heap.size 65 #[.int .u8 m0.d.kind, .int .u64 m0.d.s0, .int .u64 m0.d.s1, .int .u64 m0.d.s2, .int .u64 m0.d.s3, .string ⟨m0.d.text.toArray⟩, .int .i64 m0.d.min, .int .i64 m0.d.max, .slice Ak m0.kids.length ck] by rw [hwa]; exact Blk.new _ _ _)
              have HWA := Lib.hid (show Below wq.heap.size wq wa by rw [hwa]; exact below_row0 wq _)
              have HKI := Lib.hid (show RInts wa (fun x => w2.heap.size ≤ x ∧ x < w3.heap.size) (.slice Ak m0.kids.length ck) m0.kids by rw [hwa]; exact (RInts.below hki (below_row0 wq _) fun x hx => by have := hx.2; omega))
              have hwas : wa.heap.size = wq.heap.size + 1 := by rw [hwa]; simp
              clear hm0 hlow hkb hnq hki hdo hB8 hvo hgr
              go_wp2_with fail
              rw [← hwa]
              clear hwa x0 x1 x2 x3 x4 x5 x6 x7 x8 d8 d9
              go_loopw [12, 13] (fun v i wr => ∃ (q : Nat) (A3 : Option Addr) (c3 : Nat), q ≤ m0.kids.length ∧ i = .int .i64 q ∧ v = .slice A3 q c3 ∧ Hid (OInts wr wa.heap.size (.slice A3 q c3) ((m0.kids.take q).map fun x => (F.length : Int) + x)) ∧ Hid (Below wa.heap.size wa wr)) (fun _ i _ => m0.kids.length - (intOf i).toNat)
              case atStart => exact ⟨0, none, 0, Nat.zero_le _, rfl, rfl, Lib.hid (OInts.nil_ _ _), Lib.hid (Below.refl _ _)⟩
              case round =>
                obtain ⟨wi, rfl⟩ : ∃ wi, wi = wr := ⟨_, rfl⟩
                obtain ⟨q, A3, c3, hq, rfl, rfl, HKR, HBI⟩ := hrel
                have hni := HNA.out.below HBI.out HNA.out.lt
                obtain ⟨e0, e1, e2, e3, e4, e5, e6, e7, e8⟩ := hni.nine
                have hsa := HBI.out.size
                by_cases hql : q < m0.kids.length
                · obtain ⟨kk, hkk⟩ : ∃ kk, m0.kids[q]? = some kk := ⟨_, List.getElem?_eq_getElem hql⟩
                  have hkkb := HKB.out kk (List.mem_of_getElem? hkk)
                  obtain ⟨bk, ok, rfl, hbk, hkc⟩ := (RInts.below HKI.out HBI.out fun x hx => by have := hx.2; omega).get q kk hkk
                  have hql' : (q : Int) < (m0.kids.length : Int) := by omega
                  have hq0 : (0 : Int) ≤ (q : Int) := by omega
                  have hwr : wrap64 ((F.length : Int) + kk) = (F.length : Int) + kk := IntWalk.wrap64_in _ (by omega)
                  have hwr2 : IntKind.i64.wrap ((F.length : Int) + kk) = (F.length : Int) + kk := IntWalk.i64_in _ (by omega)
                  have HKO := Lib.hid (show wi.ownsRow wa.heap.size 3 1 (.slice A3 q c3) q (((m0.kids.take q).map fun x => (F.length : Int) + x).map (Value.int .i64)) by
                    have h1 := HKR.out
                    unfold OInts at h1
                    have e : ((m0.kids.take q).map fun x => (F.length : Int) + x).length = q := by simp; omega
                    rwa [e] at h1)
                  have HX := Lib.hid (show ((m0.kids.take (q + 1)).map fun x => (F.length : Int) + x) = ((m0.kids.take q).map fun x => (F.length : Int) + x) ++ [(F.length : Int) + kk] by rw [List.take_add_one, hkk]; simp)
                  clear hkk hni hkkb
                  go_wp2_with (at_builtin; refine wpList_append1 wi rfl (.tmp 60) (.tmp 68) _ rfl wa.heap.size 3 i0 _ 1 8 Tryd.underlying63 hi0 hz0 hz1 hz2 rfl (by omega) (.slice A3 q c3) q _ rfl HKO.out [.int .i64 ((F.length : Int) + kk)] rfl rfl (by simp [Value.oneCell']) (by unfold maxLen; omega) (by omega) (by omega) ?_; intro v5 w5 hown5 hgg5 hat5; have HOWN5 := Lib.hid hown5; have HGG5 := Lib.hid hgg5; clear hown5 hgg5 hat5)
                  go_roundw
                  case measure => simp [intOf]; omega
                  case rel =>
                    obtain ⟨A5, c5, rfl, _, _, _⟩ := own_slice HOWN5.out
                    refine ⟨q + 1, A5, c5, by omega, by go_num, rfl, Lib.hid ?_, Lib.hid (HBI.out.trans (below_of_grown HGG5.out hsa (fun r hr => (HKR.out.lt r hr).1)))⟩
                    have h1 := HOWN5.out
                    unfold OInts
                    have e : ((m0.kids.take (q + 1)).map fun x => (F.length : Int) + x).length = q + 1 := by simp; omega
                    rw [e, HX.out, List.map_append]
                    exact h1
                · obtain rfl : q = m0.kids.length := by omega
                  have f8 := hni.frozen 8
                  have hw7 : Below wq.heap.size wq (wi.setCell ⟨wq.heap.size, 8, none⟩ (.slice A3 m0.kids.length c3)) := (HWA.out.trans (HBI.out.mono HWA.out.size)).setCell (Nat.le_refl _) _
                  have hkv : OInts (wi.setCell ⟨wq.heap.size, 8, none⟩ (.slice A3 m0.kids.length c3)) wq.heap.size (.slice A3 m0.kids.length c3) (m0.kids.map fun x => (F.length : Int) + x) := by
                    have h1 := HKR.out
                    rw [List.take_length] at h1
                    refine (h1.frame (r := some wq.heap.size) (only_setCell (grown_refl _ _) (.inl rfl) _) ?_).base_ (by omega)
                    cases hv : (Value.slice A3 m0.kids.length c3).ownBlock with
                    | none => exact .inl rfl
                    | some g => exact .inr fun e => by injection e with e; have := (h1.lt g hv).1; omega
                  have hrow : (wi.setCell ⟨wq.heap.size, 8, none⟩ (.slice A3 m0.kids.length c3)).ownsRow (w.heap.size + 2) 65 9 (.slice A9 G.length c9) G.length (nodesCells (F ++ M.take k) kvs) := by
                    have h1 := HI.out.out.row.kept (only_of_below hw7 none) (by cases (Value.slice A9 G.length c9).ownBlock <;> simp)
                    rw [show (F ++ M.take k).length = G.length by rw [HGE.out]] at h1
                    exact h1
                  have HW7 := Lib.hid hw7
                  have HKV := Lib.hid hkv
                  have HROW := Lib.hid hrow
                  have hgl : G.length ≤ 500000 := by rw [HGE.out, HM.out]; simp; omega
                  have hw7s : w.heap.size + 2 ≤ (wi.setCell ⟨wq.heap.size, 8, none⟩ (.slice A3 m0.kids.length c3)).heap.size := by have := hw7.size; have := HWB.out.size; omega
                  clear hw7 hkv hrow hni
                  go_wp2_with (at_builtin; refine wpList_append1N (wi.setCell ⟨wq.heap.size, 8, none⟩ (.slice A3 m0.kids.length c3)) wi.heap.size (setCell_size _ _ _) rfl (.tmp 72) (.tmp 74) _ rfl (w.heap.size + 2) 65 i1 _ 9 96 Tryd.underlying32 hi1 hy0 hy1 hy2 rfl (by omega) (.slice A9 G.length c9) G.length (nodesCells (F ++ M.take k) kvs) rfl HROW.out [_, _, _, _, _, _, _, _, _] rfl rfl (by simp [Value.oneCell']) (by unfold maxLen; omega) (by omega) hw7s ?_; intro v8 w8 hown8 hg8 hat8; have HOWN8 := Lib.hid hown8; have HG8 := Lib.hid hg8; have HAT8 := Lib.hid hat8; clear hown8 hg8 hat8)
                  go_roundw
                  case measure => simp [intOf]; omega
                  case rel =>
                    obtain ⟨A10, c10, rfl, _, _, _⟩ := own_slice HOWN8.out
                    have hge : (F ++ M.take k).length = G.length := by rw [HGE.out]
                    have hnx := HI.out.next (w7 := wi.setCell ⟨wq.heap.size, 8, none⟩ (.slice A3 m0.kids.length c3)) HMK.out HDM.out (by have := HR.out.box.lt; omega) HWB.out.size HW7.out HKV.out (by rw [hge]; exact HOWN8.out) HG8.out HAT8.out
                    have hG1 : (F ++ M.take (k + 1)).length = G.length + 1 := by rw [List.take_add_one, HMK.out, ← List.append_assoc, List.length_append, hge]; rfl
                    refine ⟨k + 1, F ++ M.take (k + 1), A10, c10, _, by omega, by go_num, by rw [hG1], Lib.hid rfl, Lib.hid (by rw [hG1]; exact hnx)⟩
            · obtain rfl : k = M0.length := by omega
              have hMl : M.length = M0.length := by rw [HM.out, List.length_map]
              have hGl : G.length = F.length + M0.length := by rw [HGE.out, ← hMl, List.take_length, List.length_append]
              have hg1 : wo.grownBy wq (Value.slice Ao F.length co).ownBlock := grown_of_below_then HWB.out hgr
              have e8 : wq.cell? ⟨w.heap.size, 8, none⟩ = some (.slice Av j cv) := (HR.out.box.grown hg1 (fun e => by have := (hvo _ e.symm).1; omega)).cell 8
              have hKq : wq.ownsRow (w.heap.size + 2) 3 1 (.slice Av j cv) j ((ends 0 ((ts.take j).map treeOf)).map (Value.int .i64)) := HR.out.kids.kept hg1 (by
                rcases HR.out.apart with e | e
                · rw [e]; cases (Value.slice Av j cv).ownBlock <;> simp
                · exact .inr fun e2 => e e2.symm)
              have HKQ := Lib.hid hKq
              have HG1 := Lib.hid hg1
              have HBX := Lib.hid (HR.out.box.grown hg1 (fun e => by have := (hvo _ e.symm).1; omega))
              have hM1 : 1 ≤ M0.length := by rw [HML.out]; exact T.size_pos
              have hwr : wrap64 ((G.length : Int) - 1) = (G.length : Int) - 1 := IntWalk.wrap64_in _ (by omega)
              have hwr2 : IntKind.i64.wrap ((G.length : Int) - 1) = (G.length : Int) - 1 := IntWalk.i64_in _ (by omega)
              have HGL := Lib.hid hGl
              have HML2 := Lib.hid hMl
              clear hg1 hKq hB8 hvo hgr hGl hMl
              go_wp2_with (first
                | (at_builtin
                   refine wpList_append1 wq rfl (.tmp 77) (.tmp 81) _ rfl (w.heap.size + 2) 3 i0 _ 1 8 Tryd.underlying63 hi0 hz0 hz1 hz2 rfl (by omega) (.slice Av j cv) j ((ends 0 ((ts.take j).map treeOf)).map (Value.int .i64)) rfl HKQ.out [_] rfl rfl (by simp [Value.oneCell']) (by unfold maxLen; omega) (by omega) (by omega) ?_
                   intro v4 w4 hown4 hg4 hat4
                   obtain ⟨A4, c4, rfl, _, _, _⟩ := own_slice hown4
                   have hB4 := HBX.out.grown hg4 (fun e => by
                     have := (own_blk_lt HKQ.out e.symm).1
                     omega)
                   have e8 : w4.cell? ⟨w.heap.size, 8, none⟩ = some (.slice Av j cv) := hB4.cell 8
                   have f8 := hB4.frozen 8
                   have HOW4 := Lib.hid hown4
                   have HG4 := Lib.hid hg4
                   have HAT4 := Lib.hid hat4
                   clear hown4 hg4 hat4 hB4)
                | fail)
              go_roundw
              case measure => simp [intOf]; omega
              case rel =>
                have hGl := HGL.out
                have hMl := HML2.out
                have hfa : F ++ M = flatsAt 0 ((ts.take j).map treeOf) ++ flatAt (flatsAt 0 ((ts.take j).map treeOf)).length (treeOf t) := by
                  rw [← HFE.out, HM.out, HM0.out, HTT.out, ← flatAt_from]
                have hGe : G = F ++ M := by rw [HGE.out, ← hMl, List.take_length]
                have ho : OwnNodes wq 65 (w.heap.size + 2) (fun b => (Value.slice Av j cv).ownBlock ≠ some b ∨ wo.heap.size ≤ b) (.slice A9 G.length c9) (flatsAt 0 ((ts.take j).map treeOf) ++ flatAt (flatsAt 0 ((ts.take j).map treeOf)).length (treeOf t)) := by
                  rw [← hfa]
                  have := HI.out.out
                  rw [← hMl, List.take_length] at this
                  exact ⟨_, this⟩
                have hro := HR.out
                rw [HFE.out] at hro
                have h4 := HOW4.out
                have e1 : ((G.length : Int) - 1) = (((sizes ((ts.take j).map treeOf) + (treeOf t).size : Nat) : Int) - 1) := by
                  rw [hGl, HFE.out, flatsAt_length, HML.out, HTT.out]
                rw [e1] at h4
                have hnew := of_round2 HR.out rfl HTJ.out ho HG1.out (by
                  rcases HI.out.at_ with e | e
                  · exact .inl e
                  · exact .inr fun g hg => Nat.le_trans HWB.out.size (e g hg)) h4 HG4.out HAT4.out
                have hF1 : F ++ M = flatsAt 0 ((ts.take (j + 1)).map treeOf) := by
                  rw [hfa, List.take_add_one, HTJ.out, List.map_append, flatsAt_append, Nat.zero_add, flatsAt_length]
                  simp [flatsAt]
                refine ⟨j + 1, G, A9, c9, A4, c4, by omega, by go_num, rfl, Lib.hid (by rw [hGe, hF1]), Lib.hid (fun x hx => ?_), Lib.hid hnew⟩
                rw [List.take_add_one, HTJ.out] at hx
                rcases List.mem_append.1 hx with hx | hx
                · exact HRT.out x hx
                · simp at hx; subst hx; exact HR1.out
        · have HRR := Lib.hid (rright_g HGR.out)
          rw [decide_eq_false hr] at HRR
          have HNO := Lib.hid (show ¬ (fits N.d ts.length = true ∧ ∀ t ∈ ts, RightT t) from fun h => hr (h.2 t (List.mem_of_getElem? HTJ.out)))
          clear hr
          go_wp2_with fail
          refine Calls.mono HRR.out ?_
          rintro e w2 ⟨rfl, hb2⟩
          have HC2 := Lib.hid (HR.out.cell.below hb2 HR.out.cell.lt)
          have Hb2 := Lib.hid (HR.out.below.trans (hb2.mono HR.out.below.size))
          have g0 : w2.cell? ⟨w.heap.size + 1, 0, none⟩ = some (.slice none 0 0) := HC2.out.cell 0
          have g1 : w2.cell? ⟨w.heap.size + 1, 1, none⟩ = some (.int .i64 0) := HC2.out.cell 1
          have f0 := HC2.out.frozen 0
          have f1 := HC2.out.frozen 1
          clear hb2
          go_wp2_with fail
          obtain ⟨w9, hw9⟩ : ∃ w9, w9 = (w2.setCell ⟨w.heap.size + 1, 0, none⟩ (.slice none 0 0)).setCell ⟨w.heap.size + 1, 1, none⟩ (.int .i64 0) := ⟨_, rfl⟩
          have hB9 : Blk w9 (w.heap.size + 1) 34 #[.slice none 0 0, .int .i64 0] := by rw [hw9]; exact HC2.out.set2 (.slice none 0 0) (.int .i64 0)
          have hb9 : Below w.heap.size w w9 := by rw [hw9]; exact (Hb2.out.setCell (by simp) _).setCell (by simp) _
          rw [← hw9]
          refine bodyPost_ret (results_cell2 rfl _ _ (w.heap.size + 1) _ _ _ rfl hB9 Tryd.underlying34 rfl tree_size) rfl ?_
          exact ⟨_, _, _, rfl, OwnTree.zero _ _, ⟨fun h1 h2 => absurd (And.intro h1 h2) HNO.out, fun _ => ⟨rfl, rfl⟩⟩, hb9⟩
      · obtain rfl : j = ts.length := by omega
        have htk : ts.take ts.length = ts := List.take_length
        have HALL := Lib.hid (show ∀ t ∈ ts, RightT t from fun x hx => HRT.out x (by rw [htk]; exact hx))
        have hFl : F.length = sizes (ts.map treeOf) := by rw [HFE.out, flatsAt_length, htk]
        have hn5 : F.length ≤ 500000 := by
          have h1 := sizes_take_le ts HALL.out ts.length
          rw [htk] at h1
          have := HSUM.out
          omega
        obtain ⟨kvs, hk⟩ := HR.out.out
        rw [← HFE.out] at hk
        obtain ⟨d0, d1, d2, d3, d4, d5, d6, d7, d8⟩ := HR.out.box.nine
        have HRW := Lib.hid hk.row
        have HK := Lib.hid hk
        have HFL := Lib.hid hFl
        have HTK := Lib.hid htk
        clear hk hFl htk
        go_wp2_with (first
          | (at_builtin
             refine wpList_append1 wo rfl (.tmp 84) (.tmp 86) _ rfl (w.heap.size + 2) 65 i1 _ 9 96 Tryd.underlying32 hi1 hy0 hy1 hy2 rfl (by omega) (.slice Ao F.length co) F.length (nodesCells F kvs) rfl HRW.out [_, _, _, _, _, _, _, _, _] rfl rfl (by simp [Value.oneCell']) (by unfold maxLen; omega) (by omega) (by omega) ?_
             intro v5 w5 hown5 hg5 hat5
             obtain ⟨A5, c5, rfl, _, _, _⟩ := own_slice hown5
             have hvl : ∀ g, (Value.slice Ao F.length co).ownBlock = some g → w.heap.size + 2 ≤ g := fun g e => (own_blk_lt HRW.out e).1
             have hC5 : Blk w5 (w.heap.size + 1) 34 #[.slice none 0 0, .int .i64 0] := HR.out.cell.grown hg5 (fun e => by have := hvl _ e.symm; omega)
             have e0 : w5.cell? ⟨w.heap.size + 1, 0, none⟩ = some (.slice none 0 0) := hC5.cell 0
             have e1 : w5.cell? ⟨w.heap.size + 1, 1, none⟩ = some (.int .i64 0) := hC5.cell 1
             have f0 := hC5.frozen 0
             have f1 := hC5.frozen 1
             have hb5 : Below w.heap.size w w5 := HR.out.below.trans (below_of_grown hg5 HR.out.below.size (fun g e => by have := hvl g e; omega))
             have HC5 := Lib.hid hC5
             have HOW5 := Lib.hid hown5
             have HG5 := Lib.hid hg5
             have HAT5 := Lib.hid hat5
             have HB5 := Lib.hid hb5
             clear hown5 hg5 hat5 hC5 hvl hb5)
          | fail)
        have hpush := (HK.out.weaken (Y := fun _ => True) (fun _ _ _ _ => trivial)).push (n := ⟨N.d, ends 0 (ts.map treeOf)⟩) (kv := .slice Av ts.length cv) (w' := w5) (v' := .slice A5 (F.length + 1) c5) ?_ HDO.out HOW5.out HG5.out ?_
        · obtain ⟨w6, hw6⟩ : ∃ w6, w6 = (w5.setCell ⟨w.heap.size + 1, 0, none⟩ (.slice A5 (F.length + 1) c5)).setCell ⟨w.heap.size + 1, 1, none⟩ (.int .i64 (F.length : Int)) := ⟨_, rfl⟩
          have hO6 : OwnTree w6 w.heap.size (.agg #[.slice A5 (F.length + 1) c5, .int .i64 (F.length : Int)]) (flatT (.node N.d (ts.map treeOf))) := by
            have hx : flatT (.node N.d (ts.map treeOf)) = ⟨F ++ [⟨N.d, ends 0 (ts.map treeOf)⟩], (F.length : Int)⟩ := by
              rw [HFE.out, HTK.out, flatT]
              simp only [flatAt, T.size, Tr.mk.injEq, true_and]
              rw [flatsAt_length]; omega
            rw [hx]
            refine ⟨.slice A5 (F.length + 1) c5, rfl, ?_⟩
            rw [hw6]
            exact OwnNodes.base_ (OwnNodes.low ⟨_, hpush⟩ (grown_set2 _ _ 0 1 _ _) (by omega)) (by omega)
          have hB6 : Blk w6 (w.heap.size + 1) 34 #[.slice A5 (F.length + 1) c5, .int .i64 (F.length : Int)] := by
            rw [hw6]; exact HC5.out.set2 (.slice A5 (F.length + 1) c5) (.int .i64 (F.length : Int))
          have hb6 : Below w.heap.size w w6 := by
            rw [hw6]; exact (HB5.out.setCell (by simp) _).setCell (by simp) _
          rw [← hw6]
          refine bodyPost_ret (results_cell2 rfl _ _ (w.heap.size + 1) _ _ _ rfl hB6 Tryd.underlying34 rfl tree_size) rfl ?_
          exact ⟨_, _, _, rfl, hO6, ⟨fun _ _ => ⟨rfl, rfl⟩, fun hno => absurd ⟨HFIT.out, HALL.out⟩ hno⟩, hb6⟩
        · have hkk := HR.out.kids
          rw [HTK.out] at hkk
          have hl : (ends 0 (ts.map treeOf)).length = ts.length := by simp
          refine RInts.of_own (ks := ends 0 (ts.map treeOf)) (by rw [hl]; exact hkk) (fun g hg => ?_)
          have h1 := own_blk_lt hkk hg
          refine ⟨h1.1, h1.2, fun e => ?_, trivial, own_soft hkk hg⟩
          rcases HR.out.apart with h2 | h2
          · rw [e] at h2; cases h2
          · exact h2 (by rw [e, hg])
        · rcases HAT5.out with e | e
          · exact .inl e
          · exact .inr fun g hg => by rw [e] at hg; injection hg; omega
  · have HNO := Lib.hid (show ¬ (fits N.d ts.length = true ∧ ∀ t ∈ ts, RightT t) from fun h => hfit h.1)
    rw [Bool.eq_false_iff.2 hfit] at HF
    clear hfit
    go_enter Tryd.func94, Tryd.ntmps94
    go_wp2_with fail
    refine Calls.mono (HF.out _) ?_
    rintro e w1 ⟨rfl, hb1⟩
    have HC1 : Hid (Blk w1 (w.heap.size + 1) 34 #[.slice none 0 0, .int .i64 0]) := Lib.hid ((Blk.new1 w _ _ _).below hb1 (by simp))
    have Hb1 := Lib.hid (show Below w.heap.size w w1 from (((Below.refl _ _).alloc (Nat.le_refl _) _).alloc (by simp) _).trans (hb1.mono (by simp; omega)))
    have g0 : w1.cell? ⟨w.heap.size + 1, 0, none⟩ = some (.slice none 0 0) := HC1.out.cell 0
    have g1 : w1.cell? ⟨w.heap.size + 1, 1, none⟩ = some (.int .i64 0) := HC1.out.cell 1
    have f0 := HC1.out.frozen 0
    have f1 := HC1.out.frozen 1
    clear hb1
    go_wp2_with fail
    obtain ⟨w9, hw9⟩ : ∃ w9, w9 = (w1.setCell ⟨w.heap.size + 1, 0, none⟩ (.slice none 0 0)).setCell ⟨w.heap.size + 1, 1, none⟩ (.int .i64 0) := ⟨_, rfl⟩
    have hB9 : Blk w9 (w.heap.size + 1) 34 #[.slice none 0 0, .int .i64 0] := by rw [hw9]; exact HC1.out.set2 (.slice none 0 0) (.int .i64 0)
    have hb9 : Below w.heap.size w w9 := by rw [hw9]; exact (Hb1.out.setCell (by simp) _).setCell (by simp) _
    rw [← hw9]
    refine bodyPost_ret (results_cell2 rfl _ _ (w.heap.size + 1) _ _ _ rfl hB9 Tryd.underlying34 rfl tree_size) rfl ?_
    exact ⟨_, _, _, rfl, OwnTree.zero _ _, ⟨fun h1 h2 => absurd (And.intro h1 h2) HNO.out, fun _ => ⟨rfl, rfl⟩⟩, hb9⟩
end Go.Proofs.YtclfpjfjebheoaaDoor
/- The contract of bonsairef05.open, of trees that are normal. -/
namespace Go.Proofs.YtclfpjfjebheoaaDoor
set_option linter.unusedSimpArgs false
open Go.RowKit
open Classical

theorem flat_kids_mem (x : T) : ∀ n ∈ (flatT x).nodes, n.kids.length ≤ x.size := fun n hn => by
  obtain ⟨k, hk⟩ := List.mem_iff_getElem?.1 hn
  exact flat_kids_le x k n hk
/-- Flat trees in a row, soft. -/
structure RG5 (S : Nat → Prop) (L : List T) (v : Value) (w : World) : Prop where
  row : RTrees w S v (L.map flatT)
  soft : ∀ b, S b → b < w.heap.size ∧ Soft w b
  fit : ∀ x ∈ L, FitT x
  tab : KTab w
  sum : sizes L ≤ 100000
theorem RG5.below {S : Nat → Prop} {L : List T} {v : Value} {w w' : World} (h : RG5 S L v w) (hb : Below w.heap.size w w') : RG5 S L v w' := ⟨h.row.below hb fun b hs => (h.soft b hs).1, fun b hs => ⟨Nat.lt_of_lt_of_le (h.soft b hs).1 hb.size, (h.soft b hs).2.below hb (h.soft b hs).1⟩, h.fit, h.tab.below hb, h.sum⟩
theorem sizes_take (L : List T) (j : Nat) : sizes (L.take j) ≤ sizes L := by
  induction L generalizing j with
  | nil => simp
  | cons a L ih =>
    cases j with
    | zero => simp [sizes]
    | succ j => simp only [List.take_succ_cons, sizes]; have := ih j; omega
theorem size_mem5 {L : List T} {x : T} (h : x ∈ L) : x.size ≤ sizes L := by
  induction L with
  | nil => cases h
  | cons a L ih =>
    simp only [sizes]
    rcases List.mem_cons.1 h with rfl | h
    · omega
    · have := ih h; omega
theorem RG5.at_ {S : Nat → Prop} {L : List T} {A : Option Addr} {n c : Nat} {w : World} (h : RG5 S L (.slice A n c) w) {j : Nat} {x : T} (hj : L[j]? = some x) :
    ∃ b off Ak ck, A = some ⟨b, off, none⟩ ∧ n = L.length ∧ b < w.heap.size ∧ RTree w S (.agg #[.slice Ak (flatT x).nodes.length ck, .int .i64 (flatT x).root]) (flatT x) ∧
      w.cell? ⟨b, off + j * 2, none⟩ = some (.slice Ak (flatT x).nodes.length ck) ∧ w.cell? ⟨b, off + j * 2 + 1, none⟩ = some (.int .i64 (flatT x).root) := by
  obtain ⟨A', c', hv, _, _, hr⟩ := h.row.at_
  injection hv with h1 h2 h3
  subst h1
  have hjl : j < L.length := (List.getElem?_eq_some_iff.1 hj).1
  obtain ⟨b, off, rfl, hS, hc⟩ := hr (by rw [List.length_map]; omega)
  obtain ⟨nv, hn, hrt, c0, c1⟩ := hc j (flatT x) (by rw [List.getElem?_map, hj]; rfl)
  obtain ⟨Ak, ck, rfl, _, _, _⟩ := hn.at_
  exact ⟨b, off, Ak, ck, rfl, by rw [h2, List.length_map], (h.soft _ hS).1, ⟨_, rfl, hn, hrt⟩, c0, c1⟩
theorem RG5.givenR {S : Nat → Prop} {x : T} {v : Value} {w : World} (h : RTree w S v (flatT x)) (hS : ∀ b, S b → b < w.heap.size) (hk : KTab w) (hs : x.size ≤ 100000) : GivenR (flatT x) v S w :=
  ⟨⟨h, hS, hk, by rw [flatT_len]; omega⟩, fun n hn => by have := flat_kids_mem x n hn; omega⟩
def OpenC (k z : Int) (L : List T) : Prop := ∀ (S : Nat → Prop) (v : Value) (w : World), RG5 S L v w → Calls Tryd.prog 96 #[.int .u8 k, v] w fun e w' => ∃ u, e = .returned u ∧ OL w' w.heap.size (fun b => S b ∨ w.heap.size ≤ b) u ((openK k z L).map flatT) ∧ Below w.heap.size w w'

set_option maxRecDepth 20000 in
set_option maxHeartbeats 8000000 in
theorem open4_step {L : List T} (hrec : ∀ x ∈ L, x.d.kind = 4 → OpenC 4 0 x.kids ∧ openK 4 0 x.kids = x.kids) : OpenC 4 0 L := by
  intro S v w h
  obtain ⟨A, c, rfl, -, hs, -⟩ := h.row.at_
  rw [List.length_map] at h ⊢
  have HG := Lib.hid h
  have HREC := Lib.hid hrec
  have hll : L.length ≤ 100000 := Nat.le_trans (sizes_len L) h.sum
  obtain ⟨i0, hi0, hz0, hz1, hz2⟩ := info_parts tree_info
  have hia : Hid (Tryd.prog.info? 34 = some i0 ∧ i0.zero = some (.agg #[.slice none 0 0, .int .i64 0]) ∧ i0.size = 2 ∧ i0.bytes = 32) := Lib.hid ⟨hi0, hz0, hz1, hz2⟩
  clear h hrec hi0 hz0 hz1 hz2 hs
  have hfn := field_kind
  go_enter Tryd.func96, Tryd.ntmps96
  go_wp2_with fail
  go_loopw [5, 6] (fun vo i wr => ∃ (j : Nat) (vr : Value), vo = vr ∧ j ≤ L.length ∧ i = .int .i64 j ∧ Hid (OL wr w.heap.size (fun b => S b ∨ w.heap.size ≤ b) vr ((openK 4 0 (L.take j)).map flatT)) ∧ Hid (Below w.heap.size w wr)) (fun _ i _ => L.length - (intOf i).toNat)
  case atStart => exact ⟨0, _, rfl, Nat.zero_le _, rfl, Lib.hid (OL.nil_ _ _ _), Lib.hid (Below.refl _ _)⟩
  case round =>
    obtain ⟨wo, rfl⟩ : ∃ wo, wo = wr := ⟨_, rfl⟩
    obtain ⟨j, vr, rfl, hj, rfl, HOW, HW⟩ := hrel
    obtain ⟨P, hP⟩ : ∃ P, P = (openK 4 0 (L.take j)).map flatT := ⟨_, rfl⟩
    have HPE := Lib.hid hP.symm
    rw [← hP] at HOW
    obtain ⟨R, q, hvr⟩ := HOW.out.slice
    subst hvr
    by_cases hlt : j < L.length
    · obtain ⟨x, hx⟩ : ∃ x, L[j]? = some x := ⟨_, List.getElem?_eq_getElem hlt⟩
      have hxm := List.mem_of_getElem? hx
      have HTK := Lib.hid (show openK 4 0 (L.take (j + 1)) = openK 4 0 (L.take j) ++ openK 4 0 [x] by rw [List.take_add_one, hx]; exact openK_append _ _ _ _)
      have hPl : P.length ≤ 100000 := by
        rw [hP, List.length_map]
        have h1 := sizes_len (openK 4 0 (L.take j))
        have h2 := sizes_open 4 0 (L.take j)
        have h3 := sizes_take L j
        have := HG.out.sum
        omega
      have hxz : x.size ≤ 100000 := Nat.le_trans (size_mem5 hxm) HG.out.sum
      have hfx := HG.out.fit x hxm
      obtain ⟨b, off, Ak, ck, rfl, -, hbw, hxt, d0, d1⟩ := (HG.out.below HW.out).at_ hx
      obtain ⟨t, ht⟩ : ∃ t, t = flatT x := ⟨_, rfl⟩
      rw [← ht] at hxt d0 d1
      have HT := Lib.hid ht
      have hkw := (HG.out.tab.below HW.out)
      have HGR := Lib.hid (show GivenR t (.agg #[.slice Ak t.nodes.length ck, .int .i64 t.root]) S wo by rw [ht] at hxt ⊢; exact RG5.givenR hxt (fun b hb => ((HG.out.below HW.out).soft b hb).1) hkw hxz)
      have HRt := Lib.hid (show Calls Tryd.prog 93 #[.agg #[.slice Ak t.nodes.length ck, .int .i64 t.root]] wo fun e w' => e = .returned (.agg #[.int .u8 x.d.kind, .int .u64 x.d.s0, .int .u64 x.d.s1, .int .u64 x.d.s2, .int .u64 x.d.s3, .string ⟨x.d.text.toArray⟩, .int .i64 x.d.min, .int .i64 x.d.max, .slice none 0 0]) ∧ Below wo.heap.size wo w' from
        (rRoot_g HGR.out).mono fun e w' h => by
          obtain ⟨⟨N0, he, hN0⟩, hbb⟩ := h
          rw [ht, root_flat_of x hfx] at hN0
          exact ⟨by rw [he, hN0]; rfl, hbb⟩)
      have HFX := Lib.hid hfx
      have HXM := Lib.hid hxm
      have hj0 : (0 : Int) ≤ (j : Int) := by omega
      have hj1 : (j : Int) < (L.length : Int) := by omega
      have HXJ := Lib.hid hx
      clear hx hxm hP hfx ht hkw hxt
      go_wp2_with fail
      clear d0 d1
      refine Calls.mono HRt.out ?_
      rintro e w2 ⟨rfl, hb2⟩
      obtain ⟨w2b, hw2b⟩ : ∃ w2b, w2b = w2.alloc (.cells #[.int .u8 x.d.kind, .int .u64 x.d.s0, .int .u64 x.d.s1, .int .u64 x.d.s2, .int .u64 x.d.s3, .string ⟨x.d.text.toArray⟩, .int .i64 x.d.min, .int .i64 x.d.max, .slice none 0 0] 65) := ⟨_, rfl⟩
      have hBn : Blk w2b w2.heap.size 65 #[.int .u8 x.d.kind, .int .u64 x.d.s0, .int .u64 x.d.s1, .int .u64 x.d.s2, .int .u64 x.d.s3, .string ⟨x.d.text.toArray⟩, .int .i64 x.d.min, .int .i64 x.d.max, .slice none 0 0] := by rw [hw2b]; exact Blk.new _ _ _
      have hb2b : Below wo.heap.size wo w2b := by rw [hw2b]; exact hb2.trans ((below_row0 w2 _).mono hb2.size)
      have HW2 := Lib.hid (HW.out.trans (hb2b.mono HW.out.size))
      have HWB := Lib.hid hb2b
      replace HOW := Lib.hid (HOW.out.below hb2b)
      obtain ⟨nvs, hnl, hrow, hns⟩ := HOW.out
      have HROW := Lib.hid hrow
      have HNV := Lib.hid (And.intro hnl hns)
      have HBS := Lib.hid HW2.out.size
      obtain ⟨b', off', Ak', ck', hA, -, hbw', hxt2, d0, d1⟩ := (HG.out.below HW2.out).at_ (j := j) (x := x) (HXJ.out)
      injection hA with hA
      injection hA with hA1 hA2
      subst hA1; subst hA2
      rw [← HT.out] at hxt2 d0 d1
      have HXA := Lib.hid hxt2
      have HGR2 := Lib.hid (show GivenR t (.agg #[.slice Ak' t.nodes.length ck', .int .i64 t.root]) S w2b by rw [HT.out] at hxt2 ⊢; exact RG5.givenR hxt2 (fun b hb => ((HG.out.below HW2.out).soft b hb).1) (HG.out.tab.below HW2.out) hxz)
      have k0 : w2b.cell? ⟨w2.heap.size, 0, none⟩ = some (.int .u8 x.d.kind) := hBn.cell 0
      clear hb2 hBn hb2b hnl hrow hns hxt2
      by_cases h1 : x.d.kind = 4
      · have e1 : (x.d.kind == 4) = true := beq_iff_eq.2 h1
        have HRX := Lib.hid (HREC.out x HXM.out h1)
        have HO := Lib.hid (show openK 4 0 [x] = x.kids by simp [openK, h1])
        have HKI := Lib.hid (rKids_g HGR2.out)
        clear h1
        rw [hw2b] at k0 d0 d1
        go_wp2_with fail
        rw [← hw2b]
        clear hw2b
        refine Calls.mono HKI.out ?_
        rintro e w3 ⟨u3, rfl, hu3, hb3⟩
        have hk3 : kidsOfT t = x.kids.map flatT := by rw [HT.out]; exact kids_flat_of x HFX.out
        rw [hk3] at hu3
        have HRO := Lib.hid (HRX.out.1 (fun b => w2b.heap.size ≤ b ∧ b < w3.heap.size ∧ Soft w3 b) u3 w3 ⟨OwnList.soft hu3, fun b hb => hb.2, HFX.out.kids, (HG.out.tab.below HW2.out).below hb3, by
          have h1 := size_kids x
          omega⟩)
        replace HOW := Lib.hid (HOW.out.below hb3)
        replace HW2 := Lib.hid (HW2.out.trans (hb3.mono HW2.out.size))
        have HS34 := Lib.hid (show w2b.heap.size ≤ w3.heap.size from hb3.size)
        clear hu3 hk3 hb3 k0 d0 d1
        go_wp2_with fail
        refine Calls.mono HRO.out ?_
        rintro e w4 ⟨u4, rfl, hu4, hb4⟩
        rw [HRX.out.2] at hu4
        obtain ⟨U, hU⟩ : ∃ U, U = x.kids.map flatT := ⟨_, rfl⟩
        rw [← hU] at hu4
        have hUl : U.length ≤ 100000 := by
          rw [hU, List.length_map]
          have h1 := size_kids x
          have h2 := sizes_len x.kids
          omega
        have HU := Lib.hid hU
        replace HOW := Lib.hid (HOW.out.below hb4)
        replace HW2 := Lib.hid (HW2.out.trans (hb4.mono HW2.out.size))
        obtain ⟨nvs, hnl, hrow, hns⟩ := HOW.out
        obtain ⟨mvs, hml, hmr, hmn⟩ := hu4
        obtain ⟨Au, cu, rfl, -⟩ := own_slice hmr
        have HRD := Lib.hid (Reads.of_own hmr)
        have HONE := Lib.hid (cells_one _ _ hml fun j t nv h1 h2 => (hmn j t nv h1 h2).1)
        have HROW2 := Lib.hid hrow
        have HNV2 := Lib.hid (And.intro hnl hns)
        have HMV := Lib.hid (And.intro hml hmn)
        have HBS2 := Lib.hid HW2.out.size
        have HU4 := Lib.hid (fun g (e : (Value.slice Au U.length cu).ownBlock = some g) => own_blk_lt hmr e)
        have HRB := Lib.hid (fun g (e : (Value.slice R P.length q).ownBlock = some g) => own_blk_lt hrow e)
        have HRB0 := Lib.hid (fun g (e : (Value.slice R P.length q).ownBlock = some g) => own_blk_lt HROW.out e)
        clear hnl hrow hns hml hmr hmn hU hb4
        go_wp2_with (first
          | (at_builtin
             refine wpList_append_any w4 rfl (.tmp 23) (.tmp 30) _ rfl w.heap.size 34 i0 _ 2 32 Tryd.underlying48 hia.out.1 hia.out.2.1 hia.out.2.2.1 hia.out.2.2.2 rfl (by omega) (.slice R P.length q) P.length (treesCells P nvs) rfl HROW2.out w4.heap.size Au U.length cu (treesCells U mvs) rfl HRD.out HONE.out (by unfold maxLen; omega) (by omega) HBS2.out ?_
             intro v5 w5 hown5 hg5 hat5)
          | fail)
        have hp := OL.append HNV2.out.1 HNV2.out.2 HMV.out.1 HMV.out.2 (fun y hy => by
          have hge : w2b.heap.size ≤ y := by
            rcases hy.1 with h | h
            · exact h.1
            · have := HS34.out; omega
          exact ⟨.inr (by have := HBS.out; omega), hy.2.1, fun e => by have := (HRB0.out y e).2; omega, hy.2.2.2⟩) hown5 hg5 (by
          rcases hat5 with e | e
          · exact .inl e
          · exact .inr fun g hg => by rw [e] at hg; injection hg; omega)
        have hb5 := HW2.out.trans (below_of_grown hg5 HBS2.out fun g e => (HRB.out g e).1)
        go_roundw
        case measure => simp [intOf]; omega
        case rel => exact ⟨j + 1, v5, rfl, by omega, by go_num, Lib.hid (by rw [HTK.out, HO.out, List.map_append, HPE.out, ← HU.out]; exact hp), Lib.hid hb5⟩
      · have e1 : (x.d.kind == 4) = false := beq_eq_false_iff_ne.2 h1
        obtain ⟨nvx, hnx, hx1, hx2, hx3⟩ := HXA.out
        have ev : nvx = .slice Ak' t.nodes.length ck' := by simp at hnx; exact hnx.symm
        subst ev
        have HXT := Lib.hid (And.intro hx1 (And.intro hx2 hx3))
        have HXS := Lib.hid (show ∀ y, S y → (S y ∨ w.heap.size ≤ y) ∧ y < w2b.heap.size ∧ (Value.slice R P.length q).ownBlock ≠ some y ∧ Soft w2b y from fun y hy => ⟨.inl hy, ((HG.out.below HW2.out).soft y hy).1, fun e => by have := (own_blk_lt HROW.out e).1; have := (HG.out.soft y hy).1; omega, ((HG.out.below HW2.out).soft y hy).2⟩)
        clear hx1 hx2 hx3 hnx
        subst hw2b
        by_cases h0 : x.d.kind = 0
        · have e0 : (x.d.kind != 0) = false := by rw [h0]; rfl
          have HO := Lib.hid (show openK 4 0 [x] = [] by simp [openK, h0])
          clear h0
          go_wp2_with fail
          go_roundw
          case measure => simp [intOf]; omega
          case rel => exact ⟨j + 1, .slice R P.length q, rfl, by omega, by go_num, Lib.hid (by rw [HTK.out, HO.out, List.append_nil, HPE.out]; exact HOW.out), HW2⟩
        · have e0 : (x.d.kind != 0) = true := bne_iff_ne.2 h0
          have HO := Lib.hid (show openK 4 0 [x] = [x] by simp [openK, h1, h0])
          go_wp2_with (first
            | (at_builtin
               refine wpList_append1N (w2.alloc (.cells #[.int .u8 x.d.kind, .int .u64 x.d.s0, .int .u64 x.d.s1, .int .u64 x.d.s2, .int .u64 x.d.s3, .string ⟨x.d.text.toArray⟩, .int .i64 x.d.min, .int .i64 x.d.max, .slice none 0 0] 65)) (w2.heap.size + 1) (by simp) rfl (.tmp 39) (.tmp 44) _ rfl w.heap.size 34 i0 _ 2 32 Tryd.underlying48 hia.out.1 hia.out.2.1 hia.out.2.2.1 hia.out.2.2.2 rfl (by omega) (.slice R P.length q) P.length (treesCells P nvs) rfl HROW.out [_, _] rfl rfl (by simp [Value.oneCell']) (by unfold maxLen; omega) (by omega) HBS.out ?_
               intro v4 w4 hown4 hg4 hat4)
            | fail)
          have hp := OL.push HNV.out.1 HNV.out.2 HXT.out.1 HXT.out.2.1 HXT.out.2.2 HXS.out hown4 hg4 (by
            rcases hat4 with e | e
            · exact .inl e
            · exact .inr fun g hg => by rw [e] at hg; injection hg; omega)
          have hrb : ∀ g, (Value.slice R P.length q).ownBlock = some g → w.heap.size ≤ g := fun g e => (own_blk_lt HROW.out e).1
          have hb4 := HW2.out.trans (below_of_grown hg4 HBS.out hrb)
          go_roundw
          case measure => simp [intOf]; omega
          case rel => exact ⟨j + 1, v4, rfl, by omega, by go_num, Lib.hid (by rw [HTK.out, HO.out, List.map_append, HPE.out, List.map_cons, List.map_nil, ← HT.out]; exact hp), Lib.hid hb4⟩
    · obtain rfl : j = L.length := by omega
      rw [List.take_length] at HPE
      go_wp2_with fail
      go_ret
      exact ⟨_, rfl, by rw [HPE.out]; exact HOW.out, HW.out⟩

set_option maxRecDepth 20000 in
set_option maxHeartbeats 8000000 in
theorem open5_step {L : List T} (hrec : ∀ x ∈ L, x.d.kind = 5 → OpenC 5 5 x.kids ∧ openK 5 5 x.kids = x.kids) : OpenC 5 5 L := by
  intro S v w h
  obtain ⟨A, c, rfl, -, hs, -⟩ := h.row.at_
  rw [List.length_map] at h ⊢
  have HG := Lib.hid h
  have HREC := Lib.hid hrec
  have hll : L.length ≤ 100000 := Nat.le_trans (sizes_len L) h.sum
  obtain ⟨i0, hi0, hz0, hz1, hz2⟩ := info_parts tree_info
  have hia : Hid (Tryd.prog.info? 34 = some i0 ∧ i0.zero = some (.agg #[.slice none 0 0, .int .i64 0]) ∧ i0.size = 2 ∧ i0.bytes = 32) := Lib.hid ⟨hi0, hz0, hz1, hz2⟩
  clear h hrec hi0 hz0 hz1 hz2 hs
  have hfn := field_kind
  go_enter Tryd.func96, Tryd.ntmps96
  go_wp2_with fail
  go_loopw [5, 6] (fun vo i wr => ∃ (j : Nat) (vr : Value), vo = vr ∧ j ≤ L.length ∧ i = .int .i64 j ∧ Hid (OL wr w.heap.size (fun b => S b ∨ w.heap.size ≤ b) vr ((openK 5 5 (L.take j)).map flatT)) ∧ Hid (Below w.heap.size w wr)) (fun _ i _ => L.length - (intOf i).toNat)
  case atStart => exact ⟨0, _, rfl, Nat.zero_le _, rfl, Lib.hid (OL.nil_ _ _ _), Lib.hid (Below.refl _ _)⟩
  case round =>
    obtain ⟨wo, rfl⟩ : ∃ wo, wo = wr := ⟨_, rfl⟩
    obtain ⟨j, vr, rfl, hj, rfl, HOW, HW⟩ := hrel
    obtain ⟨P, hP⟩ : ∃ P, P = (openK 5 5 (L.take j)).map flatT := ⟨_, rfl⟩
    have HPE := Lib.hid hP.symm
    rw [← hP] at HOW
    obtain ⟨R, q, hvr⟩ := HOW.out.slice
    subst hvr
    by_cases hlt : j < L.length
    · obtain ⟨x, hx⟩ : ∃ x, L[j]? = some x := ⟨_, List.getElem?_eq_getElem hlt⟩
      have hxm := List.mem_of_getElem? hx
      have HTK := Lib.hid (show openK 5 5 (L.take (j + 1)) = openK 5 5 (L.take j) ++ openK 5 5 [x] by rw [List.take_add_one, hx]; exact openK_append _ _ _ _)
      have hPl : P.length ≤ 100000 := by
        rw [hP, List.length_map]
        have h1 := sizes_len (openK 5 5 (L.take j))
        have h2 := sizes_open 5 5 (L.take j)
        have h3 := sizes_take L j
        have := HG.out.sum
        omega
      have hxz : x.size ≤ 100000 := Nat.le_trans (size_mem5 hxm) HG.out.sum
      have hfx := HG.out.fit x hxm
      obtain ⟨b, off, Ak, ck, rfl, -, hbw, hxt, d0, d1⟩ := (HG.out.below HW.out).at_ hx
      obtain ⟨t, ht⟩ : ∃ t, t = flatT x := ⟨_, rfl⟩
      rw [← ht] at hxt d0 d1
      have HT := Lib.hid ht
      have hkw := (HG.out.tab.below HW.out)
      have HGR := Lib.hid (show GivenR t (.agg #[.slice Ak t.nodes.length ck, .int .i64 t.root]) S wo by rw [ht] at hxt ⊢; exact RG5.givenR hxt (fun b hb => ((HG.out.below HW.out).soft b hb).1) hkw hxz)
      have HRt := Lib.hid (show Calls Tryd.prog 93 #[.agg #[.slice Ak t.nodes.length ck, .int .i64 t.root]] wo fun e w' => e = .returned (.agg #[.int .u8 x.d.kind, .int .u64 x.d.s0, .int .u64 x.d.s1, .int .u64 x.d.s2, .int .u64 x.d.s3, .string ⟨x.d.text.toArray⟩, .int .i64 x.d.min, .int .i64 x.d.max, .slice none 0 0]) ∧ Below wo.heap.size wo w' from
        (rRoot_g HGR.out).mono fun e w' h => by
          obtain ⟨⟨N0, he, hN0⟩, hbb⟩ := h
          rw [ht, root_flat_of x hfx] at hN0
          exact ⟨by rw [he, hN0]; rfl, hbb⟩)
      have HFX := Lib.hid hfx
      have HXM := Lib.hid hxm
      have hj0 : (0 : Int) ≤ (j : Int) := by omega
      have hj1 : (j : Int) < (L.length : Int) := by omega
      have HXJ := Lib.hid hx
      clear hx hxm hP hfx ht hkw hxt
      go_wp2_with fail
      clear d0 d1
      refine Calls.mono HRt.out ?_
      rintro e w2 ⟨rfl, hb2⟩
      obtain ⟨w2b, hw2b⟩ : ∃ w2b, w2b = w2.alloc (.cells #[.int .u8 x.d.kind, .int .u64 x.d.s0, .int .u64 x.d.s1, .int .u64 x.d.s2, .int .u64 x.d.s3, .string ⟨x.d.text.toArray⟩, .int .i64 x.d.min, .int .i64 x.d.max, .slice none 0 0] 65) := ⟨_, rfl⟩
      have hBn : Blk w2b w2.heap.size 65 #[.int .u8 x.d.kind, .int .u64 x.d.s0, .int .u64 x.d.s1, .int .u64 x.d.s2, .int .u64 x.d.s3, .string ⟨x.d.text.toArray⟩, .int .i64 x.d.min, .int .i64 x.d.max, .slice none 0 0] := by rw [hw2b]; exact Blk.new _ _ _
      have hb2b : Below wo.heap.size wo w2b := by rw [hw2b]; exact hb2.trans ((below_row0 w2 _).mono hb2.size)
      have HW2 := Lib.hid (HW.out.trans (hb2b.mono HW.out.size))
      have HWB := Lib.hid hb2b
      replace HOW := Lib.hid (HOW.out.below hb2b)
      obtain ⟨nvs, hnl, hrow, hns⟩ := HOW.out
      have HROW := Lib.hid hrow
      have HNV := Lib.hid (And.intro hnl hns)
      have HBS := Lib.hid HW2.out.size
      obtain ⟨b', off', Ak', ck', hA, -, hbw', hxt2, d0, d1⟩ := (HG.out.below HW2.out).at_ (j := j) (x := x) (HXJ.out)
      injection hA with hA
      injection hA with hA1 hA2
      subst hA1; subst hA2
      rw [← HT.out] at hxt2 d0 d1
      have HXA := Lib.hid hxt2
      have HGR2 := Lib.hid (show GivenR t (.agg #[.slice Ak' t.nodes.length ck', .int .i64 t.root]) S w2b by rw [HT.out] at hxt2 ⊢; exact RG5.givenR hxt2 (fun b hb => ((HG.out.below HW2.out).soft b hb).1) (HG.out.tab.below HW2.out) hxz)
      have k0 : w2b.cell? ⟨w2.heap.size, 0, none⟩ = some (.int .u8 x.d.kind) := hBn.cell 0
      clear hb2 hBn hb2b hnl hrow hns hxt2
      by_cases h1 : x.d.kind = 5
      · have e1 : (x.d.kind == 5) = true := beq_iff_eq.2 h1
        have HRX := Lib.hid (HREC.out x HXM.out h1)
        have HO := Lib.hid (show openK 5 5 [x] = x.kids by simp [openK, h1])
        have HKI := Lib.hid (rKids_g HGR2.out)
        clear h1
        rw [hw2b] at k0 d0 d1
        go_wp2_with fail
        rw [← hw2b]
        clear hw2b
        refine Calls.mono HKI.out ?_
        rintro e w3 ⟨u3, rfl, hu3, hb3⟩
        have hk3 : kidsOfT t = x.kids.map flatT := by rw [HT.out]; exact kids_flat_of x HFX.out
        rw [hk3] at hu3
        have HRO := Lib.hid (HRX.out.1 (fun b => w2b.heap.size ≤ b ∧ b < w3.heap.size ∧ Soft w3 b) u3 w3 ⟨OwnList.soft hu3, fun b hb => hb.2, HFX.out.kids, (HG.out.tab.below HW2.out).below hb3, by
          have h1 := size_kids x
          omega⟩)
        replace HOW := Lib.hid (HOW.out.below hb3)
        replace HW2 := Lib.hid (HW2.out.trans (hb3.mono HW2.out.size))
        have HS34 := Lib.hid (show w2b.heap.size ≤ w3.heap.size from hb3.size)
        clear hu3 hk3 hb3 k0 d0 d1
        go_wp2_with fail
        refine Calls.mono HRO.out ?_
        rintro e w4 ⟨u4, rfl, hu4, hb4⟩
        rw [HRX.out.2] at hu4
        obtain ⟨U, hU⟩ : ∃ U, U = x.kids.map flatT := ⟨_, rfl⟩
        rw [← hU] at hu4
        have hUl : U.length ≤ 100000 := by
          rw [hU, List.length_map]
          have h1 := size_kids x
          have h2 := sizes_len x.kids
          omega
        have HU := Lib.hid hU
        replace HOW := Lib.hid (HOW.out.below hb4)
        replace HW2 := Lib.hid (HW2.out.trans (hb4.mono HW2.out.size))
        obtain ⟨nvs, hnl, hrow, hns⟩ := HOW.out
        obtain ⟨mvs, hml, hmr, hmn⟩ := hu4
        obtain ⟨Au, cu, rfl, -⟩ := own_slice hmr
        have HRD := Lib.hid (Reads.of_own hmr)
        have HONE := Lib.hid (cells_one _ _ hml fun j t nv h1 h2 => (hmn j t nv h1 h2).1)
        have HROW2 := Lib.hid hrow
        have HNV2 := Lib.hid (And.intro hnl hns)
        have HMV := Lib.hid (And.intro hml hmn)
        have HBS2 := Lib.hid HW2.out.size
        have HU4 := Lib.hid (fun g (e : (Value.slice Au U.length cu).ownBlock = some g) => own_blk_lt hmr e)
        have HRB := Lib.hid (fun g (e : (Value.slice R P.length q).ownBlock = some g) => own_blk_lt hrow e)
        have HRB0 := Lib.hid (fun g (e : (Value.slice R P.length q).ownBlock = some g) => own_blk_lt HROW.out e)
        clear hnl hrow hns hml hmr hmn hU hb4
        go_wp2_with (first
          | (at_builtin
             refine wpList_append_any w4 rfl (.tmp 23) (.tmp 30) _ rfl w.heap.size 34 i0 _ 2 32 Tryd.underlying48 hia.out.1 hia.out.2.1 hia.out.2.2.1 hia.out.2.2.2 rfl (by omega) (.slice R P.length q) P.length (treesCells P nvs) rfl HROW2.out w4.heap.size Au U.length cu (treesCells U mvs) rfl HRD.out HONE.out (by unfold maxLen; omega) (by omega) HBS2.out ?_
             intro v5 w5 hown5 hg5 hat5)
          | fail)
        have hp := OL.append HNV2.out.1 HNV2.out.2 HMV.out.1 HMV.out.2 (fun y hy => by
          have hge : w2b.heap.size ≤ y := by
            rcases hy.1 with h | h
            · exact h.1
            · have := HS34.out; omega
          exact ⟨.inr (by have := HBS.out; omega), hy.2.1, fun e => by have := (HRB0.out y e).2; omega, hy.2.2.2⟩) hown5 hg5 (by
          rcases hat5 with e | e
          · exact .inl e
          · exact .inr fun g hg => by rw [e] at hg; injection hg; omega)
        have hb5 := HW2.out.trans (below_of_grown hg5 HBS2.out fun g e => (HRB.out g e).1)
        go_roundw
        case measure => simp [intOf]; omega
        case rel => exact ⟨j + 1, v5, rfl, by omega, by go_num, Lib.hid (by rw [HTK.out, HO.out, List.map_append, HPE.out, ← HU.out]; exact hp), Lib.hid hb5⟩
      · have e1 : (x.d.kind == 5) = false := beq_eq_false_iff_ne.2 h1
        obtain ⟨nvx, hnx, hx1, hx2, hx3⟩ := HXA.out
        have ev : nvx = .slice Ak' t.nodes.length ck' := by simp at hnx; exact hnx.symm
        subst ev
        have HXT := Lib.hid (And.intro hx1 (And.intro hx2 hx3))
        have HXS := Lib.hid (show ∀ y, S y → (S y ∨ w.heap.size ≤ y) ∧ y < w2b.heap.size ∧ (Value.slice R P.length q).ownBlock ≠ some y ∧ Soft w2b y from fun y hy => ⟨.inl hy, ((HG.out.below HW2.out).soft y hy).1, fun e => by have := (own_blk_lt HROW.out e).1; have := (HG.out.soft y hy).1; omega, ((HG.out.below HW2.out).soft y hy).2⟩)
        clear hx1 hx2 hx3 hnx
        subst hw2b
        have HO := Lib.hid (show openK 5 5 [x] = [x] by simp [openK, h1])
        go_wp2_with (first
          | (at_builtin
             refine wpList_append1N (w2.alloc (.cells #[.int .u8 x.d.kind, .int .u64 x.d.s0, .int .u64 x.d.s1, .int .u64 x.d.s2, .int .u64 x.d.s3, .string ⟨x.d.text.toArray⟩, .int .i64 x.d.min, .int .i64 x.d.max, .slice none 0 0] 65)) (w2.heap.size + 1) (by simp) rfl (.tmp 39) (.tmp 44) _ rfl w.heap.size 34 i0 _ 2 32 Tryd.underlying48 hia.out.1 hia.out.2.1 hia.out.2.2.1 hia.out.2.2.2 rfl (by omega) (.slice R P.length q) P.length (treesCells P nvs) rfl HROW.out [_, _] rfl rfl (by simp [Value.oneCell']) (by unfold maxLen; omega) (by omega) HBS.out ?_
             intro v4 w4 hown4 hg4 hat4)
          | fail)
        have hp := OL.push HNV.out.1 HNV.out.2 HXT.out.1 HXT.out.2.1 HXT.out.2.2 HXS.out hown4 hg4 (by
          rcases hat4 with e | e
          · exact .inl e
          · exact .inr fun g hg => by rw [e] at hg; injection hg; omega)
        have hrb : ∀ g, (Value.slice R P.length q).ownBlock = some g → w.heap.size ≤ g := fun g e => (own_blk_lt HROW.out e).1
        have hb4 := HW2.out.trans (below_of_grown hg4 HBS.out hrb)
        go_roundw
        case measure => simp [intOf]; omega
        case rel => exact ⟨j + 1, v4, rfl, by omega, by go_num, Lib.hid (by rw [HTK.out, HO.out, List.map_append, HPE.out, List.map_cons, List.map_nil, ← HT.out]; exact hp), Lib.hid hb4⟩
    · obtain rfl : j = L.length := by omega
      rw [List.take_length] at HPE
      go_wp2_with fail
      go_ret
      exact ⟨_, rfl, by rw [HPE.out]; exact HOW.out, HW.out⟩

theorem ol_soft {w : World} {base : Nat} {X : Nat → Prop} {v : Value} {ts : List Tr} (h : OL w base X v ts) : RTrees w (fun b => b < w.heap.size ∧ Soft w b) v ts := by
  have h1 : XL w 0 v ts := OwnList.soft (OL.list ((h.weaken (Y := fun b => 0 ≤ b) fun b _ => Nat.zero_le b).base_ (Nat.zero_le base)))
  exact RTrees.more h1 fun b hb => hb.2
theorem open4_g {L : List T} (hn : ∀ x ∈ L, NT x) : OpenC 4 0 L := open4_step fun x hx h4 =>
  have hk := (hn x hx).kids4 h4
  ⟨open4_step fun y hy h => absurd h (hk y hy).1, openK_id hk⟩
theorem NT.kids5 {u : T} (hn : NT u) (h5 : u.d.kind = 5) : ∀ k ∈ u.kids, k.d.kind ≠ 5 := by
  cases hn with
  | node d ks _ _ h => exact h h5
theorem open5_g {L : List T} (hn : ∀ x ∈ L, NT x) : OpenC 5 5 L := open5_step fun x hx h5 =>
  have hk := (hn x hx).kids5 h5
  ⟨open5_step fun y hy h => absurd h (hk y hy), openK_id fun y hy => ⟨hk y hy, hk y hy⟩⟩
end Go.Proofs.YtclfpjfjebheoaaDoor
/- The contracts of bonsairef04.Leaf and bonsairef05.put. -/
namespace Go.Proofs.YtclfpjfjebheoaaDoor
set_option linter.unusedSimpArgs false
open Go.RowKit
open Classical

set_option maxHeartbeats 4000000 in
theorem rLeaf_g {d : Dt} (hd : d.Ok) (w : World) : Calls Tryd.prog 97 #[.agg #[.int .u8 d.kind, .int .u64 d.s0, .int .u64 d.s1, .int .u64 d.s2, .int .u64 d.s3, .string ⟨d.text.toArray⟩, .int .i64 d.min, .int .i64 d.max, .slice none 0 0]] w fun e w' => ∃ u, e = .returned u ∧ OwnTree w' w.heap.size u ⟨[⟨d, []⟩], 0⟩ ∧ Below w.heap.size w w' := by
  have HD := Lib.hid hd
  clear hd
  have n0 := (Blk.new w 65 #[.int .u8 d.kind, .int .u64 d.s0, .int .u64 d.s1, .int .u64 d.s2, .int .u64 d.s3, .string ⟨d.text.toArray⟩, .int .i64 d.min, .int .i64 d.max, .slice none 0 0]).nine
  have HN := Lib.hid ((Blk.new w 65 #[.int .u8 d.kind, .int .u64 d.s0, .int .u64 d.s1, .int .u64 d.s2, .int .u64 d.s3, .string ⟨d.text.toArray⟩, .int .i64 d.min, .int .i64 d.max, .slice none 0 0]).alloc (.cells #[.slice none 0 0, .int .i64 0] 34))
  obtain ⟨e0, e1, e2, e3, e4, e5, e6, e7, e8⟩ := HN.out.nine
  clear n0
  go_enter Tryd.func97, Tryd.ntmps97
  go_wp2_with fail
  obtain ⟨wa, hwa⟩ : ∃ wa, wa = (w.alloc (.cells #[.int .u8 d.kind, .int .u64 d.s0, .int .u64 d.s1, .int .u64 d.s2, .int .u64 d.s3, .string ⟨d.text.toArray⟩, .int .i64 d.min, .int .i64 d.max, .slice none 0 0] 65)).alloc (.cells #[.slice (some ⟨w.heap.size + 1 + 1, 0, none⟩) 1 1, .int .i64 0] 34) := ⟨_, rfl⟩
  have hs : wa.heap.size = w.heap.size + 1 + 1 := by rw [hwa]; simp
  have hba : Below w.heap.size w wa := by rw [hwa]; exact ((Below.refl _ _).alloc (Nat.le_refl _) _).alloc (by simp) _
  have hR : Blk wa (w.heap.size + 1) 34 #[.slice (some ⟨w.heap.size + 1 + 1, 0, none⟩) 1 1, .int .i64 0] := by rw [hwa]; exact Blk.new1 _ _ _ _
  rw [← hwa]
  clear hwa
  have hlit : OwnNodes (wa.alloc (.cells #[.int .u8 d.kind, .int .u64 d.s0, .int .u64 d.s1, .int .u64 d.s2, .int .u64 d.s3, .string ⟨d.text.toArray⟩, .int .i64 d.min, .int .i64 d.max, .slice none 0 0] 65)) 65 wa.heap.size (fun _ => True) (.slice (some ⟨wa.heap.size, 0, none⟩) 1 1) [⟨d, []⟩] := by
    refine ⟨[.slice none 0 0], rfl, ?_, fun j n kv h1 h2 => ?_⟩
    · have := World.ownsRow_lit (base := wa.heap.size) (e := 65) (size := 9) wa #[.int .u8 d.kind, .int .u64 d.s0, .int .u64 d.s1, .int .u64 d.s2, .int .u64 d.s3, .string ⟨d.text.toArray⟩, .int .i64 d.min, .int .i64 d.max, .slice none 0 0] 1 (Nat.le_refl _) (by simp [maxLen]) rfl
      simpa [nodesCells, nodeCells] using this
    · rcases j with _ | j
      · simp at h1 h2; subst h1; subst h2
        exact ⟨Row.nil_ _ _ _, HD.out⟩
      · simp at h1
  obtain ⟨w6, hw6⟩ : ∃ w6, w6 = wa.alloc (.cells #[.int .u8 d.kind, .int .u64 d.s0, .int .u64 d.s1, .int .u64 d.s2, .int .u64 d.s3, .string ⟨d.text.toArray⟩, .int .i64 d.min, .int .i64 d.max, .slice none 0 0] 65) := ⟨_, rfl⟩
  have hB6 : Blk w6 (w.heap.size + 1) 34 #[.slice (some ⟨w.heap.size + 1 + 1, 0, none⟩) 1 1, .int .i64 0] := by rw [hw6]; exact hR.alloc _
  have hO6 : OwnTree w6 w.heap.size (.agg #[.slice (some ⟨w.heap.size + 1 + 1, 0, none⟩) 1 1, .int .i64 0]) ⟨[⟨d, []⟩], 0⟩ := by
    refine ⟨_, rfl, ?_⟩
    rw [hw6, ← hs]
    exact hlit.base_ (by omega)
  have hb6 : Below w.heap.size w w6 := by rw [hw6]; exact hba.alloc hba.size _
  rw [← hw6]
  refine bodyPost_ret (results_cell1 rfl _ _ (w.heap.size + 1) _ _ _ rfl hB6 Tryd.underlying34 rfl tree_size) rfl ?_
  exact ⟨_, rfl, hO6, hb6⟩
theorem rg5_givenL {S : Nat → Prop} {L : List T} {v : Value} {w : World} (h : RG5 S L v w) : GivenL (L.map flatT) v S w :=
  ⟨h.row, fun b hb => (h.soft b hb).1, h.tab, fun t ht => by
    obtain ⟨x, hx, rfl⟩ := List.mem_map.1 ht
    have := size_mem5 hx; have := h.sum; rw [flatT_len]; omega, by have := sizes_len L; have := h.sum; simp; omega⟩
theorem rg5_kids {S : Nat → Prop} {L : List T} {v : Value} {w : World} (h : RG5 S L v w) : ∀ t ∈ L.map flatT, ∀ n ∈ t.nodes, n.kids.length ≤ 1000000 := fun t ht n hn => by
  obtain ⟨x, hx, rfl⟩ := List.mem_map.1 ht
  have := flat_kids_mem x n hn; have := size_mem5 hx; have := h.sum; omega
theorem isOf_flat {d : Dt} {L : List T} {x : Tr} {is : Bool} (h : IsOf d (L.map flatT) x is) (hf : ∀ y ∈ L, FitT y) : is = fits d L.length ∧ x = if fits d L.length = true then flatT (.node d L) else zeroT := by
  have hr := rights_flat L hf
  by_cases hh : fits d L.length = true
  · obtain ⟨h1, h2⟩ := h.yes (by simpa using hh) hr
    rw [if_pos hh, h1, hh, h2, flats_treeOf]
    exact ⟨rfl, rfl⟩
  · obtain ⟨h1, h2⟩ := h.no (fun hn => hh (by simpa using hn.1))
    rw [if_neg hh, h1, h2]
    exact ⟨(Bool.eq_false_iff.2 hh).symm, rfl⟩
theorem flat_roots (L : List T) (d : Dt) (h : sizes L ≤ 100000) : -9223372036854775808 ≤ (flatT (.node d L)).root ∧ (flatT (.node d L)).root ≤ 9223372036854775807 := flat_root _ (by simp only [T.size]; omega)
/-- What put leaves. -/
def PutPost (d : Dt) (L : List T) (w : World) (e : Ending) (w' : World) : Prop :=
  ∃ u b x, e = .returned (.tuple #[u, .bool b]) ∧ b = decide (d.kind = 4 ∨ d.kind = 5 ∨ fits d L.length = true) ∧ (x = if b = true then flatT (tog d L) else zeroT) ∧ XTree w' (fun y => w.heap.size ≤ y) u x ∧ Below w.heap.size w w'
/-- The end: a tree is stored into the result's box. -/
theorem put_end {w w2 : World} {x : Tr} {A : Option Addr} {c : Nat} {cs : Array Value} (hW : Below w.heap.size w w2) (hX : XTree w2 (fun b => w.heap.size + 2 ≤ b) (.agg #[.slice A x.nodes.length c, .int .i64 x.root]) x) (hB : Blk w2 (w.heap.size + 1) 34 #[.slice none 0 0, .int .i64 0]) :
    Blk ((w2.setCell ⟨w.heap.size + 1, 0, none⟩ (.slice A x.nodes.length c)).setCell ⟨w.heap.size + 1, 1, none⟩ (.int .i64 x.root)) (w.heap.size + 1) 34 #[.slice A x.nodes.length c, .int .i64 x.root] ∧
    XTree ((w2.setCell ⟨w.heap.size + 1, 0, none⟩ (.slice A x.nodes.length c)).setCell ⟨w.heap.size + 1, 1, none⟩ (.int .i64 x.root)) (fun b => w.heap.size ≤ b) (.agg #[.slice A x.nodes.length c, .int .i64 x.root]) x ∧
    Below w.heap.size w ((w2.setCell ⟨w.heap.size + 1, 0, none⟩ (.slice A x.nodes.length c)).setCell ⟨w.heap.size + 1, 1, none⟩ (.int .i64 x.root)) :=
  ⟨hB.set2 _ _, (end_tree hW hX (by omega) (by omega)).1, (end_tree hW hX (by omega) (by omega)).2⟩

set_option maxRecDepth 20000 in
set_option maxHeartbeats 8000000 in
theorem put_other {d : Dt} (hd : d.Ok) (h4 : d.kind ≠ 4) (h5 : d.kind ≠ 5) {S : Nat → Prop} {L : List T} {v : Value} {w : World} (h : RG5 S L v w) : Calls Tryd.prog 83 #[.agg #[.int .u8 d.kind, .int .u64 d.s0, .int .u64 d.s1, .int .u64 d.s2, .int .u64 d.s3, .string ⟨d.text.toArray⟩, .int .i64 d.min, .int .i64 d.max, .slice none 0 0], v] w (PutPost d L w) := by
  obtain ⟨A, c, rfl, -⟩ := h.row.at_
  rw [List.length_map] at h ⊢
  obtain ⟨ws, hws⟩ : ∃ ws, ws = (w.alloc (.cells #[.int .u8 d.kind, .int .u64 d.s0, .int .u64 d.s1, .int .u64 d.s2, .int .u64 d.s3, .string ⟨d.text.toArray⟩, .int .i64 d.min, .int .i64 d.max, .slice none 0 0] 65)).alloc (.cells #[.slice none 0 0, .int .i64 0] 34) := ⟨_, rfl⟩
  have hbs : Below w.heap.size w ws := by rw [hws]; exact ((Below.refl _ _).alloc (Nat.le_refl _) _).alloc (by simp) _
  have hss : ws.heap.size = w.heap.size + 2 := by rw [hws]; simp
  have HBN := Lib.hid (show Blk ws w.heap.size 65 #[.int .u8 d.kind, .int .u64 d.s0, .int .u64 d.s1, .int .u64 d.s2, .int .u64 d.s3, .string ⟨d.text.toArray⟩, .int .i64 d.min, .int .i64 d.max, .slice none 0 0] by rw [hws]; exact (Blk.new _ _ _).alloc _)
  have HBR := Lib.hid (show Blk ws (w.heap.size + 1) 34 #[.slice none 0 0, .int .i64 0] by rw [hws]; exact Blk.new1 _ _ _ _)
  have HG := Lib.hid (h.below hbs)
  have HLL := Lib.hid (show L.length ≤ 100000 from Nat.le_trans (sizes_len L) h.sum)
  have HBS := Lib.hid hbs
  have HSS := Lib.hid hss
  obtain ⟨e0, e1, e2, e3, e4, e5, e6, e7, e8⟩ := HBN.out.nine
  have HO := Lib.hid (rOf_g (N := ⟨d, []⟩) (kv0 := .slice none 0 0) hd (rg5_givenL HG.out) (rg5_kids HG.out) (by rw [sum_flat]; have := HG.out.sum; omega))
  have q4 : (d.kind != 4) = true := bne_iff_ne.2 h4
  have q5 : (d.kind != 5) = true := bne_iff_ne.2 h5
  have HK := Lib.hid (And.intro h4 h5)
  clear h hbs h4 h5 hd
  go_enter Tryd.func83, Tryd.ntmps83
  rw [hws] at e0 e1 e2 e3 e4 e5 e6 e7 e8
  go_wp2_with fail
  rw [← hws]
  clear e0 e1 e2 e3 e4 e5 e6 e7 e8
  refine Calls.mono HO.out ?_
  rintro e w3 ⟨u3, x3, is, rfl, hu3, hi3, hbw3⟩
  obtain ⟨hi1, hi2⟩ := isOf_flat hi3 HG.out.fit
  have HI := Lib.hid (And.intro hi1 hi2)
  have hx3 : XTree w3 (fun b => w.heap.size + 2 ≤ b) u3 x3 := by
    have hr : -9223372036854775808 ≤ x3.root ∧ x3.root ≤ 9223372036854775807 := by
      rw [hi2]
      split
      · exact flat_roots L d HG.out.sum
      · simp [zeroT]
    exact (XTree.of_own hu3 hr.1 hr.2).weaken fun b hb _ => by omega
  clear hu3 hi3 hi1 hi2
  obtain ⟨A3, c3, rfl⟩ := hx3.agg
  have hR3 := HBR.out.below hbw3 HBR.out.lt
  have g0 : w3.cell? ⟨w.heap.size + 1, 0, none⟩ = some (.slice none 0 0) := hR3.cell 0
  have g1 : w3.cell? ⟨w.heap.size + 1, 1, none⟩ = some (.int .i64 0) := hR3.cell 1
  have f0 := hR3.frozen 0
  have f1 := hR3.frozen 1
  have HEND := Lib.hid (put_end (cs := #[]) (HBS.out.trans (hbw3.mono HBS.out.size)) hx3 hR3)
  clear hx3 hR3 hbw3
  go_wp2_with fail
  refine bodyPost_ret (results_cell2 rfl _ _ (w.heap.size + 1) _ _ _ rfl HEND.out.1 Tryd.underlying34 rfl tree_size) rfl ?_
  exact ⟨_, _, _, rfl, by rw [HI.out.1, Bool.eq_iff_iff, decide_eq_true_iff]; exact ⟨fun h => .inr (.inr h), fun h => by rcases h with h | h | h; exact absurd h HK.out.1; exact absurd h HK.out.2; exact h⟩, by rw [HI.out.2, HI.out.1]; unfold tog; rw [if_neg HK.out.1, if_neg HK.out.2], HEND.out.2.1, HEND.out.2.2⟩

set_option maxRecDepth 20000 in
set_option maxHeartbeats 8000000 in
theorem put_seq {S : Nat → Prop} {L : List T} {v : Value} {w : World} (h : RG5 S L v w) (hn : ∀ x ∈ L, NT x) : Calls Tryd.prog 83 #[.agg #[.int .u8 4, .int .u64 0, .int .u64 0, .int .u64 0, .int .u64 0, .string ⟨#[]⟩, .int .i64 0, .int .i64 0, .slice none 0 0], v] w (PutPost seqD L w) := by
  obtain ⟨A, c, rfl, -⟩ := h.row.at_
  rw [List.length_map] at h ⊢
  obtain ⟨ws, hws⟩ : ∃ ws, ws = (w.alloc (.cells #[.int .u8 4, .int .u64 0, .int .u64 0, .int .u64 0, .int .u64 0, .string ⟨#[]⟩, .int .i64 0, .int .i64 0, .slice none 0 0] 65)).alloc (.cells #[.slice none 0 0, .int .i64 0] 34) := ⟨_, rfl⟩
  have hbs : Below w.heap.size w ws := by rw [hws]; exact ((Below.refl _ _).alloc (Nat.le_refl _) _).alloc (by simp) _
  have hss : ws.heap.size = w.heap.size + 2 := by rw [hws]; simp
  have HBN := Lib.hid (show Blk ws w.heap.size 65 #[.int .u8 4, .int .u64 0, .int .u64 0, .int .u64 0, .int .u64 0, .string ⟨#[]⟩, .int .i64 0, .int .i64 0, .slice none 0 0] by rw [hws]; exact (Blk.new _ _ _).alloc _)
  have HBR := Lib.hid (show Blk ws (w.heap.size + 1) 34 #[.slice none 0 0, .int .i64 0] by rw [hws]; exact Blk.new1 _ _ _ _)
  have HG := Lib.hid (h.below hbs)
  have HLL := Lib.hid (show L.length ≤ 100000 from Nat.le_trans (sizes_len L) h.sum)
  have HBS := Lib.hid hbs
  have HSS := Lib.hid hss
  obtain ⟨e0, e1, e2, e3, e4, e5, e6, e7, e8⟩ := HBN.out.nine
  have hF := fun (wx : World) => rfits_any ⟨seqD, []⟩ ⟨by decide, by decide, by decide, by decide, by decide⟩ (.slice none 0 0) 2 wx
  rw [show fits (⟨seqD, []⟩ : Nd).d 2 = true from (by decide : fits seqD 2 = true)] at hF
  simp only [nodeCells, seqD] at hF
  have HF := Lib.hid hF
  have HOP := Lib.hid (open4_g hn)
  have HTG := Lib.hid (show tog seqD L = collS (openK 4 0 L) by unfold tog; rw [if_pos (show seqD.kind = 4 from rfl)])
  have hos := sizes_open 4 0 L
  have HSO := Lib.hid (show sizes (openK 4 0 L) ≤ 100000 by have := HG.out.sum; omega)
  have HFO := Lib.hid (show ∀ x ∈ openK 4 0 L, FitT x from open_fit HG.out.fit)
  clear h hbs hn hF hos
  go_enter Tryd.func83, Tryd.ntmps83
  rw [hws] at e0 e1 e2 e3 e4 e5 e6 e7 e8
  go_wp2_with fail
  rw [← hws]
  clear e0 e1 e2 e3 e4 e5 e6 e7 e8 hws
  refine Calls.mono (HF.out _) ?_
  rintro e w1 ⟨rfl, hb1⟩
  have HB1 := Lib.hid hb1
  obtain ⟨e0, e1, e2, e3, e4, e5, e6, e7, e8⟩ := (HBN.out.below hb1 HBN.out.lt).nine
  have HO1 := Lib.hid (HOP.out S _ _ (HG.out.below hb1))
  clear hb1
  go_wp2_with fail
  clear e0 e1 e2 e3 e4 e5 e6 e7 e8
  refine Calls.mono HO1.out ?_
  rintro e w2 ⟨u2, rfl, hu2, hb2⟩
  have HB2 := Lib.hid (HB1.out.trans (hb2.mono HB1.out.size))
  obtain ⟨e0, e1, e2, e3, e4, e5, e6, e7, e8⟩ := (HBN.out.below HB2.out HBN.out.lt).nine
  obtain ⟨O, hO⟩ : ∃ O, O = openK 4 0 L := ⟨_, rfl⟩
  rw [← hO] at hu2 HTG HSO HFO
  obtain ⟨R, q, rfl⟩ := hu2.slice
  have HRD := Lib.hid (show RG5 (fun b => b < w2.heap.size ∧ Soft w2 b) O _ w2 from ⟨(ol_soft hu2), fun b hb => hb, HFO.out, HG.out.tab.below HB2.out, HSO.out⟩)
  have HS2 := Lib.hid (show ws.heap.size ≤ w2.heap.size from HB2.out.size)
  rw [List.length_map] at HRD ⊢
  clear hu2 hb2 hO
  rcases O with _ | ⟨y, _ | ⟨y2, O⟩⟩
  · have HLF := Lib.hid (rLeaf_g (d := (default : Dt)) ⟨by decide, by decide, by decide, by decide, by decide⟩ w2)
    simp only [show (default : Dt) = ⟨0, 0, 0, 0, 0, [], 0, 0⟩ from rfl] at HLF
    simp only [List.length_nil]
    go_wp2_with fail
    clear e0 e1 e2 e3 e4 e5 e6 e7 e8
    refine Calls.mono HLF.out ?_
    rintro e w3 ⟨u3, rfl, hu3, hb3⟩
    have hx3 : XTree w3 (fun b => w.heap.size + 2 ≤ b) u3 ⟨[⟨(default : Dt), []⟩], 0⟩ := (XTree.of_own hu3 (by simp) (by simp)).weaken fun b hb _ => by have := HS2.out; omega
    have hbw3 := HB2.out.trans (hb3.mono HB2.out.size)
    clear hu3 hb3
    obtain ⟨A3, c3, rfl⟩ := hx3.agg
    have hR3 := HBR.out.below hbw3 HBR.out.lt
    have g0 : w3.cell? ⟨w.heap.size + 1, 0, none⟩ = some (.slice none 0 0) := hR3.cell 0
    have g1 : w3.cell? ⟨w.heap.size + 1, 1, none⟩ = some (.int .i64 0) := hR3.cell 1
    have f0 := hR3.frozen 0
    have f1 := hR3.frozen 1
    have HEND := Lib.hid (put_end (cs := #[]) (HBS.out.trans (hbw3.mono HBS.out.size)) hx3 hR3)
    clear hx3 hR3 hbw3
    go_wp2_with fail
    refine bodyPost_ret (results_cell2 rfl _ _ (w.heap.size + 1) _ _ _ rfl HEND.out.1 Tryd.underlying34 rfl tree_size) rfl ?_
    exact ⟨_, _, _, rfl, by simp [seqD], by simp [HTG.out]; rfl, HEND.out.2.1, HEND.out.2.2⟩
  · have hcell := HRD.out.at_ (j := 0) (x := y) rfl
    obtain ⟨b, off, Ak, ck, rfl, -, -, hyt, d0, d1⟩ := hcell
    simp only [Nat.zero_mul, Nat.add_zero] at d0 d1
    obtain ⟨ty, hty⟩ : ∃ ty, ty = flatT y := ⟨_, rfl⟩
    rw [← hty] at hyt d0 d1
    have HTY := Lib.hid hty
    have hys : y.size ≤ 100000 := by have := HSO.out; simp [sizes] at this; omega
    have HCL := Lib.hid (show Calls Tryd.prog 98 #[.agg #[.slice Ak ty.nodes.length ck, .int .i64 ty.root]] w2 fun e w' => ∃ u, e = .returned u ∧ OwnTree w' w2.heap.size u ty ∧ Below w2.heap.size w2 w' by
      have hg : GivenR ty (.agg #[.slice Ak ty.nodes.length ck, .int .i64 ty.root]) (fun b => b < w2.heap.size ∧ Soft w2 b) w2 := by rw [hty] at hyt ⊢; exact RG5.givenR hyt (fun b hb => hb.1) HRD.out.tab hys
      have hc : cleanOf ty = ty := by
        have hf := HFO.out y (by simp)
        rw [hty]; unfold cleanOf; rw [if_pos (right_flat hf), treeOf_flat]
      have := rClean_g hg
      rw [hc] at this
      exact this)
    simp only [List.length_cons, List.length_nil]
    clear hyt hty
    go_wp2_with fail
    clear e0 e1 e2 e3 e4 e5 e6 e7 e8 d0 d1
    refine Calls.mono HCL.out ?_
    rintro e w3 ⟨u3, rfl, hu3, hb3⟩
    have hx3 : XTree w3 (fun b => w.heap.size + 2 ≤ b) u3 ty := by
      have hr := flat_root y (by omega)
      rw [← HTY.out] at hr
      exact (XTree.of_own hu3 hr.1 hr.2).weaken fun b hb _ => by have := HS2.out; omega
    have hbw3 := HB2.out.trans (hb3.mono HB2.out.size)
    clear hu3 hb3
    obtain ⟨A3, c3, rfl⟩ := hx3.agg
    have hR3 := HBR.out.below hbw3 HBR.out.lt
    have g0 : w3.cell? ⟨w.heap.size + 1, 0, none⟩ = some (.slice none 0 0) := hR3.cell 0
    have g1 : w3.cell? ⟨w.heap.size + 1, 1, none⟩ = some (.int .i64 0) := hR3.cell 1
    have f0 := hR3.frozen 0
    have f1 := hR3.frozen 1
    have HEND := Lib.hid (put_end (cs := #[]) (HBS.out.trans (hbw3.mono HBS.out.size)) hx3 hR3)
    clear hx3 hR3 hbw3
    go_wp2_with fail
    refine bodyPost_ret (results_cell2 rfl _ _ (w.heap.size + 1) _ _ _ rfl HEND.out.1 Tryd.underlying34 rfl tree_size) rfl ?_
    exact ⟨_, _, _, rfl, by simp [seqD], by rw [HTY.out]; simp [HTG.out]; rfl, HEND.out.2.1, HEND.out.2.2⟩
  · obtain ⟨O2, hO2⟩ : ∃ O2, O2 = y :: y2 :: O := ⟨_, rfl⟩
    have h2 : 2 ≤ O2.length := by rw [hO2]; simp
    have HO2 := Lib.hid hO2
    rw [← hO2] at HTG HSO HFO HRD ⊢
    have hOl : O2.length ≤ 100000 := Nat.le_trans (sizes_len O2) HSO.out
    have hfo : fits seqD O2.length = true := fits_seq _ h2
    have hOf := rOf_g (N := ⟨seqD, []⟩) (kv0 := .slice none 0 0) ⟨by decide, by decide, by decide, by decide, by decide⟩ (rg5_givenL HRD.out) (rg5_kids HRD.out) (by rw [sum_flat]; have := HSO.out; omega)
    simp only [nodeCells, seqD] at hOf
    have HOF := Lib.hid hOf
    have HFO2 := Lib.hid hfo
    have hn0 : ¬ ((O2.length : Int) = 0) := by omega
    have hn1 : ¬ ((O2.length : Int) = 1) := by omega
    have hn2 : ((O2.length : Int) == 0) = false := by simpa using hn0
    have hn3 : ((O2.length : Int) == 1) = false := by simpa using hn1
    clear hO2 hOf hfo
    go_wp2_with fail
    clear e0 e1 e2 e3 e4 e5 e6 e7 e8
    refine Calls.mono HOF.out ?_
    rintro e w3 ⟨u3, x3, is, rfl, hu3, hi3, hb3⟩
    obtain ⟨hi1, hi2⟩ := isOf_flat (d := seqD) hi3 HFO.out
    rw [HFO2.out] at hi1
    rw [if_pos HFO2.out] at hi2
    subst hi1
    have HX3 := Lib.hid hi2
    have hx3 : XTree w3 (fun b => w.heap.size + 2 ≤ b) u3 x3 := by
      have hr := flat_roots O2 seqD HSO.out
      rw [← hi2] at hr
      exact (XTree.of_own hu3 hr.1 hr.2).weaken fun b hb _ => by have := HS2.out; omega
    have hbw3 := HB2.out.trans (hb3.mono HB2.out.size)
    clear hu3 hb3 hi3 hi2 hn0 hn1 hn2 hn3
    obtain ⟨A3, c3, rfl⟩ := hx3.agg
    have hR3 := HBR.out.below hbw3 HBR.out.lt
    have g0 : w3.cell? ⟨w.heap.size + 1, 0, none⟩ = some (.slice none 0 0) := hR3.cell 0
    have g1 : w3.cell? ⟨w.heap.size + 1, 1, none⟩ = some (.int .i64 0) := hR3.cell 1
    have f0 := hR3.frozen 0
    have f1 := hR3.frozen 1
    have HEND := Lib.hid (put_end (cs := #[]) (HBS.out.trans (hbw3.mono HBS.out.size)) hx3 hR3)
    clear hx3 hR3 hbw3
    go_wp2_with fail
    refine bodyPost_ret (results_cell2 rfl _ _ (w.heap.size + 1) _ _ _ rfl HEND.out.1 Tryd.underlying34 rfl tree_size) rfl ?_
    exact ⟨_, _, _, rfl, by simp [seqD], by rw [HX3.out]; simp only [if_true]; rw [HTG.out]; exact congrArg flatT (coll_many _ _ h2).symm, HEND.out.2.1, HEND.out.2.2⟩

set_option maxRecDepth 20000 in
set_option maxHeartbeats 8000000 in
theorem put_choice {S : Nat → Prop} {L : List T} {v : Value} {w : World} (h : RG5 S L v w) (hn : ∀ x ∈ L, NT x) : Calls Tryd.prog 83 #[.agg #[.int .u8 5, .int .u64 0, .int .u64 0, .int .u64 0, .int .u64 0, .string ⟨#[]⟩, .int .i64 0, .int .i64 0, .slice none 0 0], v] w (PutPost choiceD L w) := by
  obtain ⟨A, c, rfl, -⟩ := h.row.at_
  rw [List.length_map] at h ⊢
  obtain ⟨ws, hws⟩ : ∃ ws, ws = (w.alloc (.cells #[.int .u8 5, .int .u64 0, .int .u64 0, .int .u64 0, .int .u64 0, .string ⟨#[]⟩, .int .i64 0, .int .i64 0, .slice none 0 0] 65)).alloc (.cells #[.slice none 0 0, .int .i64 0] 34) := ⟨_, rfl⟩
  have hbs : Below w.heap.size w ws := by rw [hws]; exact ((Below.refl _ _).alloc (Nat.le_refl _) _).alloc (by simp) _
  have hss : ws.heap.size = w.heap.size + 2 := by rw [hws]; simp
  have HBN := Lib.hid (show Blk ws w.heap.size 65 #[.int .u8 5, .int .u64 0, .int .u64 0, .int .u64 0, .int .u64 0, .string ⟨#[]⟩, .int .i64 0, .int .i64 0, .slice none 0 0] by rw [hws]; exact (Blk.new _ _ _).alloc _)
  have HBR := Lib.hid (show Blk ws (w.heap.size + 1) 34 #[.slice none 0 0, .int .i64 0] by rw [hws]; exact Blk.new1 _ _ _ _)
  have HG := Lib.hid (h.below hbs)
  have HLL := Lib.hid (show L.length ≤ 100000 from Nat.le_trans (sizes_len L) h.sum)
  have HBS := Lib.hid hbs
  have HSS := Lib.hid hss
  obtain ⟨e0, e1, e2, e3, e4, e5, e6, e7, e8⟩ := HBN.out.nine
  have hF := fun (wx : World) => rfits_any ⟨choiceD, []⟩ ⟨by decide, by decide, by decide, by decide, by decide⟩ (.slice none 0 0) 2 wx
  rw [show fits (⟨choiceD, []⟩ : Nd).d 2 = true from (by decide : fits choiceD 2 = true)] at hF
  simp only [nodeCells, choiceD] at hF
  have HF := Lib.hid hF
  have HOP := Lib.hid (open5_g hn)
  have HTG := Lib.hid (show tog choiceD L = collC (openK 5 5 L) by unfold tog; rw [if_neg (by simp [choiceD]), if_pos (show choiceD.kind = 5 from rfl)])
  have hos := sizes_open 5 5 L
  have HSO := Lib.hid (show sizes (openK 5 5 L) ≤ 100000 by have := HG.out.sum; omega)
  have HFO := Lib.hid (show ∀ x ∈ openK 5 5 L, FitT x from open_fit HG.out.fit)
  clear h hbs hn hF hos
  go_enter Tryd.func83, Tryd.ntmps83
  rw [hws] at e0 e1 e2 e3 e4 e5 e6 e7 e8
  go_wp2_with fail
  rw [← hws]
  clear e0 e1 e2 e3 e4 e5 e6 e7 e8 hws
  refine Calls.mono (HF.out _) ?_
  rintro e w1 ⟨rfl, hb1⟩
  have HB1 := Lib.hid hb1
  obtain ⟨e0, e1, e2, e3, e4, e5, e6, e7, e8⟩ := (HBN.out.below hb1 HBN.out.lt).nine
  have HO1 := Lib.hid (HOP.out S _ _ (HG.out.below hb1))
  clear hb1
  go_wp2_with fail
  clear e0 e1 e2 e3 e4 e5 e6 e7 e8
  refine Calls.mono HO1.out ?_
  rintro e w2 ⟨u2, rfl, hu2, hb2⟩
  have HB2 := Lib.hid (HB1.out.trans (hb2.mono HB1.out.size))
  obtain ⟨e0, e1, e2, e3, e4, e5, e6, e7, e8⟩ := (HBN.out.below HB2.out HBN.out.lt).nine
  obtain ⟨O, hO⟩ : ∃ O, O = openK 5 5 L := ⟨_, rfl⟩
  rw [← hO] at hu2 HTG HSO HFO
  obtain ⟨R, q, rfl⟩ := hu2.slice
  have HRD := Lib.hid (show RG5 (fun b => b < w2.heap.size ∧ Soft w2 b) O _ w2 from ⟨(ol_soft hu2), fun b hb => hb, HFO.out, HG.out.tab.below HB2.out, HSO.out⟩)
  have HS2 := Lib.hid (show ws.heap.size ≤ w2.heap.size from HB2.out.size)
  rw [List.length_map] at HRD ⊢
  clear hu2 hb2 hO
  rcases O with _ | ⟨y, _ | ⟨y2, O⟩⟩
  · have HLF := Lib.hid (rLeaf_g (d := setD0) ⟨by decide, by decide, by decide, by decide, by decide⟩ w2)
    simp only [setD0] at HLF
    simp only [List.length_nil]
    go_wp2_with fail
    clear e0 e1 e2 e3 e4 e5 e6 e7 e8
    refine Calls.mono HLF.out ?_
    rintro e w3 ⟨u3, rfl, hu3, hb3⟩
    have hx3 : XTree w3 (fun b => w.heap.size + 2 ≤ b) u3 ⟨[⟨setD0, []⟩], 0⟩ := (XTree.of_own hu3 (by simp) (by simp)).weaken fun b hb _ => by have := HS2.out; omega
    have hbw3 := HB2.out.trans (hb3.mono HB2.out.size)
    clear hu3 hb3
    obtain ⟨A3, c3, rfl⟩ := hx3.agg
    have hR3 := HBR.out.below hbw3 HBR.out.lt
    have g0 : w3.cell? ⟨w.heap.size + 1, 0, none⟩ = some (.slice none 0 0) := hR3.cell 0
    have g1 : w3.cell? ⟨w.heap.size + 1, 1, none⟩ = some (.int .i64 0) := hR3.cell 1
    have f0 := hR3.frozen 0
    have f1 := hR3.frozen 1
    have HEND := Lib.hid (put_end (cs := #[]) (HBS.out.trans (hbw3.mono HBS.out.size)) hx3 hR3)
    clear hx3 hR3 hbw3
    go_wp2_with fail
    refine bodyPost_ret (results_cell2 rfl _ _ (w.heap.size + 1) _ _ _ rfl HEND.out.1 Tryd.underlying34 rfl tree_size) rfl ?_
    exact ⟨_, _, _, rfl, by simp [choiceD], by simp [HTG.out]; rfl, HEND.out.2.1, HEND.out.2.2⟩
  · have hcell := HRD.out.at_ (j := 0) (x := y) rfl
    obtain ⟨b, off, Ak, ck, rfl, -, -, hyt, d0, d1⟩ := hcell
    simp only [Nat.zero_mul, Nat.add_zero] at d0 d1
    obtain ⟨ty, hty⟩ : ∃ ty, ty = flatT y := ⟨_, rfl⟩
    rw [← hty] at hyt d0 d1
    have HTY := Lib.hid hty
    have hys : y.size ≤ 100000 := by have := HSO.out; simp [sizes] at this; omega
    have HCL := Lib.hid (show Calls Tryd.prog 98 #[.agg #[.slice Ak ty.nodes.length ck, .int .i64 ty.root]] w2 fun e w' => ∃ u, e = .returned u ∧ OwnTree w' w2.heap.size u ty ∧ Below w2.heap.size w2 w' by
      have hg : GivenR ty (.agg #[.slice Ak ty.nodes.length ck, .int .i64 ty.root]) (fun b => b < w2.heap.size ∧ Soft w2 b) w2 := by rw [hty] at hyt ⊢; exact RG5.givenR hyt (fun b hb => hb.1) HRD.out.tab hys
      have hc : cleanOf ty = ty := by
        have hf := HFO.out y (by simp)
        rw [hty]; unfold cleanOf; rw [if_pos (right_flat hf), treeOf_flat]
      have := rClean_g hg
      rw [hc] at this
      exact this)
    simp only [List.length_cons, List.length_nil]
    clear hyt hty
    go_wp2_with fail
    clear e0 e1 e2 e3 e4 e5 e6 e7 e8 d0 d1
    refine Calls.mono HCL.out ?_
    rintro e w3 ⟨u3, rfl, hu3, hb3⟩
    have hx3 : XTree w3 (fun b => w.heap.size + 2 ≤ b) u3 ty := by
      have hr := flat_root y (by omega)
      rw [← HTY.out] at hr
      exact (XTree.of_own hu3 hr.1 hr.2).weaken fun b hb _ => by have := HS2.out; omega
    have hbw3 := HB2.out.trans (hb3.mono HB2.out.size)
    clear hu3 hb3
    obtain ⟨A3, c3, rfl⟩ := hx3.agg
    have hR3 := HBR.out.below hbw3 HBR.out.lt
    have g0 : w3.cell? ⟨w.heap.size + 1, 0, none⟩ = some (.slice none 0 0) := hR3.cell 0
    have g1 : w3.cell? ⟨w.heap.size + 1, 1, none⟩ = some (.int .i64 0) := hR3.cell 1
    have f0 := hR3.frozen 0
    have f1 := hR3.frozen 1
    have HEND := Lib.hid (put_end (cs := #[]) (HBS.out.trans (hbw3.mono HBS.out.size)) hx3 hR3)
    clear hx3 hR3 hbw3
    go_wp2_with fail
    refine bodyPost_ret (results_cell2 rfl _ _ (w.heap.size + 1) _ _ _ rfl HEND.out.1 Tryd.underlying34 rfl tree_size) rfl ?_
    exact ⟨_, _, _, rfl, by simp [choiceD], by rw [HTY.out]; simp [HTG.out]; rfl, HEND.out.2.1, HEND.out.2.2⟩
  · obtain ⟨O2, hO2⟩ : ∃ O2, O2 = y :: y2 :: O := ⟨_, rfl⟩
    have h2 : 2 ≤ O2.length := by rw [hO2]; simp
    have HO2 := Lib.hid hO2
    rw [← hO2] at HTG HSO HFO HRD ⊢
    have hOl : O2.length ≤ 100000 := Nat.le_trans (sizes_len O2) HSO.out
    have hfo : fits choiceD O2.length = true := fits_choice _ h2
    have hOf := rOf_g (N := ⟨choiceD, []⟩) (kv0 := .slice none 0 0) ⟨by decide, by decide, by decide, by decide, by decide⟩ (rg5_givenL HRD.out) (rg5_kids HRD.out) (by rw [sum_flat]; have := HSO.out; omega)
    simp only [nodeCells, choiceD] at hOf
    have HOF := Lib.hid hOf
    have HFO2 := Lib.hid hfo
    have hn0 : ¬ ((O2.length : Int) = 0) := by omega
    have hn1 : ¬ ((O2.length : Int) = 1) := by omega
    have hn2 : ((O2.length : Int) == 0) = false := by simpa using hn0
    have hn3 : ((O2.length : Int) == 1) = false := by simpa using hn1
    clear hO2 hOf hfo
    go_wp2_with fail
    clear e0 e1 e2 e3 e4 e5 e6 e7 e8
    refine Calls.mono HOF.out ?_
    rintro e w3 ⟨u3, x3, is, rfl, hu3, hi3, hb3⟩
    obtain ⟨hi1, hi2⟩ := isOf_flat (d := choiceD) hi3 HFO.out
    rw [HFO2.out] at hi1
    rw [if_pos HFO2.out] at hi2
    subst hi1
    have HX3 := Lib.hid hi2
    have hx3 : XTree w3 (fun b => w.heap.size + 2 ≤ b) u3 x3 := by
      have hr := flat_roots O2 choiceD HSO.out
      rw [← hi2] at hr
      exact (XTree.of_own hu3 hr.1 hr.2).weaken fun b hb _ => by have := HS2.out; omega
    have hbw3 := HB2.out.trans (hb3.mono HB2.out.size)
    clear hu3 hb3 hi3 hi2 hn0 hn1 hn2 hn3
    obtain ⟨A3, c3, rfl⟩ := hx3.agg
    have hR3 := HBR.out.below hbw3 HBR.out.lt
    have g0 : w3.cell? ⟨w.heap.size + 1, 0, none⟩ = some (.slice none 0 0) := hR3.cell 0
    have g1 : w3.cell? ⟨w.heap.size + 1, 1, none⟩ = some (.int .i64 0) := hR3.cell 1
    have f0 := hR3.frozen 0
    have f1 := hR3.frozen 1
    have HEND := Lib.hid (put_end (cs := #[]) (HBS.out.trans (hbw3.mono HBS.out.size)) hx3 hR3)
    clear hx3 hR3 hbw3
    go_wp2_with fail
    refine bodyPost_ret (results_cell2 rfl _ _ (w.heap.size + 1) _ _ _ rfl HEND.out.1 Tryd.underlying34 rfl tree_size) rfl ?_
    exact ⟨_, _, _, rfl, by simp [choiceD], by rw [HX3.out]; simp only [if_true]; rw [HTG.out]; exact congrArg flatT (coll_many _ _ h2).symm, HEND.out.2.1, HEND.out.2.2⟩

theorem rput_g {d : Dt} (hd : d.Ok) (h4 : d.kind = 4 → d = seqD) (h5 : d.kind = 5 → d = choiceD) {S : Nat → Prop} {L : List T} {v : Value} {w : World} (h : RG5 S L v w) (hn : ∀ x ∈ L, NT x) : Calls Tryd.prog 83 #[.agg #[.int .u8 d.kind, .int .u64 d.s0, .int .u64 d.s1, .int .u64 d.s2, .int .u64 d.s3, .string ⟨d.text.toArray⟩, .int .i64 d.min, .int .i64 d.max, .slice none 0 0], v] w (PutPost d L w) := by
  by_cases k4 : d.kind = 4
  · rw [h4 k4]; exact put_seq h hn
  · by_cases k5 : d.kind = 5
    · rw [h5 k5]; exact put_choice h hn
    · exact put_other hd k4 k5 h
end Go.Proofs.YtclfpjfjebheoaaDoor

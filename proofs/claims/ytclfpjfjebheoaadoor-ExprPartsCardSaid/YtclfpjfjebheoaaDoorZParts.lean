/- ExprParts: for every input the law answers true and the input reads as it did (the tied card: the listed package variables lie as their text lays them). No other condition. -/
import Derived.Test.YtclfpjfjebheoaaDoorP4
import Derived.Test.YtclfpjfjebheoaaDoorCards
import Derived.Test.YtclfpjfjebheoaaDoorTie
import Derived.LaidHandle
import Derived.LaidSub
/- Heads, tails, and what is made, in plain Lean; and the calls that laws make of them. -/
namespace Go.Proofs.YtclfpjfjebheoaaDoor
set_option linter.unusedSimpArgs false
open Go.RowKit
open Classical

theorem openK_id {k z : Int} {L : List T} (h : ∀ x ∈ L, x.d.kind ≠ k ∧ x.d.kind ≠ z) : openK k z L = L := by
  induction L with
  | nil => rfl
  | cons a L ih =>
    have ha := h a (by simp)
    rw [openK_cons, ih fun x hx => h x (by simp [hx])]
    show (List.flatMap _ [a]) ++ L = _
    simp [ha.1, ha.2]
theorem map_nf_id {L : List T} (hf : ∀ x ∈ L, FitT x) (hn : ∀ x ∈ L, NT x) : L.map nf = L := by
  conv => rhs; rw [← List.map_id L]
  exact List.map_congr_left fun x hx => nf_id x (hf x hx) (hn x hx)
theorem S_kids {u : T} (hf : FitT u) (hn : NT u) (h4 : u.d.kind = 4) : S u.kids = u := by
  cases hn with
  | node d ks hk h4' _ =>
    simp only [T.kids, T.d] at *
    obtain ⟨rfl, h2⟩ := fits_four hf.fit h4
    unfold S
    rw [show ks.map nf = ks from map_nf_id (fun x hx => hf.kids x hx) hk, openK_id (h4' rfl)]
    exact coll_many _ _ (by simp only [T.kids] at h2; omega)
theorem S_one {u : T} (hf : FitT u) (hn : NT u) (h4 : u.d.kind ≠ 4) (h0 : u.d.kind ≠ 0) : S [u] = u := by
  unfold S
  rw [List.map_cons, List.map_nil, nf_id u hf hn, openK_id (by simp [h4, h0])]
  rfl
theorem NT.kids4 {u : T} (hn : NT u) (h4 : u.d.kind = 4) : ∀ k ∈ u.kids, k.d.kind ≠ 4 ∧ k.d.kind ≠ 0 := by
  cases hn with
  | node d ks _ h _ => exact h h4
/-- A tree with a head: its parts. -/
theorem parts_some {t : Tr} (hr : RightT t) (h0 : (nf (treeOf t)).d.kind ≠ 0) :
    ∃ k ks, partsL t = (k :: ks).map flatT ∧ (∀ x ∈ k :: ks, FitT x ∧ NT x ∧ x.d.kind ≠ 4 ∧ x.d.kind ≠ 0) ∧ S (k :: ks) = nf (treeOf t) ∧ sizes (k :: ks) ≤ t.nodes.length := by
  have hf := nf_fit _ hr.fitT
  have hn := nf_nt (treeOf t)
  have hs := nf_size (treeOf t)
  rw [hr.size] at hs
  unfold partsL
  rw [if_pos hr]
  by_cases h4 : (nf (treeOf t)).d.kind = 4
  · rw [if_pos h4]
    have h2 := (fits_four hf.fit h4).2
    have hS := S_kids hf hn h4
    have h3 := size_kids (nf (treeOf t))
    match hk : (nf (treeOf t)).kids, h2 with
    | [], h2 => simp at h2
    | k :: ks, _ =>
      rw [hk] at hS h3
      exact ⟨k, ks, rfl, fun x hx => ⟨hf.kids x (hk ▸ hx), hn.kids x (hk ▸ hx), hn.kids4 h4 x (hk ▸ hx)⟩, hS, by omega⟩
  · rw [if_neg h4, if_neg h0]
    refine ⟨nf (treeOf t), [], ?_, fun x hx => ?_, S_one hf hn h4 h0, by simp [sizes]; omega⟩
    · unfold nfTr; rw [if_pos hr]; rfl
    · simp at hx; subst hx; exact ⟨hf, hn, h4, h0⟩
theorem parts_none {t : Tr} (h : RightT t → (nf (treeOf t)).d.kind = 0) : partsL t = [] := by
  unfold partsL
  by_cases hr : RightT t
  · rw [if_pos hr, if_neg (by rw [h hr]; decide), if_pos (h hr)]
  · rw [if_neg hr]
theorem head_none {t : Tr} (h : RightT t → (nf (treeOf t)).d.kind = 0) : headB t = false ∧ tailB t = false ∧ headT t = zeroT ∧ tailT t = zeroT := by
  have hp := parts_none h
  unfold headB tailB headT tailT
  rw [hp]
  simp
theorem head_some {t : Tr} (hr : RightT t) (h0 : (nf (treeOf t)).d.kind ≠ 0) : headB t = true ∧ tailB t = true ∧ ∃ k u, headT t = flatT k ∧ tailT t = flatT u ∧ FitT k ∧ NT k ∧ k.d.kind ≠ 4 ∧ k.d.kind ≠ 0 ∧ FitT u ∧ NT u ∧
    ofET seqD [headT t, tailT t] = nfTr t ∧ k.size ≤ t.nodes.length ∧ u.size ≤ 1 + t.nodes.length := by
  obtain ⟨k, ks, hp, hx, hS, hz⟩ := parts_some hr h0
  have hks : ∀ x ∈ ks, FitT x := fun x hm => (hx x (by simp [hm])).1
  have hfl := seq_flat hks
  have hk := hx k (by simp)
  have e1 : headB t = true := by unfold headB; rw [hp]; exact decide_eq_true (by simp)
  have e2 : headT t = flatT k := by unfold headT; rw [hp]; rfl
  have e3 : tailB t = true := by
    unfold tailB; rw [hp]
    simp only [List.map_cons, List.tail_cons]
    rw [hfl.2]; simp
  have e4 : tailT t = flatT (S ks) := by
    unfold tailT; rw [hp]
    simp only [List.map_cons, List.tail_cons]
    rw [hfl.1]; simp
  refine ⟨e1, e3, k, S ks, e2, e4, hk.1, hk.2.1, hk.2.2.1, hk.2.2.2, S_fit hks, S_nt ks, ?_, ?_, ?_⟩
  · have hr1 : ∀ x ∈ ks.map flatT, RightT x := flats_right hks
    rw [e2, e4, ← hfl.1, show [flatT k, ofET seqD (ks.map flatT)] = [flatT k] ++ [ofET seqD (ks.map flatT)] from rfl, seq_right_ (by simp [right_flat hk.1]) hr1]
    have := seq_flat (L := k :: ks) fun x hm => (hx x hm).1
    rw [show [flatT k] ++ ks.map flatT = (k :: ks).map flatT from rfl, this.1, hS]
    unfold nfTr; rw [if_pos hr]
  · simp only [sizes] at hz; omega
  · have := S_size ks
    simp only [sizes] at hz; omega
theorem nfTr_flat {u : T} (hf : FitT u) (hn : NT u) : nfTr (flatT u) = flatT u := by
  unfold nfTr; rw [if_pos (right_flat hf), treeOf_flat, nf_id u hf hn]
theorem same_refl {x : Tr} (h : RightT x) : SameT x x := ⟨h, h, rfl⟩
theorem normal_flat {u : T} (hf : FitT u) (hn : NT u) : decide (RightT (flatT u) ∧ SameT (nfTr (flatT u)) (flatT u)) = true :=
  decide_eq_true ⟨right_flat hf, by rw [nfTr_flat hf hn]; exact same_refl (right_flat hf)⟩
/-- What a call leaves that gives a tree and whether it could. -/
def TP (y : Tr) (b : Bool) (bs : List Nat) (w : World) (e : Ending) (w' : World) : Prop :=
  ∃ A c x, e = .returned (.tuple #[.agg #[.slice A x.nodes.length c, .int .i64 x.root], .bool b]) ∧ Hid (x = y) ∧ Hid (RT w' bs A c x) ∧ Hid (Below w.heap.size w w')
theorem tp {y : Tr} {b b' : Bool} {bs : List Nat} {w : World} {e : Ending} {w' : World} (hl : BL w bs) (h : ∃ u, e = .returned (.tuple #[u, .bool b']) ∧ XTree w' (fun b => w.heap.size ≤ b) u y ∧ Below w.heap.size w w') (hb : b' = b) : TP y b bs w e w' := by
  obtain ⟨u, rfl, hu, hb'⟩ := h
  obtain ⟨A, c, rfl⟩ := hu.agg
  exact ⟨A, c, _, by rw [hb], Lib.hid rfl, Lib.hid (RT.of_x hu hl), Lib.hid hb'⟩
section
variable {w0 w : World} {bs : List Nat} {A A2 : Option Addr} {c c2 g : Nat} {x y : Tr} {b : Bool}
theorem make_c (hE : Ev w0 w) (hl : BL w bs) (h1 : RT w bs A c x) (hs : x.nodes.length ≤ 100000) (hb : decide (RightT x) = b) : Calls Tryd.prog 23 #[.agg #[.slice A x.nodes.length c, .int .i64 x.root]] w (TP (nfTr x) b bs w) :=
  (Make_g x _ _ w (h1.givenE hE hs)).mono fun e w' h => tp hl h hb
theorem head_c (hE : Ev w0 w) (hl : BL w bs) (h1 : RT w bs A c x) (hs : x.nodes.length ≤ 100000) (hb : headB x = b) : Calls Tryd.prog 39 #[.agg #[.slice A x.nodes.length c, .int .i64 x.root]] w (TP (headT x) b bs w) :=
  (Head_g (h1.givenE hE hs)).mono fun e w' h => tp hl h hb
theorem tail_c (hE : Ev w0 w) (hl : BL w bs) (h1 : RT w bs A c x) (hs : x.nodes.length ≤ 100000) (hb : tailB x = b) : Calls Tryd.prog 40 #[.agg #[.slice A x.nodes.length c, .int .i64 x.root]] w (TP (tailT x) b bs w) :=
  (Tail_g (h1.givenE hE hs)).mono fun e w' h => tp hl h hb
theorem normal_c (hE : Ev w0 w) (h1 : RT w bs A c x) (hs : x.nodes.length ≤ 100000) (hb : decide (RightT x ∧ SameT (nfTr x) x) = b) : Calls Tryd.prog 42 #[.agg #[.slice A x.nodes.length c, .int .i64 x.root]] w fun e w' => e = .returned (.bool b) ∧ Hid (Below w.heap.size w w') :=
  (Normal_g (h1.givenE hE hs)).mono fun e w' ⟨he, h⟩ => ⟨by rw [he, hb], Lib.hid h⟩
theorem root_c (hE : Ev w0 w) (h1 : RT w bs A c x) (hs : x.nodes.length ≤ 500000) : Calls Tryd.prog 41 #[.agg #[.slice A x.nodes.length c, .int .i64 x.root]] w fun e w' =>
    ∃ k a1 a2 a3 a4 a5 a6 a7 a8, e = .returned (.agg #[.int .u8 k, a1, a2, a3, a4, a5, a6, a7, a8]) ∧ Hid (k = (rootOf x).d.kind) ∧ Hid (Below w.heap.size w w') :=
  (Root_g (h1.given hE hs)).mono fun e w' ⟨⟨N, he, hN⟩, h⟩ => ⟨N.d.kind, _, _, _, _, _, _, _, _, he, Lib.hid (by rw [hN]), Lib.hid h⟩
end
end Go.Proofs.YtclfpjfjebheoaaDoor
/- What is made, in plain Lean; calls over a row of trees that was handed in. -/
namespace Go.Proofs.YtclfpjfjebheoaaDoor
set_option linter.unusedSimpArgs false
open Go.RowKit
open Classical

/-- What Make, Seq, Choice leave: normal, clean; or nothing. -/
structure Made (x : Tr) (b : Bool) : Prop where
  yes : b = true → ∃ n, x = flatT n ∧ FitT n ∧ NT n
  no : b = false → x.nodes.length = 0
theorem made_make (t : Tr) : Made (nfTr t) (decide (RightT t)) := by
  unfold nfTr
  by_cases h : RightT t
  · rw [if_pos h, decide_eq_true h]
    exact ⟨fun _ => ⟨_, rfl, nf_fit _ h.fitT, nf_nt _⟩, fun h => by cases h⟩
  · rw [if_neg h, decide_eq_false h]
    exact ⟨fun h => (by cases h), fun _ => rfl⟩
theorem made_seq (ts : List Tr) : Made (ofET seqD ts) (ofEB seqD ts) := by
  by_cases h : ∀ t ∈ ts, RightT t
  · rw [ofET_seq h, ofEB_seq, decide_eq_true h]
    exact ⟨fun _ => ⟨_, rfl, S_fit (rights_treeOf h), S_nt _⟩, fun h => by cases h⟩
  · rw [ofEB_seq, decide_eq_false h]
    unfold ofET
    rw [if_neg fun hh => h hh.1]
    exact ⟨fun h => (by cases h), fun _ => rfl⟩
theorem made_choice (ts : List Tr) : Made (ofET choiceD ts) (ofEB choiceD ts) := by
  by_cases h : ∀ t ∈ ts, RightT t
  · rw [ofET_choice h, ofEB_choice, decide_eq_true h]
    exact ⟨fun _ => ⟨_, rfl, C_fit (rights_treeOf h), C_nt _⟩, fun h => by cases h⟩
  · rw [ofEB_choice, decide_eq_false h]
    unfold ofET
    rw [if_neg fun hh => h hh.1]
    exact ⟨fun h => (by cases h), fun _ => rfl⟩
theorem seq_len' (ts : List Tr) : (ofET seqD ts).nodes.length ≤ 1 + (ts.map (·.nodes.length)).sum := by
  by_cases h : ∀ t ∈ ts, RightT t
  · exact seq_len h
  · unfold ofET
    rw [if_neg fun hh => h hh.1]
    exact Nat.zero_le _
theorem choice_len' (ts : List Tr) : (ofET choiceD ts).nodes.length ≤ 1 + (ts.map (·.nodes.length)).sum := by
  by_cases h : ∀ t ∈ ts, RightT t
  · exact choice_len h
  · unfold ofET
    rw [if_neg fun hh => h hh.1]
    exact Nat.zero_le _
theorem Made.right {x : Tr} (h : Made x true) : RightT x := by
  obtain ⟨n, rfl, hf, hn⟩ := h.yes rfl
  exact right_flat hf
theorem Made.nf {x : Tr} (h : Made x true) : nfTr x = x := by
  obtain ⟨n, rfl, hf, hn⟩ := h.yes rfl
  exact nfTr_flat hf hn
theorem Made.normal {x : Tr} (h : Made x true) : decide (RightT x ∧ SameT (nfTr x) x) = true := by
  obtain ⟨n, rfl, hf, hn⟩ := h.yes rfl
  exact normal_flat hf hn
theorem Made.clean {x : Tr} (h : Made x true) : cleanOf x = x := by
  obtain ⟨n, rfl, hf, hn⟩ := h.yes rfl
  unfold cleanOf
  rw [if_pos (right_flat hf), treeOf_flat]
section
variable {w0 w : World} {bs : List Nat} {A A2 : Option Addr} {c c2 g : Nat} {x y : Tr} {b : Bool} {v : Value} {ts : List Tr}
theorem listE (hE : Ev w0 w) (h : RTrees w0 (fun b => b < w0.heap.size) v ts) (hs : (ts.map (·.nodes.length)).sum ≤ 100000) (hf : ts.length ≤ 100000) : GivenEL ts v (fun b => b < w0.heap.size) w :=
  ⟨h.below hE.bel (fun _ h => h), fun b hb => Nat.lt_of_lt_of_le hb hE.bel.size, hE.ktab, hE.tog, hs, hf⟩
theorem seqL_c (hE : Ev w0 w) (hl : BL w bs) (h : RTrees w0 (fun b => b < w0.heap.size) v ts) (hs : (ts.map (·.nodes.length)).sum ≤ 100000) (hf : ts.length ≤ 100000) (hb : ofEB seqD ts = b) : Calls Tryd.prog 20 #[v] w (TP (ofET seqD ts) b bs w) :=
  (Seq_g (listE hE h hs hf)).mono fun e w' h => tp hl h hb
theorem choiceL_c (hE : Ev w0 w) (hl : BL w bs) (h : RTrees w0 (fun b => b < w0.heap.size) v ts) (hs : (ts.map (·.nodes.length)).sum ≤ 100000) (hf : ts.length ≤ 100000) (hb : ofEB choiceD ts = b) : Calls Tryd.prog 22 #[v] w (TP (ofET choiceD ts) b bs w) :=
  (Choice_g (listE hE h hs hf)).mono fun e w' h => tp hl h hb
theorem largeL_c (hE : Ev w0 w) (h : RTrees w0 (fun b => b < w0.heap.size) v ts) : Calls Tryd.prog 18 #[v] w (GPost ts w) :=
  (large_g (h.below hE.bel (fun _ h => h)) (fun b hb => Nat.lt_of_lt_of_le hb hE.bel.size)).mono fun e w' ⟨r, he, hs, hb⟩ => ⟨r, he, Lib.hid hs, Lib.hid hb⟩
theorem clean_c (hE : Ev w0 w) (hl : BL w bs) (h1 : RT w bs A c x) (hs : x.nodes.length ≤ 100000) : Calls Tryd.prog 44 #[.agg #[.slice A x.nodes.length c, .int .i64 x.root]] w (UPost (cleanOf x) bs w) := by
  refine (Clean_g (h1.given hE (by omega))).mono fun e w' ⟨u, he, hu, hb⟩ => upost (Below.refl _ _) hl ⟨u, he, ?_, hb⟩
  refine XTree.of_own hu ?_ ?_ <;> unfold cleanOf <;> split
  · rename_i hr
    have := (flat_root (treeOf x) (by rw [hr.size]; omega)).1; omega
  · simp [zeroT]
  · rename_i hr
    have := (flat_root (treeOf x) (by rw [hr.size]; omega)).2; omega
  · simp [zeroT]
theorem rightb_c (hE : Ev w0 w) (h1 : RT w bs A c x) (hs : x.nodes.length ≤ 500000) (hb : decide (RightT x) = b) : Calls Tryd.prog 16 #[.agg #[.slice A x.nodes.length c, .int .i64 x.root]] w fun e w' => e = .returned (.bool b) ∧ Hid (Below w.heap.size w w') :=
  (right_c hE h1 hs).mono fun e w' ⟨he, h⟩ => ⟨by rw [he, hb], h⟩
theorem same_c (hE : Ev w0 w) (h1 : RT w bs A c x) (h2 : RT w bs A2 c2 y) (hs : x.nodes.length ≤ 500000) (hs2 : y.nodes.length ≤ 500000) (hb : decide (SameT x y) = b) :
    Calls Tryd.prog 43 #[.agg #[.slice A x.nodes.length c, .int .i64 x.root], .agg #[.slice A2 y.nodes.length c2, .int .i64 y.root]] w fun e w' => e = .returned (.bool b) ∧ Hid (Below w.heap.size w w') :=
  (Same_g (h1.given hE hs) (h2.given hE hs2)).mono fun e w' ⟨he, h⟩ => ⟨by rw [he, hb], Lib.hid h⟩
end
/-- What lies in a row of three made trees, each with whether it could be made. -/
structure Row3 (w : World) (bs : List Nat) (g k : Nat) (A : Option Addr) (c : Nat) (x : Tr) (b : Bool) : Prop where
  c0 : w.cell? ⟨g, k * 3, none⟩ = some (.slice A x.nodes.length c)
  c1 : w.cell? ⟨g, k * 3 + 1, none⟩ = some (.int .i64 x.root)
  c2 : w.cell? ⟨g, k * 3 + 2, none⟩ = some (.bool b)
  lt : g < w.heap.size
  tree : RT w bs A c x
  made : Made x b
  size : x.nodes.length ≤ 1000
theorem Row3.below {w w' : World} {bs : List Nat} {g k : Nat} {A : Option Addr} {c : Nat} {x : Tr} {b : Bool} (h : Row3 w bs g k A c x b) (hb : Below w.heap.size w w') : Row3 w' bs g k A c x b :=
  ⟨(hb.cell (p := ⟨g, k * 3, none⟩) h.lt).trans h.c0, (hb.cell (p := ⟨g, k * 3 + 1, none⟩) h.lt).trans h.c1, (hb.cell (p := ⟨g, k * 3 + 2, none⟩) h.lt).trans h.c2, Nat.lt_of_lt_of_le h.lt hb.size, h.tree.below hb, h.made, h.size⟩
theorem rows3 {w' : World} {bs : List Nat} {g : Nat} {ty : TypeId} {A1 A2 A3 : Option Addr} {c1 c2 c3 : Nat} {x y z : Tr} {b1 b2 b3 : Bool} (hB : Blk w' g ty #[.slice A1 x.nodes.length c1, .int .i64 x.root, .bool b1, .slice A2 y.nodes.length c2, .int .i64 y.root, .bool b2, .slice A3 z.nodes.length c3, .int .i64 z.root, .bool b3])
    (h1 : RT w' bs A1 c1 x) (h2 : RT w' bs A2 c2 y) (h3 : RT w' bs A3 c3 z) (m1 : Made x b1) (m2 : Made y b2) (m3 : Made z b3) (s1 : x.nodes.length ≤ 1000) (s2 : y.nodes.length ≤ 1000) (s3 : z.nodes.length ≤ 1000) :
    ∀ k, k < 3 → ∃ A c x b, Row3 w' bs g k A c x b := by
  intro k hk
  match k, hk with
  | 0, _ => exact ⟨A1, c1, x, b1, hB.cell 0, hB.cell 1, hB.cell 2, hB.lt, h1, m1, s1⟩
  | 1, _ => exact ⟨A2, c2, y, b2, hB.cell 3, hB.cell 4, hB.cell 5, hB.lt, h2, m2, s2⟩
  | 2, _ => exact ⟨A3, c3, z, b3, hB.cell 6, hB.cell 7, hB.cell 8, hB.lt, h3, m3, s3⟩
end Go.Proofs.YtclfpjfjebheoaaDoor
/- Parts and ways, in plain Lean; two rows of trees of a law's own, side by side. -/
namespace Go.Proofs.YtclfpjfjebheoaaDoor
set_option linter.unusedSimpArgs false
open Go.RowKit
open Classical

theorem partsL_open {t : Tr} (h : RightT t) : partsL t = (openK 4 0 [nf (treeOf t)]).map flatT := by
  unfold partsL nfTr
  rw [if_pos h]
  by_cases h4 : (nf (treeOf t)).d.kind = 4
  · simp [openK, h4]
  · by_cases h0 : (nf (treeOf t)).d.kind = 0
    · simp [openK, h0]
    · simp [openK, h4, h0, h]
theorem waysL_open {t : Tr} (h : RightT t) : openedL t 5 = (openK 5 5 [nf (treeOf t)]).map flatT := by
  unfold openedL nfTr
  rw [if_pos h]
  by_cases h4 : (nf (treeOf t)).d.kind = 5
  · simp [openK, h4]
  · simp [openK, h4, h]
theorem flat_parts {ts : List Tr} (h : ∀ t ∈ ts, RightT t) : ts.flatMap partsL = (openK 4 0 ((ts.map treeOf).map nf)).map flatT := by
  induction ts with
  | nil => rfl
  | cons t ts ih =>
    rw [List.flatMap_cons, ih fun x hx => h x (by simp [hx]), partsL_open (h t (by simp)), List.map_cons, List.map_cons, openK_cons 4 0 (nf (treeOf t)) (List.map nf (List.map treeOf ts)), List.map_append]
theorem flat_ways {ts : List Tr} (h : ∀ t ∈ ts, RightT t) : ts.flatMap (openedL · 5) = (openK 5 5 ((ts.map treeOf).map nf)).map flatT := by
  induction ts with
  | nil => rfl
  | cons t ts ih =>
    rw [List.flatMap_cons, ih fun x hx => h x (by simp [hx]), waysL_open (h t (by simp)), List.map_cons, List.map_cons, openK_cons 5 5 (nf (treeOf t)) (List.map nf (List.map treeOf ts)), List.map_append]
theorem parts_of_seq {ts : List Tr} (h : ∀ t ∈ ts, RightT t) : partsL (ofET seqD ts) = ts.flatMap partsL := by
  rw [partsL_open (seq_right h), seq_treeOf h, open_S (rights_treeOf h), flat_parts h]
theorem ways_of_choice {ts : List Tr} (h : ∀ t ∈ ts, RightT t) (hn : ts ≠ []) : openedL (ofET choiceD ts) 5 = ts.flatMap (openedL · 5) := by
  rw [waysL_open (choice_right h), choice_treeOf h, open_C (rights_treeOf h) (by simpa using hn), flat_ways h]
theorem S_open {u : T} (hf : FitT u) (hn : NT u) : S (openK 4 0 [u]) = u := by
  by_cases h4 : u.d.kind = 4
  · rw [show openK 4 0 [u] = u.kids by simp [openK, h4]]; exact S_kids hf hn h4
  · by_cases h0 : u.d.kind = 0
    · rw [show openK 4 0 [u] = [] by simp [openK, h0]]
      obtain ⟨h1, h2⟩ := fits_zero hf.fit h0
      cases u with
      | node d ks =>
        simp only [T.d, T.kids] at h1 h2
        have : ks = [] := List.eq_nil_of_length_eq_zero (by omega)
        subst this; subst h1; rfl
    · rw [show openK 4 0 [u] = [u] by simp [openK, h4, h0]]; exact S_one hf hn h4 h0
theorem C_open {u : T} (hf : FitT u) (hn : NT u) : C (openK 5 5 [u]) = u := by
  by_cases h4 : u.d.kind = 5
  · rw [show openK 5 5 [u] = u.kids by simp [openK, h4]]
    cases hn with
    | node d ks hk _ h5 =>
      simp only [T.kids, T.d] at *
      obtain ⟨rfl, h2⟩ := fits_five hf.fit h4
      unfold C
      rw [show ks.map nf = ks from map_nf_id (fun x hx => hf.kids x hx) hk, openK_id (fun x hx => ⟨h5 rfl x hx, h5 rfl x hx⟩)]
      exact coll_many _ _ (by simp only [T.kids] at h2; omega)
  · rw [show openK 5 5 [u] = [u] by simp [openK, h4]]
    unfold C
    rw [List.map_cons, List.map_nil, nf_id u hf hn, openK_id (by simp [h4])]
    rfl
theorem open_fit1 {k z : Int} {u : T} (hf : FitT u) : ∀ x ∈ openK k z [u], FitT x := open_fit (by simp [hf])
theorem parts_back {t : Tr} (h : RightT t) : ofEB seqD (partsL t) = true ∧ ofET seqD (partsL t) = nfTr t := by
  have hf := nf_fit _ h.fitT
  have := seq_flat (L := openK 4 0 [nf (treeOf t)]) (open_fit1 hf)
  rw [partsL_open h]
  exact ⟨this.2, by rw [this.1, S_open hf (nf_nt _)]; unfold nfTr; rw [if_pos h]⟩
theorem ways_back {t : Tr} (h : RightT t) : ofEB choiceD (openedL t 5) = true ∧ ofET choiceD (openedL t 5) = nfTr t := by
  have hf := nf_fit _ h.fitT
  have := choice_flat (L := openK 5 5 [nf (treeOf t)]) (open_fit1 hf)
  rw [waysL_open h]
  exact ⟨this.2, by rw [this.1, C_open hf (nf_nt _)]; unfold nfTr; rw [if_pos h]⟩
theorem sum_flats (L : List T) : ((L.map flatT).map (·.nodes.length)).sum = sizes L := by
  induction L with
  | nil => rfl
  | cons a L ih => simp only [List.map_cons, List.sum_cons, sizes, ih, flatT_len]
theorem ways_sum {t : Tr} (h : RightT t) : ((openedL t 5).map (·.nodes.length)).sum ≤ t.nodes.length ∧ (openedL t 5).length ≤ t.nodes.length := by
  rw [waysL_open h, sum_flats, List.length_map]
  have h1 := sizes_open 5 5 [nf (treeOf t)]
  have h2 := nf_size (treeOf t)
  rw [h.size] at h2
  have h3 := sizes_len (openK 5 5 [nf (treeOf t)])
  simp only [sizes] at h1
  exact ⟨by omega, by omega⟩
/-! ### Two rows -/
theorem OL.frame' {w w' : World} {base : Nat} {X Y : Nat → Prop} {v : Value} {ts : List Tr} {r : Option Nat} (h : OL w base X v ts) (hg : w.grownBy w' r) (hv : v.ownBlock = none ∨ v.ownBlock ≠ r) (hX : ∀ b, X b → b < w.heap.size → some b ≠ r ∧ Y b) : OL w' base Y v ts := by
  obtain ⟨nvs, hl, hr, hn⟩ := h
  exact ⟨nvs, hl, hr.kept hg hv, fun j t nv h1 h2 => ⟨((hn j t nv h1 h2).1.grown hg fun b h => ⟨h.2.1, fun e => (hX b h.1 h.2.1).1 e.symm⟩).more fun b h => ⟨(hX b h.1 h.2.1).2, Nat.lt_of_lt_of_le h.2.1 hg.size, h.2.2.1, h.2.2.2.grown hg h.2.1 (hX b h.1 h.2.1).1⟩, (hn j t nv h1 h2).2⟩⟩
structure PR (w0 w : World) (a b : Value) (P W : List Tr) : Prop where
  p : OL w w0.heap.size (fun x => b.ownBlock ≠ some x) a P
  q : OL w w0.heap.size (fun x => a.ownBlock ≠ some x) b W
  ne : ∀ g, a.ownBlock = some g → b.ownBlock ≠ some g
theorem PR.below {w0 w w' : World} {a b : Value} {P W : List Tr} (h : PR w0 w a b P W) (hb : Below w.heap.size w w') : PR w0 w' a b P W := ⟨h.p.below hb, h.q.below hb, h.ne⟩
theorem PR.swap {w0 w : World} {a b : Value} {P W : List Tr} (h : PR w0 w a b P W) : PR w0 w b a W P := ⟨h.q, h.p, fun g hg ha => h.ne g ha hg⟩
theorem PR.nil (w0 w : World) : PR w0 w (.slice none 0 0) (.slice none 0 0) [] [] := ⟨OL.nil_ _ _ _, OL.nil_ _ _ _, fun g hg => by simp [Value.ownBlock] at hg⟩
/-- The one row grows. -/
theorem PR.push {w0 w w' : World} {a a' b : Value} {P W us : List Tr} {nvs mvs : List Value} {S : Nat → Prop} (h : PR w0 w a b P W) (hl : nvs.length = P.length)
    (hn : ∀ (j : Nat) (t : Tr) (nv : Value), P[j]? = some t → nvs[j]? = some nv → RNodes w (fun x => b.ownBlock ≠ some x ∧ x < w.heap.size ∧ a.ownBlock ≠ some x ∧ Soft w x) nv t.nodes ∧ -9223372036854775808 ≤ t.root ∧ t.root ≤ 9223372036854775807)
    (hl2 : mvs.length = us.length) (hn2 : ∀ (j : Nat) (t : Tr) (nv : Value), us[j]? = some t → mvs[j]? = some nv → RNodes w S nv t.nodes ∧ -9223372036854775808 ≤ t.root ∧ t.root ≤ 9223372036854775807)
    (hS : ∀ x, S x → b.ownBlock ≠ some x ∧ x < w.heap.size ∧ a.ownBlock ≠ some x ∧ Soft w x)
    (hr : w'.ownsRow w0.heap.size 34 2 a' (P.length + us.length) (treesCells P nvs ++ treesCells us mvs)) (hg : w.grownBy w' a.ownBlock) (hat : a'.ownBlock = a.ownBlock ∨ a'.ownBlock = some w.heap.size) : PR w0 w' a' b (P ++ us) W := by
  have hat' : a'.ownBlock = a.ownBlock ∨ ∀ g, a'.ownBlock = some g → w.heap.size ≤ g := by
    rcases hat with h | h
    · exact .inl h
    · exact .inr fun g hg => by rw [h] at hg; injection hg; omega
  refine ⟨OL.append hl hn hl2 hn2 hS hr hg hat', ?_, fun g hg' e => ?_⟩
  · refine OL.frame' h.q hg ?_ fun x hx hlt => ⟨fun e => hx e.symm, fun e => ?_⟩
    · cases hbo : b.ownBlock with
      | none => exact .inl rfl
      | some g => exact .inr fun e => h.ne g e.symm hbo
    · rcases hat with h1 | h1
      · exact hx (h1 ▸ e)
      · rw [h1] at e; injection e; omega
  · rcases hat with h1 | h1
    · exact h.ne g (h1 ▸ hg') e
    · rw [h1] at hg'; injection hg' with hg'; have := (h.q.lt e).2; omega
/-- A row that was handed back: its cells. -/
theorem RTrees.row {w : World} {S : Nat → Prop} {v : Value} {us : List Tr} (h : RTrees w S v us) (hS : ∀ b, S b → b < w.heap.size) : ∃ A c mvs, v = .slice A us.length c ∧ us.length ≤ maxLen ∧ mvs.length = us.length ∧ Reads w w.heap.size 2 A us.length (treesCells us mvs) ∧ (∀ u ∈ treesCells us mvs, u.oneCell' = true) ∧
    ∀ (j : Nat) (t : Tr) (nv : Value), us[j]? = some t → mvs[j]? = some nv → RNodes w S nv t.nodes ∧ -9223372036854775808 ≤ t.root ∧ t.root ≤ 9223372036854775807 := by
  obtain ⟨mvs, hl, hrow, hn⟩ := h.is
  obtain ⟨A, c, rfl, hc, hr⟩ := hrow.is
  refine ⟨A, c, mvs, rfl, hrow.small, hl, ⟨hrow.len, fun hp => ?_⟩, cells_one us mvs hl (fun j t nv h1 h2 => (hn j t nv h1 h2).1), hn⟩
  obtain ⟨b, off, rfl, hb, hcell⟩ := hr hp
  refine ⟨_, rfl, hS b hb, fun j u hu => ?_⟩
  rw [show (⟨b, off, none⟩ : Addr).add j = ⟨b, off + j, none⟩ by unfold Addr.add; simp]
  exact hcell j u hu
def Since (w1 w : World) : Prop := w1.heap.size ≤ w.heap.size
theorem Since.below {w1 w w' : World} {B : Nat} (h : Since w1 w) (hb : Below B w w') : Since w1 w' := Nat.le_trans h hb.size
theorem OL.reads_ {w : World} {base : Nat} {X : Nat → Prop} {v : Value} {ts : List Tr} (h : OL w base X v ts) : RTrees w (fun b => b < w.heap.size) v ts := by
  have h1 : OwnList w base 0 v ts := OL.list (h.weaken (Y := fun b => 0 ≤ b) fun b _ => Nat.zero_le b)
  exact h1.reads.more fun b hb => hb.2
theorem Ev.grown {w0 w w' : World} {r : Option Nat} (h : Ev w0 w) (hg : w.grownBy w' r) (hr : ∀ g, r = some g → w0.heap.size ≤ g) : Ev w0 w' :=
  ⟨h.bel.trans (below_of_grown hg h.bel.size hr), h.kt, h.tt⟩
theorem XL.grown {w w' : World} {lo : Nat} {v : Value} {us : List Tr} {r : Option Nat} (h : XL w lo v us) (hg : w.grownBy w' r) (hr : ∀ g, r = some g → g < lo) : RTrees w' (fun b => lo ≤ b ∧ b < w.heap.size ∧ Soft w' b) v us := by
  have hne : ∀ b, lo ≤ b → r ≠ some b := fun b hb e => by have := hr b e; omega
  exact (RTrees.keep h fun p hp => World.cell?_of_block (hg.block p.block hp.2.1 (fun e => hne _ hp.1 e.symm))).more fun b hb => ⟨hb.1, hb.2.1, hb.2.2.grown hg hb.2.1 fun e => hne _ hb.1 e.symm⟩
section
variable {w0 w : World} {bs : List Nat} {A : Option Addr} {c lo : Nat} {x : Tr} {b : Bool} {v : Value} {us : List Tr}
theorem xl_given (hE : Ev w0 w) (h : XL w lo v us) (hs : (us.map (·.nodes.length)).sum ≤ 100000) (hf : us.length ≤ 100000) : GivenEL us v (fun b => lo ≤ b ∧ b < w.heap.size ∧ Soft w b) w := ⟨h, fun _ h => h.2.1, hE.ktab, hE.tog, hs, hf⟩
theorem seqX_c (hE : Ev w0 w) (hl : BL w bs) (h : XL w lo v us) (hs : (us.map (·.nodes.length)).sum ≤ 100000) (hf : us.length ≤ 100000) (hb : ofEB seqD us = b) : Calls Tryd.prog 20 #[v] w (TP (ofET seqD us) b bs w) :=
  (Seq_g (xl_given hE h hs hf)).mono fun e w' h => tp hl h hb
theorem choiceX_c (hE : Ev w0 w) (hl : BL w bs) (h : XL w lo v us) (hs : (us.map (·.nodes.length)).sum ≤ 100000) (hf : us.length ≤ 100000) (hb : ofEB choiceD us = b) : Calls Tryd.prog 22 #[v] w (TP (ofET choiceD us) b bs w) :=
  (Choice_g (xl_given hE h hs hf)).mono fun e w' h => tp hl h hb
theorem parts_c (hE : Ev w0 w) (h1 : RT w bs A c x) (hs : x.nodes.length ≤ 100000) : Calls Tryd.prog 24 #[.agg #[.slice A x.nodes.length c, .int .i64 x.root]] w fun e w' => ∃ u, e = .returned u ∧ Hid (XL w' w.heap.size u (partsL x)) ∧ Hid (Below w.heap.size w w') :=
  (Parts_g (h1.givenE hE hs)).mono fun e w' ⟨⟨u, he, hu⟩, hb⟩ => ⟨u, he, Lib.hid hu, Lib.hid hb⟩
theorem ways_c (hE : Ev w0 w) (h1 : RT w bs A c x) (hs : x.nodes.length ≤ 100000) : Calls Tryd.prog 25 #[.agg #[.slice A x.nodes.length c, .int .i64 x.root]] w fun e w' => ∃ u, e = .returned u ∧ Hid (XL w' w.heap.size u (openedL x 5)) ∧ Hid (Below w.heap.size w w') :=
  (Ways_g (h1.givenE hE hs)).mono fun e w' ⟨u, he, hu, hb⟩ => ⟨u, he, Lib.hid (OL.xl hu), Lib.hid hb⟩
theorem exact_c {v' : Value} {us' : List Tr} (h : XL w lo v us) (h' : RTrees w (fun b => b < w.heap.size) v' us') (he : us = us') (hs : ∀ t ∈ us, t.nodes.length ≤ 1000000) : Calls Tryd.prog 26 #[v, v'] w fun e w' => e = .returned (.bool true) ∧ Hid (Below w.heap.size w w') := by
  subst he
  exact (exactL_eq h h' (fun _ h => h.2.1) (fun _ h => h) hs).mono fun e w' ⟨he, hb⟩ => ⟨he, Lib.hid hb⟩
end
structure PartsRel (ts : List Tr) (w wr : World) (a b : Value) (j : Nat) : Prop where
  right : ∀ t ∈ ts.take j, RightT t
  ev : Ev w wr
  pr : PR w wr a b ((ts.take j).flatMap partsL) ((ts.take j).flatMap (openedL · 5))
  lp : ((ts.take j).flatMap partsL).length ≤ j * 500000
  lq : ((ts.take j).flatMap (openedL · 5)).length ≤ j * 500000
theorem PartsRel.next {ts : List Tr} {w wr wr' : World} {a b a' b' : Value} {j : Nat} {t : Tr} (h : PartsRel ts w wr a b j) (ht : ts[j]? = some t) (hr : RightT t) (hs : t.nodes.length ≤ 400) (ev : Ev w wr') (pr : PR w wr' a' b' ((ts.take j).flatMap partsL ++ partsL t) ((ts.take j).flatMap (openedL · 5) ++ openedL t 5)) : PartsRel ts w wr' a' b' (j + 1) := by
  have e : ts.take (j + 1) = ts.take j ++ [t] := by rw [List.take_add_one, ht]; rfl
  have h1 := (parts_sum t).2
  have h2 := (ways_sum hr).2
  have h3 := h.lp
  have h4 := h.lq
  refine ⟨fun x hx => ?_, ev, ?_, ?_, ?_⟩
  · rw [e] at hx
    rcases List.mem_append.1 hx with hx | hx
    · exact h.right x hx
    · simp at hx; subst hx; exact hr
  · rw [e, List.flatMap_append, List.flatMap_append, List.flatMap_cons, List.flatMap_cons, List.flatMap_nil, List.flatMap_nil, List.append_nil, List.append_nil]; exact pr
  · rw [e, List.flatMap_append, List.flatMap_cons, List.flatMap_nil, List.append_nil, List.length_append]; omega
  · rw [e, List.flatMap_append, List.flatMap_cons, List.flatMap_nil, List.append_nil, List.length_append]; omega
end Go.Proofs.YtclfpjfjebheoaaDoor
/- The law ExprParts, walked: it answers true. -/
namespace Go.Proofs.YtclfpjfjebheoaaDoor
set_option linter.unusedSimpArgs false
open Go.RowKit
open Classical

set_option maxRecDepth 20000 in
set_option maxHeartbeats 8000000 in
theorem lexprparts_any (ts : List Tr) (vl : Value) (w : World) (hts : RTrees w (fun b => b < w.heap.size) vl ts) (hk : KTab w) (ht : TogTab w) : Calls Tryd.prog 6 #[vl] w (TruePost w) := by
  obtain ⟨Al, cl, rfl, -, hsl, -⟩ := hts.at_
  have HT := Lib.hid hts
  have HE : Hid (Ev w w) := Lib.hid ⟨Below.refl _ _, hk, ht⟩
  have HL : Hid (BL w []) := Lib.hid (BL.nil w)
  have HG : Hid (∀ b ∈ ([] : List Nat), w.heap.size ≤ b) := Lib.hid (fun b hm => by cases hm)
  have HN : Hid (([] : List Nat).Nodup) := Lib.hid List.nodup_nil
  obtain ⟨i0, hi0, hz0, hz1, hz2⟩ := info_parts tree_info
  have hia : Hid (Tryd.prog.info? 34 = some i0 ∧ i0.zero = some (.agg #[.slice none 0 0, .int .i64 0]) ∧ i0.size = 2 ∧ i0.bytes = 32) := Lib.hid ⟨hi0, hz0, hz1, hz2⟩
  clear hts hk ht hi0 hz0 hz1 hz2
  go_enter Tryd.func6, Tryd.ntmps6
  go_wp2_with fail
  refine Calls.mono (largeL_c HE.out HT.out) ?_
  rintro e w1 ⟨r, rfl, HS, B1⟩
  replace HE := Lib.hid (HE.out.below B1.out)
  replace HL := Lib.hid (HL.out.below B1.out)
  rcases r with _ | _
  · have HZL := Lib.hid (show (ts.map (·.nodes.length)).sum ≤ 400 ∧ ts.length ≤ 400 from ⟨(HS.out rfl).sum, (HS.out rfl).few⟩)
    clear HS
    go_wp2_with fail
    refine Calls.mono (awake_c HE.out) ?_
    rintro e w2 ⟨rfl, B2⟩
    replace HE := Lib.hid (HE.out.below B2.out)
    replace HL := Lib.hid (HL.out.below B2.out)
    go_wp2_with fail
    have HGL := Lib.hid (show ∀ wx, Ev w wx → GivenL ts (.slice Al ts.length cl) (fun b => b < w.heap.size) wx from fun wx hx => ⟨HT.out.below hx.bel (fun _ h => h), fun b hb => Nat.lt_of_lt_of_le hb hx.bel.size, hx.ktab, fun t ht => by have := sum_mem ht; have := HZL.out.1; omega, by have := HZL.out.2; omega⟩)
    have hsz : ts.length ≤ 400 := HZL.out.2
    go_loopw [3, 4, 5] (fun a b i wr => ∃ (j : Nat) (va vb : Value), a = va ∧ b = vb ∧ j ≤ ts.length ∧ i = .int .i64 j ∧ Hid (PartsRel ts w wr va vb j)) (fun _ _ i _ => ts.length - (intOf i).toNat)
    case atStart => exact ⟨0, _, _, rfl, rfl, Nat.zero_le _, rfl, Lib.hid ⟨by simp, HE.out, by simpa using PR.nil _ _, by simp, by simp⟩⟩
    case round =>
      obtain ⟨wo, rfl⟩ : ∃ wo, wo = wr := ⟨_, rfl⟩
      obtain ⟨j, va, vb, rfl, rfl, hj, rfl, HR⟩ := hrel
      clear HE HL B1 B2
      have HE := Lib.hid HR.out.ev
      have HL := Lib.hid (BL.nil wo)
      have HPR := Lib.hid HR.out.pr
      obtain ⟨P, hP⟩ : ∃ P, P = (ts.take j).flatMap partsL := ⟨_, rfl⟩
      obtain ⟨Q, hQ⟩ : ∃ Q, Q = (ts.take j).flatMap (openedL · 5) := ⟨_, rfl⟩
      have hlp := HR.out.lp
      have hlq := HR.out.lq
      rw [← hP] at hlp HPR
      rw [← hQ] at hlq HPR
      have HPQ := Lib.hid (And.intro hP hQ)
      have HRR := Lib.hid HR.out.right
      have HNX := Lib.hid (fun (wr' : World) (a b : Value) (t : Tr) (ht : ts[j]? = some t) (hr : RightT t) (hs : t.nodes.length ≤ 400) (ev : Ev w wr') (pr : PR w wr' a b ((ts.take j).flatMap partsL ++ partsL t) ((ts.take j).flatMap (openedL · 5) ++ openedL t 5)) => HR.out.next ht hr hs ev pr)
      rw [← hP, ← hQ] at HNX
      clear hP hQ HR
      obtain ⟨R3, q3, hva⟩ := HPR.out.p.slice
      obtain ⟨R4, q4, hvb⟩ := HPR.out.q.slice
      subst hva
      subst hvb
      by_cases hlt : j < ts.length
      · obtain ⟨t, ht⟩ : ∃ t, ts[j]? = some t := ⟨_, List.getElem?_eq_getElem hlt⟩
        have HTJ := Lib.hid ht
        obtain ⟨bb, off, Ak, ck, hA, hSb, hG, d0, d1⟩ := (HGL.out _ HE.out).at_ j t ht
        subst hA
        have HZ := Lib.hid (show t.nodes.length ≤ 400 by have := sum_mem (List.mem_of_getElem? ht); have := HZL.out.1; omega)
        have VT : Hid (RT wo [] Ak ck t) := Lib.hid (RTree.more hG.read fun b hb => ⟨hG.old b hb, fun h => by cases h⟩)
        have HC := Lib.hid (show ∀ wx, Ev w wx → wx.cell? ⟨bb, off + j * 2, none⟩ = some (.slice Ak t.nodes.length ck) ∧ wx.cell? ⟨bb, off + j * 2 + 1, none⟩ = some (.int .i64 t.root) from fun wx hx => ⟨(hx.bel.cell (p := ⟨bb, off + j * 2, none⟩) hSb).trans ((HE.out.bel.cell (p := ⟨bb, off + j * 2, none⟩) hSb).symm.trans d0), (hx.bel.cell (p := ⟨bb, off + j * 2 + 1, none⟩) hSb).trans ((HE.out.bel.cell (p := ⟨bb, off + j * 2 + 1, none⟩) hSb).symm.trans d1)⟩)
        clear hG ht
        have hj0 : (0 : Int) ≤ (j : Int) := by omega
        have hj1 : (j : Int) < (ts.length : Int) := by omega
        go_wp2_with fail
        clear d0 d1
        by_cases hr : RightT t
        · have HRT := Lib.hid hr
          clear hr
          refine Calls.mono (make_c (b := true) HE.out HL.out VT.out (by have := HZ.out; omega) (decide_eq_true HRT.out)) ?_
          rintro e w3 ⟨A3, c3, x3, rfl, X3, V3, B3⟩
          replace HE := Lib.hid (HE.out.below B3.out)
          replace HL := Lib.hid (HL.out.below B3.out)
          replace VT := Lib.hid (VT.out.below B3.out)
          replace HPR := Lib.hid (HPR.out.below B3.out)
          have Z3 := Lib.hid (show x3.nodes.length ≤ 400 by rw [X3.out]; have := nfTr_len t; have := HZ.out; omega)
          replace HG := Lib.hid (ge_box (g := w3.heap.size) HG.out HE.out rfl)
          replace HN := Lib.hid (nd_box (g := w3.heap.size) HN.out HL.out rfl)
          have K6 := Lib.hid (TB.newN (g := w3.heap.size) V3.out rfl)
          replace HE := Lib.hid (HE.out.alloc (.cells #[.slice A3 x3.nodes.length c3, .int .i64 x3.root] 34))
          replace HL := Lib.hid (BL.boxN (g := w3.heap.size) HL.out (.cells #[.slice A3 x3.nodes.length c3, .int .i64 x3.root] 34) rfl)
          replace VT := Lib.hid (RT.boxN (g := w3.heap.size) VT.out (.cells #[.slice A3 x3.nodes.length c3, .int .i64 x3.root] 34) rfl)
          replace HPR := Lib.hid (HPR.out.below (below_row _ (.cells #[.slice A3 x3.nodes.length c3, .int .i64 x3.root] 34)))
          go_wp2_with fail
          obtain ⟨wr1, hwr1⟩ : ∃ wr1, wr1 = w3.alloc (.cells #[.slice A3 x3.nodes.length c3, .int .i64 x3.root] 34) := ⟨_, rfl⟩
          rw [← hwr1] at HE HL K6 VT HPR ⊢
          clear hwr1
          have HRB3 := Lib.hid (fun (g : Nat) (hg : (Value.slice R3 P.length q3).ownBlock = some g) => HPR.out.p.lt hg)
          have HRB4 := Lib.hid (fun (g : Nat) (hg : (Value.slice R4 Q.length q4).ownBlock = some g) => HPR.out.q.lt hg)
          have HWL : Hid (Since wr1 wr1) := Lib.hid (Nat.le_refl _)
          have HCW := Lib.hid (show ∀ wx, Below wr1.heap.size wr1 wx → wx.cell? ⟨bb, off + j * 2, none⟩ = some (.slice Ak t.nodes.length ck) ∧ wx.cell? ⟨bb, off + j * 2 + 1, none⟩ = some (.int .i64 t.root) from fun wx hx => HC.out wx (HE.out.below hx))
          refine wp_region_inv (G := Unit) () UE UN
            [fun v _ => v = .slice (some ⟨bb, off, none⟩) ts.length cl, fun v _ => v = .int .i64 j, fun v _ => v = .pointer (some ⟨bb, off + j * 2, none⟩), fun v _ => v = .agg #[.slice Ak t.nodes.length ck, .int .i64 t.root], fun v s => XL s.2 wr1.heap.size v (partsL t), fun v _ => v = .slice (some ⟨bb, off, none⟩) ts.length cl, fun v _ => v = .int .i64 j, fun v _ => v = .pointer (some ⟨bb, off + j * 2, none⟩), fun v _ => v = .agg #[.slice Ak t.nodes.length ck, .int .i64 t.root], fun v s => XL s.2 wr1.heap.size v (openedL t 5), fun v s => XL s.2 wr1.heap.size v (partsL t), fun v s => XL s.2 wr1.heap.size v (openedL t 5)]
            (by kernel_rfl) UE.trans (UE.refl _) (by kernel_rfl) (by kernel_rfl) (fun _ => trivial) ?rstp10 ?rstepsp10 ?rfinp10
          case rstp10 =>
            intro R hR v s s' _ h hr
            simp only [List.mem_cons, List.not_mem_nil, or_false] at hR
            rcases hR with rfl | rfl | rfl | rfl | rfl | rfl | rfl | rfl | rfl | rfl | rfl | rfl
            · exact hr
            · exact hr
            · exact hr
            · exact hr
            · exact XL.below hr h
            · exact hr
            · exact hr
            · exact hr
            · exact hr
            · exact XL.below hr h
            · exact XL.below hr h
            · exact XL.below hr h
          case rstepsp10 =>
            refine ⟨?_, ?_, ?_, ?_, ?_, ?_, ?_, ?_, ?_, ?_, ?_, ?_, trivial⟩
            · intro a γ wx hB hE hN hW K hK
              have hw := UE.start hE
              have h0 : a.tmps[0]? = some (.slice (some ⟨bb, off, none⟩) ts.length cl) := (hB.at_ 0 (of_decide_eq_true (by kernel_rfl))).trans rfl
              clear hB hN hE
              go_simp
              exact hK (.slice (some ⟨bb, off, none⟩) ts.length cl) () _ (UE.refl _) (fun _ _ h => h) rfl
            · intro a γ wx hB hE hN hW K hK
              have hw := UE.start hE
              have h5 : a.tmps[5]? = some (.int .i64 j) := (hB.at_ 5 (of_decide_eq_true (by kernel_rfl))).trans rfl
              clear hB hN hE
              go_simp
              exact hK (.int .i64 j) () _ (UE.refl _) (fun _ _ h => h) rfl
            · intro a γ wx hB hE hN hW K hK
              have hw := UE.start hE
              obtain ⟨⟨_, h41, rfl⟩, ⟨_, h42, rfl⟩, -⟩ := hW
              clear hB hN hE
              go_simp
              exact hK (.pointer (some ⟨bb, off + j * 2, none⟩)) () _ (UE.refl _) (fun _ _ h => h) rfl
            · intro a γ wx hB hE hN hW K hK
              have hw := UE.start hE
              obtain ⟨⟨_, h43, rfl⟩, -⟩ := hW
              have hc := HCW.out _ hw
              clear hB hN hE
              go_simp
              exact hK (.agg #[.slice Ak t.nodes.length ck, .int .i64 t.root]) () _ (UE.refl _) (fun _ _ h => h) rfl
            · intro a γ wx hB hE hN hW K hK
              have hw := UE.start hE
              obtain ⟨⟨_, h44, rfl⟩, -⟩ := hW
              clear hB hN hE
              go_simp
              refine ((Parts_g ((VT.out.below hw).givenE (HE.out.below hw) (by have := HZ.out; omega)))).mono ?_
              rintro e w' ⟨⟨u, rfl, hu⟩, hbb⟩
              exact hK _ () _ hbb (fun _ _ h => h) (XL.lo_ hu hw.size)
            · intro a γ wx hB hE hN hW K hK
              have hw := UE.start hE
              have h0 : a.tmps[0]? = some (.slice (some ⟨bb, off, none⟩) ts.length cl) := (hB.at_ 0 (of_decide_eq_true (by kernel_rfl))).trans rfl
              clear hB hN hE
              go_simp
              exact hK (.slice (some ⟨bb, off, none⟩) ts.length cl) () _ (UE.refl _) (fun _ _ h => h) rfl
            · intro a γ wx hB hE hN hW K hK
              have hw := UE.start hE
              have h5 : a.tmps[5]? = some (.int .i64 j) := (hB.at_ 5 (of_decide_eq_true (by kernel_rfl))).trans rfl
              clear hB hN hE
              go_simp
              exact hK (.int .i64 j) () _ (UE.refl _) (fun _ _ h => h) rfl
            · intro a γ wx hB hE hN hW K hK
              have hw := UE.start hE
              obtain ⟨⟨_, h46, rfl⟩, ⟨_, h47, rfl⟩, -⟩ := hW
              clear hB hN hE
              go_simp
              exact hK (.pointer (some ⟨bb, off + j * 2, none⟩)) () _ (UE.refl _) (fun _ _ h => h) rfl
            · intro a γ wx hB hE hN hW K hK
              have hw := UE.start hE
              obtain ⟨⟨_, h48, rfl⟩, -⟩ := hW
              have hc := HCW.out _ hw
              clear hB hN hE
              go_simp
              exact hK (.agg #[.slice Ak t.nodes.length ck, .int .i64 t.root]) () _ (UE.refl _) (fun _ _ h => h) rfl
            · intro a γ wx hB hE hN hW K hK
              have hw := UE.start hE
              obtain ⟨⟨_, h49, rfl⟩, -⟩ := hW
              clear hB hN hE
              go_simp
              refine ((Ways_g ((VT.out.below hw).givenE (HE.out.below hw) (by have := HZ.out; omega)))).mono ?_
              rintro e w' ⟨u, rfl, hu, hbb⟩
              exact hK _ () _ hbb (fun _ _ h => h) (XL.lo_ (OL.xl hu) hw.size)
            · intro a γ wx hB hE hN hW K hK
              have hw := UE.start hE
              obtain ⟨⟨v45, h45, r45⟩, -⟩ := hW
              clear hB hN hE
              go_simp
              exact hK (_) () _ (UE.refl _) (fun _ _ h => h) r45
            · intro a γ wx hB hE hN hW K hK
              have hw := UE.start hE
              obtain ⟨⟨v50, h50, r50⟩, -⟩ := hW
              clear hB hN hE
              go_simp
              exact hK (_) () _ (UE.refl _) (fun _ _ h => h) r50
          intro a' γ wq hB hE hK
          obtain ⟨_, h41, rfl⟩ := hK 0 (of_decide_eq_true (by kernel_rfl))
          obtain ⟨_, h42, rfl⟩ := hK 1 (of_decide_eq_true (by kernel_rfl))
          obtain ⟨_, h43, rfl⟩ := hK 2 (of_decide_eq_true (by kernel_rfl))
          obtain ⟨_, h44, rfl⟩ := hK 3 (of_decide_eq_true (by kernel_rfl))
          obtain ⟨v45, h45, r45⟩ := hK 4 (of_decide_eq_true (by kernel_rfl))
          obtain ⟨_, h46, rfl⟩ := hK 5 (of_decide_eq_true (by kernel_rfl))
          obtain ⟨_, h47, rfl⟩ := hK 6 (of_decide_eq_true (by kernel_rfl))
          obtain ⟨_, h48, rfl⟩ := hK 7 (of_decide_eq_true (by kernel_rfl))
          obtain ⟨_, h49, rfl⟩ := hK 8 (of_decide_eq_true (by kernel_rfl))
          obtain ⟨v50, h50, r50⟩ := hK 9 (of_decide_eq_true (by kernel_rfl))
          obtain ⟨v8, h8, r8⟩ := hK 10 (of_decide_eq_true (by kernel_rfl))
          obtain ⟨v9, h9, r9⟩ := hK 11 (of_decide_eq_true (by kernel_rfl))
          have ha := hB.eq [(41, .slice (some ⟨bb, off, none⟩) ts.length cl), (42, .int .i64 j), (43, .pointer (some ⟨bb, off + j * 2, none⟩)), (44, .agg #[.slice Ak t.nodes.length ck, .int .i64 t.root]), (45, v45), (46, .slice (some ⟨bb, off, none⟩) ts.length cl), (47, .int .i64 j), (48, .pointer (some ⟨bb, off + j * 2, none⟩)), (49, .agg #[.slice Ak t.nodes.length ck, .int .i64 t.root]), (50, v50), (8, v8), (9, v9)] rfl (by kernel_rfl) ⟨h41, h42, h43, h44, h45, h46, h47, h48, h49, h50, h8, h9, trivial⟩
          subst ha
          have hw := UE.start hE
          clear hK hB hE h41 h42 h43 h44 h45 h46 h47 h48 h49 h50 h8 h9
          simp only [putAll, List.foldl_cons, List.foldl_nil, List.setIfInBounds_toArray, List.set_cons_succ, List.set_cons_zero]
          have BQ := Lib.hid hw
          have HX8 := Lib.hid r8
          have HX9 := Lib.hid r9
          obtain ⟨R8, q8, e8, -⟩ := r8.at_
          obtain ⟨R9, q9, e9, -⟩ := r9.at_
          subst e8
          subst e9
          clear hw r8 r9 r45 r50 HCW
          replace HE := Lib.hid (HE.out.below BQ.out)
          replace HL := Lib.hid (HL.out.below BQ.out)
          replace K6 := Lib.hid (K6.out.below BQ.out)
          replace VT := Lib.hid (VT.out.below BQ.out)
          replace HPR := Lib.hid (HPR.out.below BQ.out)
          replace HWL := Lib.hid (HWL.out.below BQ.out)
          go_wp2_with fail
          refine Calls.mono (seqX_c (b := true) HE.out HL.out HX8.out (by have := (parts_sum t).1; have := HZ.out; omega) (by have := (parts_sum t).2; have := HZ.out; omega) (parts_back HRT.out).1) ?_
          rintro e w4 ⟨A4, c4, x4, rfl, X4, V4, B4⟩
          replace HE := Lib.hid (HE.out.below B4.out)
          replace HL := Lib.hid (HL.out.below B4.out)
          replace K6 := Lib.hid (K6.out.below B4.out)
          replace VT := Lib.hid (VT.out.below B4.out)
          replace HPR := Lib.hid (HPR.out.below B4.out)
          replace HWL := Lib.hid (HWL.out.below B4.out)
          replace HX8 := Lib.hid (HX8.out.below B4.out)
          replace HX9 := Lib.hid (HX9.out.below B4.out)
          replace X4 := Lib.hid ((X4.out.trans (parts_back HRT.out).2).trans X3.out.symm)
          replace HG := Lib.hid (ge_box (g := w4.heap.size) HG.out HE.out rfl)
          replace HN := Lib.hid (nd_box (g := w4.heap.size) HN.out HL.out rfl)
          have K10 := Lib.hid (TB.newN (g := w4.heap.size) V4.out rfl)
          replace HE := Lib.hid (HE.out.alloc (.cells #[.slice A4 x4.nodes.length c4, .int .i64 x4.root] 34))
          replace HL := Lib.hid (BL.boxN (g := w4.heap.size) HL.out (.cells #[.slice A4 x4.nodes.length c4, .int .i64 x4.root] 34) rfl)
          replace K6 := Lib.hid (TB.boxN (g := w4.heap.size) K6.out (.cells #[.slice A4 x4.nodes.length c4, .int .i64 x4.root] 34) rfl)
          replace VT := Lib.hid (RT.boxN (g := w4.heap.size) VT.out (.cells #[.slice A4 x4.nodes.length c4, .int .i64 x4.root] 34) rfl)
          replace HPR := Lib.hid (HPR.out.below (below_row _ (.cells #[.slice A4 x4.nodes.length c4, .int .i64 x4.root] 34)))
          replace HWL := Lib.hid (HWL.out.below (below_row _ (.cells #[.slice A4 x4.nodes.length c4, .int .i64 x4.root] 34)))
          replace HX8 := Lib.hid (HX8.out.below (below_row _ (.cells #[.slice A4 x4.nodes.length c4, .int .i64 x4.root] 34)))
          replace HX9 := Lib.hid (HX9.out.below (below_row _ (.cells #[.slice A4 x4.nodes.length c4, .int .i64 x4.root] 34)))
          go_wp2_with fail
          refine Calls.mono (choiceX_c (b := true) HE.out HL.out HX9.out (by have := (ways_sum HRT.out).1; have := HZ.out; omega) (by have := (ways_sum HRT.out).2; have := HZ.out; omega) (ways_back HRT.out).1) ?_
          rintro e w5 ⟨A5, c5, x5, rfl, X5, V5, B5⟩
          replace HE := Lib.hid (HE.out.below B5.out)
          replace HL := Lib.hid (HL.out.below B5.out)
          replace K6 := Lib.hid (K6.out.below B5.out)
          replace K10 := Lib.hid (K10.out.below B5.out)
          replace VT := Lib.hid (VT.out.below B5.out)
          replace HPR := Lib.hid (HPR.out.below B5.out)
          replace HWL := Lib.hid (HWL.out.below B5.out)
          replace HX8 := Lib.hid (HX8.out.below B5.out)
          replace HX9 := Lib.hid (HX9.out.below B5.out)
          replace X5 := Lib.hid ((X5.out.trans (ways_back HRT.out).2).trans X3.out.symm)
          replace HG := Lib.hid (ge_box (g := w5.heap.size) HG.out HE.out rfl)
          replace HN := Lib.hid (nd_box (g := w5.heap.size) HN.out HL.out rfl)
          have K12 := Lib.hid (TB.newN (g := w5.heap.size) V5.out rfl)
          replace HE := Lib.hid (HE.out.alloc (.cells #[.slice A5 x5.nodes.length c5, .int .i64 x5.root] 34))
          replace HL := Lib.hid (BL.boxN (g := w5.heap.size) HL.out (.cells #[.slice A5 x5.nodes.length c5, .int .i64 x5.root] 34) rfl)
          replace K6 := Lib.hid (TB.boxN (g := w5.heap.size) K6.out (.cells #[.slice A5 x5.nodes.length c5, .int .i64 x5.root] 34) rfl)
          replace K10 := Lib.hid (TB.boxN (g := w5.heap.size) K10.out (.cells #[.slice A5 x5.nodes.length c5, .int .i64 x5.root] 34) rfl)
          replace VT := Lib.hid (RT.boxN (g := w5.heap.size) VT.out (.cells #[.slice A5 x5.nodes.length c5, .int .i64 x5.root] 34) rfl)
          replace HPR := Lib.hid (HPR.out.below (below_row _ (.cells #[.slice A5 x5.nodes.length c5, .int .i64 x5.root] 34)))
          replace HWL := Lib.hid (HWL.out.below (below_row _ (.cells #[.slice A5 x5.nodes.length c5, .int .i64 x5.root] 34)))
          replace HX8 := Lib.hid (HX8.out.below (below_row _ (.cells #[.slice A5 x5.nodes.length c5, .int .i64 x5.root] 34)))
          replace HX9 := Lib.hid (HX9.out.below (below_row _ (.cells #[.slice A5 x5.nodes.length c5, .int .i64 x5.root] 34)))
          have d100 : (w5.alloc (.cells #[.slice A5 x5.nodes.length c5, .int .i64 x5.root] 34)).cell? ⟨w4.heap.size, 0, none⟩ = some (.slice A4 x4.nodes.length c4) := K10.out.blk.cell 0
          have d101 : (w5.alloc (.cells #[.slice A5 x5.nodes.length c5, .int .i64 x5.root] 34)).cell? ⟨w4.heap.size, 1, none⟩ = some (.int .i64 x4.root) := K10.out.blk.cell 1
          have d60 : (w5.alloc (.cells #[.slice A5 x5.nodes.length c5, .int .i64 x5.root] 34)).cell? ⟨w3.heap.size, 0, none⟩ = some (.slice A3 x3.nodes.length c3) := K6.out.blk.cell 0
          have d61 : (w5.alloc (.cells #[.slice A5 x5.nodes.length c5, .int .i64 x5.root] 34)).cell? ⟨w3.heap.size, 1, none⟩ = some (.int .i64 x3.root) := K6.out.blk.cell 1
          go_wp2_with fail
          clear d100 d101 d60 d61
          refine Calls.mono (is_cc HE.out K10.out.tree K6.out.tree X4.out (by rw [X4.out]; have := Z3.out; omega) rfl) ?_
          rintro e w6 ⟨rfl, B6⟩
          replace HE := Lib.hid (HE.out.below B6.out)
          replace HL := Lib.hid (HL.out.below B6.out)
          replace K6 := Lib.hid (K6.out.below B6.out)
          replace K10 := Lib.hid (K10.out.below B6.out)
          replace K12 := Lib.hid (K12.out.below B6.out)
          replace VT := Lib.hid (VT.out.below B6.out)
          replace HPR := Lib.hid (HPR.out.below B6.out)
          replace HWL := Lib.hid (HWL.out.below B6.out)
          replace HX8 := Lib.hid (HX8.out.below B6.out)
          replace HX9 := Lib.hid (HX9.out.below B6.out)
          have d120 : (w6).cell? ⟨w5.heap.size, 0, none⟩ = some (.slice A5 x5.nodes.length c5) := K12.out.blk.cell 0
          have d121 : (w6).cell? ⟨w5.heap.size, 1, none⟩ = some (.int .i64 x5.root) := K12.out.blk.cell 1
          have d60 : (w6).cell? ⟨w3.heap.size, 0, none⟩ = some (.slice A3 x3.nodes.length c3) := K6.out.blk.cell 0
          have d61 : (w6).cell? ⟨w3.heap.size, 1, none⟩ = some (.int .i64 x3.root) := K6.out.blk.cell 1
          go_wp2_with fail
          clear d120 d121 d60 d61
          refine Calls.mono (is_cc HE.out K12.out.tree K6.out.tree X5.out (by rw [X5.out]; have := Z3.out; omega) rfl) ?_
          rintro e w7 ⟨rfl, B7⟩
          replace HE := Lib.hid (HE.out.below B7.out)
          replace HL := Lib.hid (HL.out.below B7.out)
          replace K6 := Lib.hid (K6.out.below B7.out)
          replace K10 := Lib.hid (K10.out.below B7.out)
          replace K12 := Lib.hid (K12.out.below B7.out)
          replace VT := Lib.hid (VT.out.below B7.out)
          replace HPR := Lib.hid (HPR.out.below B7.out)
          replace HWL := Lib.hid (HWL.out.below B7.out)
          replace HX8 := Lib.hid (HX8.out.below B7.out)
          replace HX9 := Lib.hid (HX9.out.below B7.out)
          obtain ⟨U, hU⟩ : ∃ U, U = partsL t := ⟨_, rfl⟩
          obtain ⟨W, hW⟩ : ∃ W, W = openedL t 5 := ⟨_, rfl⟩
          have hlu : (partsL t).length ≤ 400 := Nat.le_trans (parts_sum t).2 HZ.out
          have hlw : (openedL t 5).length ≤ 400 := Nat.le_trans (ways_sum HRT.out).2 HZ.out
          have HNY := Lib.hid (fun (wr' : World) (a b : Value) (ev : Ev w wr') (pr : PR w wr' a b (P ++ partsL t) (Q ++ openedL t 5)) => HNX.out wr' a b t HTJ.out HRT.out HZ.out ev pr)
          rw [← hU] at hlu HX8 HNY ⊢
          rw [← hW] at hlw HX9 HNY ⊢
          clear hU hW
          obtain ⟨nvs3, hl3, hrow3, hns3⟩ := HPR.out.p
          obtain ⟨R8', q8', mvs8, e8, hm8, hl8, hrd8, hone8, hns8⟩ := RTrees.row HX8.out fun _ h => h.2.1
          injection e8 with e8 _ e8c
          subst e8
          subst e8c
          have HROW3 := Lib.hid hrow3
          have HRD8 := Lib.hid hrd8
          have HONE8 := Lib.hid hone8
          have HP3 := Lib.hid (fun (w3 : World) (v3 : Value) => HPR.out.push (w' := w3) (a' := v3) (us := U) hl3 hns3 hl8 hns8 (fun x hx => ⟨fun e => by have := (HRB4.out x e).2; have := hx.1; omega, hx.2.1, fun e => by have := (HRB3.out x e).2; have := hx.1; omega, hx.2.2⟩))
          have HBASE := Lib.hid HE.out.bel.size
          have hj400 : j ≤ 400 := by omega
          clear hl3 hrow3 hns3 hm8 hl8 hrd8 hone8 hns8
          go_wp2_with (first
            | (at_builtin
               refine wpList_append_any w7 rfl (.tmp 73) (.tmp 74) _ rfl w.heap.size 34 i0 _ 2 32 Tryd.underlying48 hia.out.1 hia.out.2.1 hia.out.2.2.1 hia.out.2.2.2 rfl (by omega) (.slice R3 P.length q3) P.length (treesCells P nvs3) rfl HROW3.out w7.heap.size R8 U.length q8 (treesCells U mvs8) rfl HRD8.out HONE8.out (by unfold maxLen; omega) (by omega) HBASE.out ?_
               intro v3 w3 hown3 hg3 hat3
               have hpr3 := HP3.out w3 v3 hown3 hg3 hat3
               have HG3 := Lib.hid hg3
               have HAT3 := Lib.hid hat3
               have HE3 := Lib.hid (HE.out.grown hg3 fun g e => (HRB3.out g e).1)
               have HX93 := Lib.hid (HX9.out.grown hg3 fun g e => (HRB3.out g e).2)
               obtain ⟨nvs4, hl4, hrow4, hns4⟩ := hpr3.q
               obtain ⟨R9', q9', mvs9, e9, hm9, hl9, hrd9, hone9, hns9⟩ := RTrees.row HX93.out fun b hb => Nat.lt_of_lt_of_le hb.2.1 HG3.out.size
               injection e9 with e9 _ e9c
               subst e9
               subst e9c
               have HROW4 := Lib.hid hrow4
               have HRD9 := Lib.hid hrd9
               have HONE9 := Lib.hid hone9
               have HB4 := Lib.hid HE3.out.bel.size
               have HPR3 := Lib.hid hpr3
               have HL4 := Lib.hid (And.intro hl4 hns4)
               have HL9 := Lib.hid (And.intro hl9 hns9)
               clear hown3 hg3 hat3 hpr3 hl4 hrow4 hns4 hm9 hl9 hrd9 hone9 hns9)
            | (at_builtin
               refine wpList_append_any w3 rfl (.tmp 76) (.tmp 77) _ rfl w.heap.size 34 i0 _ 2 32 Tryd.underlying48 hia.out.1 hia.out.2.1 hia.out.2.2.1 hia.out.2.2.2 rfl (by omega) (.slice R4 Q.length q4) Q.length (treesCells Q nvs4) rfl HROW4.out w3.heap.size R9 W.length q9 (treesCells W mvs9) rfl HRD9.out HONE9.out (by unfold maxLen; omega) (by omega) HB4.out ?_
               intro v4 w4 hown4 hg4 hat4)
            | fail)
          have hpr4 := (HPR3.out.swap.push (w' := w4) (a' := v4) (us := W) HL4.out.1 HL4.out.2 HL9.out.1 HL9.out.2 (fun x hx => ⟨fun e => by rcases HAT3.out with h1 | h1; exact absurd (HRB3.out x (h1 ▸ e)).2 (by have := hx.1; omega); rw [h1] at e; injection e; have := hx.2.1; omega, Nat.lt_of_lt_of_le hx.2.1 HG3.out.size, fun e => by have := (HRB4.out x e).2; have := hx.1; omega, hx.2.2⟩) hown4 hg4 hat4).swap
          go_roundw
          case rel => exact ⟨j + 1, v3, v4, rfl, rfl, by omega, by go_num, Lib.hid (HNY.out w4 v3 v4 (HE3.out.grown hg4 fun g e => (HRB4.out g e).1) hpr4)⟩
          case measure => simp [intOf]; omega
        · have HRT := Lib.hid hr
          clear hr
          refine Calls.mono (make_c (b := false) HE.out HL.out VT.out (by have := HZ.out; omega) (decide_eq_false HRT.out)) ?_
          rintro e w3 ⟨A3, c3, x3, rfl, X3, V3, B3⟩
          replace HE := Lib.hid (HE.out.below B3.out)
          replace HL := Lib.hid (HL.out.below B3.out)
          replace VT := Lib.hid (VT.out.below B3.out)
          replace HPR := Lib.hid (HPR.out.below B3.out)
          replace HG := Lib.hid (ge_box (g := w3.heap.size) HG.out HE.out rfl)
          replace HN := Lib.hid (nd_box (g := w3.heap.size) HN.out HL.out rfl)
          have K6 := Lib.hid (TB.newN (g := w3.heap.size) V3.out rfl)
          replace HE := Lib.hid (HE.out.alloc (.cells #[.slice A3 x3.nodes.length c3, .int .i64 x3.root] 34))
          replace HL := Lib.hid (BL.boxN (g := w3.heap.size) HL.out (.cells #[.slice A3 x3.nodes.length c3, .int .i64 x3.root] 34) rfl)
          replace VT := Lib.hid (RT.boxN (g := w3.heap.size) VT.out (.cells #[.slice A3 x3.nodes.length c3, .int .i64 x3.root] 34) rfl)
          replace HPR := Lib.hid (HPR.out.below (below_row _ (.cells #[.slice A3 x3.nodes.length c3, .int .i64 x3.root] 34)))
          go_wp2_with fail
          go_ret
          exact ⟨rfl, HE.out.bel⟩
      · obtain rfl : j = ts.length := by omega
        have HRA := Lib.hid (show ∀ t ∈ ts, RightT t from fun t ht => HRR.out t (by rw [List.take_length]; exact ht))
        have HPP := Lib.hid (show P = ts.flatMap partsL ∧ Q = ts.flatMap (openedL · 5) by have := HPQ.out; rwa [List.take_length] at this)
        clear HRR HPQ HNX hlt hj hlp hlq
        go_wp2_with fail
        refine Calls.mono (seqL_c (b := true) HE.out HL.out HT.out (by have := HZL.out.1; omega) (by have := HZL.out.2; omega) (by rw [ofEB_seq]; exact decide_eq_true HRA.out)) ?_
        rintro e w3 ⟨A3, c3, x3, rfl, X3, V3, B3⟩
        replace HE := Lib.hid (HE.out.below B3.out)
        replace HL := Lib.hid (HL.out.below B3.out)
        replace HPR := Lib.hid (HPR.out.below B3.out)
        have Z3 := Lib.hid (show x3.nodes.length ≤ 1000 by rw [X3.out]; have := seq_len' ts; have := HZL.out.1; omega)
        replace HG := Lib.hid (ge_box (g := w3.heap.size) HG.out HE.out rfl)
        replace HN := Lib.hid (nd_box (g := w3.heap.size) HN.out HL.out rfl)
        have K14 := Lib.hid (TB.newN (g := w3.heap.size) V3.out rfl)
        replace HE := Lib.hid (HE.out.alloc (.cells #[.slice A3 x3.nodes.length c3, .int .i64 x3.root] 34))
        replace HL := Lib.hid (BL.boxN (g := w3.heap.size) HL.out (.cells #[.slice A3 x3.nodes.length c3, .int .i64 x3.root] 34) rfl)
        replace HPR := Lib.hid (HPR.out.below (below_row _ (.cells #[.slice A3 x3.nodes.length c3, .int .i64 x3.root] 34)))
        go_wp2_with fail
        refine Calls.mono (choiceL_c (b := true) HE.out HL.out HT.out (by have := HZL.out.1; omega) (by have := HZL.out.2; omega) (by rw [ofEB_choice]; exact decide_eq_true HRA.out)) ?_
        rintro e w4 ⟨A4, c4, x4, rfl, X4, V4, B4⟩
        replace HE := Lib.hid (HE.out.below B4.out)
        replace HL := Lib.hid (HL.out.below B4.out)
        replace K14 := Lib.hid (K14.out.below B4.out)
        replace HPR := Lib.hid (HPR.out.below B4.out)
        have Z4 := Lib.hid (show x4.nodes.length ≤ 1000 by rw [X4.out]; have := choice_len' ts; have := HZL.out.1; omega)
        replace HG := Lib.hid (ge_box (g := w4.heap.size) HG.out HE.out rfl)
        replace HN := Lib.hid (nd_box (g := w4.heap.size) HN.out HL.out rfl)
        have K16 := Lib.hid (TB.newN (g := w4.heap.size) V4.out rfl)
        replace HE := Lib.hid (HE.out.alloc (.cells #[.slice A4 x4.nodes.length c4, .int .i64 x4.root] 34))
        replace HL := Lib.hid (BL.boxN (g := w4.heap.size) HL.out (.cells #[.slice A4 x4.nodes.length c4, .int .i64 x4.root] 34) rfl)
        replace K14 := Lib.hid (TB.boxN (g := w4.heap.size) K14.out (.cells #[.slice A4 x4.nodes.length c4, .int .i64 x4.root] 34) rfl)
        replace HPR := Lib.hid (HPR.out.below (below_row _ (.cells #[.slice A4 x4.nodes.length c4, .int .i64 x4.root] 34)))
        have d140 : (w4.alloc (.cells #[.slice A4 x4.nodes.length c4, .int .i64 x4.root] 34)).cell? ⟨w3.heap.size, 0, none⟩ = some (.slice A3 x3.nodes.length c3) := K14.out.blk.cell 0
        have d141 : (w4.alloc (.cells #[.slice A4 x4.nodes.length c4, .int .i64 x4.root] 34)).cell? ⟨w3.heap.size, 1, none⟩ = some (.int .i64 x3.root) := K14.out.blk.cell 1
        go_wp2_with fail
        clear d140 d141
        refine Calls.mono (parts_c HE.out K14.out.tree (by have := Z3.out; omega)) ?_
        rintro e w5 ⟨u97, rfl, HU, B5⟩
        replace HE := Lib.hid (HE.out.below B5.out)
        replace HL := Lib.hid (HL.out.below B5.out)
        replace K14 := Lib.hid (K14.out.below B5.out)
        replace K16 := Lib.hid (K16.out.below B5.out)
        replace HPR := Lib.hid (HPR.out.below B5.out)
        go_wp2_with fail
        refine Calls.mono (exact_c HU.out HPR.out.p.reads_ (by rw [X3.out, parts_of_seq HRA.out, HPP.out.1]) (fun t ht => by have h1 := sum_mem ht; have h2 := (parts_sum x3).1; have := Z3.out; omega)) ?_
        rintro e w6 ⟨rfl, B6⟩
        replace HE := Lib.hid (HE.out.below B6.out)
        replace HL := Lib.hid (HL.out.below B6.out)
        replace K14 := Lib.hid (K14.out.below B6.out)
        replace K16 := Lib.hid (K16.out.below B6.out)
        replace HPR := Lib.hid (HPR.out.below B6.out)
        by_cases h0 : ts.length = 0
        · have h00 : (ts.length : Int) = 0 := by omega
          go_wp2_with fail
          go_ret
          exact ⟨rfl, HE.out.bel⟩
        · have h01 : ¬ (ts.length : Int) = 0 := by omega
          have HNE := Lib.hid (show ts ≠ [] from fun e => h0 (by rw [e]; rfl))
          have d160 : (w6).cell? ⟨w4.heap.size, 0, none⟩ = some (.slice A4 x4.nodes.length c4) := K16.out.blk.cell 0
          have d161 : (w6).cell? ⟨w4.heap.size, 1, none⟩ = some (.int .i64 x4.root) := K16.out.blk.cell 1
          go_wp2_with fail
          clear d160 d161
          refine Calls.mono (ways_c HE.out K16.out.tree (by have := Z4.out; omega)) ?_
          rintro e w7 ⟨u107, rfl, HU2, B7⟩
          replace HE := Lib.hid (HE.out.below B7.out)
          replace HL := Lib.hid (HL.out.below B7.out)
          replace K14 := Lib.hid (K14.out.below B7.out)
          replace K16 := Lib.hid (K16.out.below B7.out)
          replace HPR := Lib.hid (HPR.out.below B7.out)
          go_wp2_with fail
          have HWS := Lib.hid (ways_sum (show RightT x4 by rw [X4.out]; exact choice_right HRA.out))
          refine Calls.mono (exact_c HU2.out HPR.out.q.reads_ (by rw [X4.out, ways_of_choice HRA.out HNE.out, HPP.out.2]) (fun t ht => by have h1 := sum_mem ht; have h2 := HWS.out.1; have := Z4.out; omega)) ?_
          rintro e w8 ⟨rfl, B8⟩
          replace HE := Lib.hid (HE.out.below B8.out)
          replace HL := Lib.hid (HL.out.below B8.out)
          replace K14 := Lib.hid (K14.out.below B8.out)
          replace K16 := Lib.hid (K16.out.below B8.out)
          replace HPR := Lib.hid (HPR.out.below B8.out)
          go_wp2_with fail
          go_ret
          exact ⟨rfl, HE.out.bel⟩
  · go_wp2_with fail
    refine Calls.mono (awake_c HE.out) ?_
    rintro e w2 ⟨rfl, B2⟩
    replace HE := Lib.hid (HE.out.below B2.out)
    replace HL := Lib.hid (HL.out.below B2.out)
    go_wp2_with fail
    go_ret
    exact ⟨rfl, HE.out.bel⟩
end Go.Proofs.YtclfpjfjebheoaaDoor
/- ExprParts: for every input the law answers true and the input reads as it did (the tied card: the listed package variables lie as their text lays them). No other condition. -/
namespace Go.Proofs.YtclfpjfjebheoaaDoor.ExprParts
open Go.ChangeShapes Go.WideShapes Go.ChangeAt Go.RowKit Go.ChangeMaps Go.WideElems

theorem own : ownKnob Tryd.prog.godebug = none := by kernel_rfl
theorem laidOut : laidOutB Tryd.prog = true := by kernel_rfl
theorem laid_data : Rows.exprPartsRow.laid.filter (fun x => x.2.handleName?.isNone) = [("bonsai/tree.kids", Rows.laid_bonsai_tree_kids)] := by rfl
theorem prem_of {W : World} (h : laidMetH Tryd.prog Rows.exprPartsRow.laid W) : KTab W ∧ TogTab W := ⟨ktab_of (rest := []) (laid_data ▸ (laidMetH_iff.1 h).1), tog_of h (List.mem_cons_of_mem _ (List.mem_singleton.2 rfl))⟩

set_option maxRecDepth 8000 in
theorem contract (H : Type) (enc : TypeId × Value → H) (W : World) (base : Nat) (args : Array Value) (ds gs : List (DataW H)) (before : List MemPlace)
    (hval : ∀ (j : Nat) t v, Tryd.f6.params[j]? = some t → args[j]? = some v → Value.okWide Tryd.prog W .any base t v)
    (hW : DataW.Whole enc Tryd.prog Tryd.f6.params.toList Rows.exprPartsSpec.vars false W args.toList ds gs before) (hL : laidMetH Tryd.prog Rows.exprPartsRow.laid W) :
    Calls Tryd.prog 6 args W fun e W' => ∃ v, e = .returned v ∧ Rows.exprPartsSpec.post enc Tryd.prog Tryd.f6 false true false false W args v W' := by
  have hW' := hW
  have hlt : ∀ x ∈ before, x.block < W.heap.size := fun x hx => hW.lt x hx
  obtain ⟨p, q, hA0, hV, rfl, hfz, hnd⟩ := hW
  have hA : DataW.TrodAll enc Tryd.prog W 0 (fun _ => true) true Tryd.f6.params.toList args.toList ds p := hA0
  rw [Tryd.params6] at hA hval
  obtain ⟨v0, vs0, d0, ds0, p0, q0, hargs, rfl, rfl, h0, r0⟩ := trodAll_cons hA
  obtain ⟨rfl, rfl, rfl⟩ := trodAll_nil r0
  obtain rfl : args = #[v0] := by cases args; simp_all
  obtain ⟨rfl, rfl⟩ := trodVars_none hV
  obtain ⟨t0, w0⟩ := open_trees (hval 0 48 v0 rfl rfl) h0
  clear hA0
  refine (lexprparts_any t0 v0 W w0 (prem_of hL).1 (prem_of hL).2).mono fun e W' ⟨he, hb⟩ => ?_
  subst he
  exact ⟨_, rfl, post_true laidOut (by kernel_rfl) (by kernel_rfl) Tryd.underlying4 rfl rfl rfl rfl hW' hb⟩

noncomputable def laidWorld (os : Os) : World :=
  (setTab (setTab (World.holding Tryd.prog os ⟨#[], #[], []⟩) 1 (kidsTab.map (Value.int .i64))) 2 (togFns.map fun f => Value.func (.func f) #[] #[]))
theorem laid_met (os : Os) : laidMetH Tryd.prog Rows.exprPartsRow.laid ((laidWorld os).forCall (fun _ _ => 0) ⟨#[], #[.slice none 0 0], []⟩).memory :=
  laidMetH_of_parts3 (fuel := 8) (laidMet_of_run' 8 (by kernel_rfl) (by kernel_rfl)) (by kernel_rfl) (by kernel_rfl)
theorem reads (os : Os) {H : Type} (enc : TypeId × Value → H) : ∃ places, DataW.whole enc Tryd.prog ((laidWorld os).forCall (fun _ _ => 0) ⟨#[], #[.slice none 0 0], []⟩).memory Tryd.f6.params.toList Rows.exprPartsSpec.vars false #[Value.slice none 0 0].toList 8 = some ([.nil], [], places) :=
  ⟨[], by kernel_rfl⟩

set_option maxRecDepth 100000 in
theorem lifted (os : Os) (started : os.Started) (H : Type) (enc : TypeId × Value → H) (F : Stop.Interp) :
    ReturnsInHanded {} Tryd.checked os 6 .any ((OpenSpec.ofChange Rows.exprPartsSpec).preRow enc Tryd.prog Tryd.f6 Rows.exprPartsRow.domain false Rows.exprPartsRow.laid) (((OpenSpec.ofChange Rows.exprPartsSpec).at F).post enc Tryd.prog Tryd.f6 false true false false) := by
  obtain ⟨places, hx⟩ := reads os enc
  refine returnsInHanded_of_row (C := Tryd.checked) (s := OpenSpec.ofChange Rows.exprPartsSpec) own started (by kernel_rfl) Tryd.func6
    (witness_row_at (enc := enc) (C := Tryd.checked) false (laidWorld os) #[.slice none 0 0] rfl (by kernel_rfl) (by kernel_rfl) (by kernel_rfl)
      (OpenSpec.preRow_of_cond 8 hx (by kernel_rfl) (fun k hk => by cases hk) (by kernel_rfl) (laid_met os))) ?_
  intro W base args ds gs before hval hW _ _ _ hL _ _
  exact contract H enc W base args ds gs before hval hW hL

theorem said : Rows.ExprPartsSaid :=
  OpenClaim.holds_of_cond 6 Tryd.f6 rfl rfl rfl rfl rfl rfl rfl ⟨rfl, rfl, rfl, rfl, rfl⟩ rfl rfl rfl rfl rfl (by kernel_rfl) Tryd.func6 (by kernel_rfl)
    (of_decide_eq_true (by kernel_rfl)) (by unfold Func.isWrapper; first | (rw [if_pos (by decide +kernel)]; kernel_rfl) | (rw [if_neg (by decide +kernel)]; exact ⟨rfl, rfl⟩))
    (fun os started H enc _ F => by rw [OpenClaim.pre_eq_preRow]; exact lifted os started H enc F)

theorem plain (f : FuncId) (fn : Func) (hf : Tryd.pinned.checked.prog.funcNamed "bonsai/bonsailaw05.ExprParts" = some f) (hfn : Tryd.pinned.checked.prog.funcs[f]? = some fn) :
    false = Tryd.pinned.checked.prog.looks [] ∧ ∀ (j : Nat) t, fn.params[j]? = some t → Tryd.pinned.checked.prog.wantsStandIn t = false := by
  obtain rfl : f = 6 := Option.some.inj ((show Tryd.prog.funcNamed "bonsai/bonsailaw05.ExprParts" = some 6 by kernel_rfl).symm.trans hf) |>.symm
  obtain rfl : fn = Tryd.f6 := (Option.some.inj (Tryd.func6.symm.trans hfn)).symm
  refine ⟨by kernel_rfl, fun j t ht => ?_⟩
  have hall : Tryd.f6.params.toList.all (fun t => Tryd.prog.wantsStandIn t == false) = true := by kernel_rfl
  have := List.all_eq_true.1 hall t (Array.mem_toList_iff.2 (Array.mem_of_getElem? ht))
  exact eq_of_beq this

/-- THE CARD. -/
theorem card : Rows.ExprPartsCardSaid :=
  Claim7.holds_tied_plain_at .later [] _ _ _ _ said (fun _ h => by cases h) (by kernel_rfl) (fun _ h => by cases h) exprParts_row_tie rfl ⟨rfl, rfl⟩ (by kernel_rfl) rfl plain (by kernel_rfl)
end Go.Proofs.YtclfpjfjebheoaaDoor.ExprParts

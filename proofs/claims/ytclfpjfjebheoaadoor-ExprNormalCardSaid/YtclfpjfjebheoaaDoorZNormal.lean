/- ExprNormal: for every input the law answers true and the input reads as it did (the tied card: the listed package variables lie as their text lays them). No other condition. -/
import Derived.Test.YtclfpjfjebheoaaDoorP4
import Derived.Test.YtclfpjfjebheoaaDoorCards
import Derived.Test.YtclfpjfjebheoaaDoorTie
import Derived.LaidHandle
import Derived.LaidSub
/- Heads, tails, and what is made, in plain Lean; and the calls that laws make of them. -/
namespace Go.Proofs.YtclfpjfjebheoaaDoor
set_option linter.unusedSimpArgs false
open Go.RowKit
open Classical

theorem openK_id {k z : Int} {L : List T} (h : ∀ x ∈ L, x.d.kind ≠ k ∧ x.d.kind ≠ z) : openK k z L = L := by
  induction L with
  | nil => rfl
  | cons a L ih =>
    have ha := h a (by simp)
    rw [openK_cons, ih fun x hx => h x (by simp [hx])]
    show (List.flatMap _ [a]) ++ L = _
    simp [ha.1, ha.2]
theorem map_nf_id {L : List T} (hf : ∀ x ∈ L, FitT x) (hn : ∀ x ∈ L, NT x) : L.map nf = L := by
  conv => rhs; rw [← List.map_id L]
  exact List.map_congr_left fun x hx => nf_id x (hf x hx) (hn x hx)
theorem S_kids {u : T} (hf : FitT u) (hn : NT u) (h4 : u.d.kind = 4) : S u.kids = u := by
  cases hn with
  | node d ks hk h4' _ =>
    simp only [T.kids, T.d] at *
    obtain ⟨rfl, h2⟩ := fits_four hf.fit h4
    unfold S
    rw [show ks.map nf = ks from map_nf_id (fun x hx => hf.kids x hx) hk, openK_id (h4' rfl)]
    exact coll_many _ _ (by simp only [T.kids] at h2; omega)
theorem S_one {u : T} (hf : FitT u) (hn : NT u) (h4 : u.d.kind ≠ 4) (h0 : u.d.kind ≠ 0) : S [u] = u := by
  unfold S
  rw [List.map_cons, List.map_nil, nf_id u hf hn, openK_id (by simp [h4, h0])]
  rfl
theorem NT.kids4 {u : T} (hn : NT u) (h4 : u.d.kind = 4) : ∀ k ∈ u.kids, k.d.kind ≠ 4 ∧ k.d.kind ≠ 0 := by
  cases hn with
  | node d ks _ h _ => exact h h4
/-- A tree with a head: its parts. -/
theorem parts_some {t : Tr} (hr : RightT t) (h0 : (nf (treeOf t)).d.kind ≠ 0) :
    ∃ k ks, partsL t = (k :: ks).map flatT ∧ (∀ x ∈ k :: ks, FitT x ∧ NT x ∧ x.d.kind ≠ 4 ∧ x.d.kind ≠ 0) ∧ S (k :: ks) = nf (treeOf t) ∧ sizes (k :: ks) ≤ t.nodes.length := by
  have hf := nf_fit _ hr.fitT
  have hn := nf_nt (treeOf t)
  have hs := nf_size (treeOf t)
  rw [hr.size] at hs
  unfold partsL
  rw [if_pos hr]
  by_cases h4 : (nf (treeOf t)).d.kind = 4
  · rw [if_pos h4]
    have h2 := (fits_four hf.fit h4).2
    have hS := S_kids hf hn h4
    have h3 := size_kids (nf (treeOf t))
    match hk : (nf (treeOf t)).kids, h2 with
    | [], h2 => simp at h2
    | k :: ks, _ =>
      rw [hk] at hS h3
      exact ⟨k, ks, rfl, fun x hx => ⟨hf.kids x (hk ▸ hx), hn.kids x (hk ▸ hx), hn.kids4 h4 x (hk ▸ hx)⟩, hS, by omega⟩
  · rw [if_neg h4, if_neg h0]
    refine ⟨nf (treeOf t), [], ?_, fun x hx => ?_, S_one hf hn h4 h0, by simp [sizes]; omega⟩
    · unfold nfTr; rw [if_pos hr]; rfl
    · simp at hx; subst hx; exact ⟨hf, hn, h4, h0⟩
theorem parts_none {t : Tr} (h : RightT t → (nf (treeOf t)).d.kind = 0) : partsL t = [] := by
  unfold partsL
  by_cases hr : RightT t
  · rw [if_pos hr, if_neg (by rw [h hr]; decide), if_pos (h hr)]
  · rw [if_neg hr]
theorem head_none {t : Tr} (h : RightT t → (nf (treeOf t)).d.kind = 0) : headB t = false ∧ tailB t = false ∧ headT t = zeroT ∧ tailT t = zeroT := by
  have hp := parts_none h
  unfold headB tailB headT tailT
  rw [hp]
  simp
theorem head_some {t : Tr} (hr : RightT t) (h0 : (nf (treeOf t)).d.kind ≠ 0) : headB t = true ∧ tailB t = true ∧ ∃ k u, headT t = flatT k ∧ tailT t = flatT u ∧ FitT k ∧ NT k ∧ k.d.kind ≠ 4 ∧ k.d.kind ≠ 0 ∧ FitT u ∧ NT u ∧
    ofET seqD [headT t, tailT t] = nfTr t ∧ k.size ≤ t.nodes.length ∧ u.size ≤ 1 + t.nodes.length := by
  obtain ⟨k, ks, hp, hx, hS, hz⟩ := parts_some hr h0
  have hks : ∀ x ∈ ks, FitT x := fun x hm => (hx x (by simp [hm])).1
  have hfl := seq_flat hks
  have hk := hx k (by simp)
  have e1 : headB t = true := by unfold headB; rw [hp]; exact decide_eq_true (by simp)
  have e2 : headT t = flatT k := by unfold headT; rw [hp]; rfl
  have e3 : tailB t = true := by
    unfold tailB; rw [hp]
    simp only [List.map_cons, List.tail_cons]
    rw [hfl.2]; simp
  have e4 : tailT t = flatT (S ks) := by
    unfold tailT; rw [hp]
    simp only [List.map_cons, List.tail_cons]
    rw [hfl.1]; simp
  refine ⟨e1, e3, k, S ks, e2, e4, hk.1, hk.2.1, hk.2.2.1, hk.2.2.2, S_fit hks, S_nt ks, ?_, ?_, ?_⟩
  · have hr1 : ∀ x ∈ ks.map flatT, RightT x := flats_right hks
    rw [e2, e4, ← hfl.1, show [flatT k, ofET seqD (ks.map flatT)] = [flatT k] ++ [ofET seqD (ks.map flatT)] from rfl, seq_right_ (by simp [right_flat hk.1]) hr1]
    have := seq_flat (L := k :: ks) fun x hm => (hx x hm).1
    rw [show [flatT k] ++ ks.map flatT = (k :: ks).map flatT from rfl, this.1, hS]
    unfold nfTr; rw [if_pos hr]
  · simp only [sizes] at hz; omega
  · have := S_size ks
    simp only [sizes] at hz; omega
theorem nfTr_flat {u : T} (hf : FitT u) (hn : NT u) : nfTr (flatT u) = flatT u := by
  unfold nfTr; rw [if_pos (right_flat hf), treeOf_flat, nf_id u hf hn]
theorem same_refl {x : Tr} (h : RightT x) : SameT x x := ⟨h, h, rfl⟩
theorem normal_flat {u : T} (hf : FitT u) (hn : NT u) : decide (RightT (flatT u) ∧ SameT (nfTr (flatT u)) (flatT u)) = true :=
  decide_eq_true ⟨right_flat hf, by rw [nfTr_flat hf hn]; exact same_refl (right_flat hf)⟩
/-- What a call leaves that gives a tree and whether it could. -/
def TP (y : Tr) (b : Bool) (bs : List Nat) (w : World) (e : Ending) (w' : World) : Prop :=
  ∃ A c x, e = .returned (.tuple #[.agg #[.slice A x.nodes.length c, .int .i64 x.root], .bool b]) ∧ Hid (x = y) ∧ Hid (RT w' bs A c x) ∧ Hid (Below w.heap.size w w')
theorem tp {y : Tr} {b b' : Bool} {bs : List Nat} {w : World} {e : Ending} {w' : World} (hl : BL w bs) (h : ∃ u, e = .returned (.tuple #[u, .bool b']) ∧ XTree w' (fun b => w.heap.size ≤ b) u y ∧ Below w.heap.size w w') (hb : b' = b) : TP y b bs w e w' := by
  obtain ⟨u, rfl, hu, hb'⟩ := h
  obtain ⟨A, c, rfl⟩ := hu.agg
  exact ⟨A, c, _, by rw [hb], Lib.hid rfl, Lib.hid (RT.of_x hu hl), Lib.hid hb'⟩
section
variable {w0 w : World} {bs : List Nat} {A A2 : Option Addr} {c c2 g : Nat} {x y : Tr} {b : Bool}
theorem make_c (hE : Ev w0 w) (hl : BL w bs) (h1 : RT w bs A c x) (hs : x.nodes.length ≤ 100000) (hb : decide (RightT x) = b) : Calls Tryd.prog 23 #[.agg #[.slice A x.nodes.length c, .int .i64 x.root]] w (TP (nfTr x) b bs w) :=
  (Make_g x _ _ w (h1.givenE hE hs)).mono fun e w' h => tp hl h hb
theorem head_c (hE : Ev w0 w) (hl : BL w bs) (h1 : RT w bs A c x) (hs : x.nodes.length ≤ 100000) (hb : headB x = b) : Calls Tryd.prog 39 #[.agg #[.slice A x.nodes.length c, .int .i64 x.root]] w (TP (headT x) b bs w) :=
  (Head_g (h1.givenE hE hs)).mono fun e w' h => tp hl h hb
theorem tail_c (hE : Ev w0 w) (hl : BL w bs) (h1 : RT w bs A c x) (hs : x.nodes.length ≤ 100000) (hb : tailB x = b) : Calls Tryd.prog 40 #[.agg #[.slice A x.nodes.length c, .int .i64 x.root]] w (TP (tailT x) b bs w) :=
  (Tail_g (h1.givenE hE hs)).mono fun e w' h => tp hl h hb
theorem normal_c (hE : Ev w0 w) (h1 : RT w bs A c x) (hs : x.nodes.length ≤ 100000) (hb : decide (RightT x ∧ SameT (nfTr x) x) = b) : Calls Tryd.prog 42 #[.agg #[.slice A x.nodes.length c, .int .i64 x.root]] w fun e w' => e = .returned (.bool b) ∧ Hid (Below w.heap.size w w') :=
  (Normal_g (h1.givenE hE hs)).mono fun e w' ⟨he, h⟩ => ⟨by rw [he, hb], Lib.hid h⟩
theorem root_c (hE : Ev w0 w) (h1 : RT w bs A c x) (hs : x.nodes.length ≤ 500000) : Calls Tryd.prog 41 #[.agg #[.slice A x.nodes.length c, .int .i64 x.root]] w fun e w' =>
    ∃ k a1 a2 a3 a4 a5 a6 a7 a8, e = .returned (.agg #[.int .u8 k, a1, a2, a3, a4, a5, a6, a7, a8]) ∧ Hid (k = (rootOf x).d.kind) ∧ Hid (Below w.heap.size w w') :=
  (Root_g (h1.given hE hs)).mono fun e w' ⟨⟨N, he, hN⟩, h⟩ => ⟨N.d.kind, _, _, _, _, _, _, _, _, he, Lib.hid (by rw [hN]), Lib.hid h⟩
end
end Go.Proofs.YtclfpjfjebheoaaDoor
/- What is made, in plain Lean; calls over a row of trees that was handed in. -/
namespace Go.Proofs.YtclfpjfjebheoaaDoor
set_option linter.unusedSimpArgs false
open Go.RowKit
open Classical

/-- What Make, Seq, Choice leave: normal, clean; or nothing. -/
structure Made (x : Tr) (b : Bool) : Prop where
  yes : b = true → ∃ n, x = flatT n ∧ FitT n ∧ NT n
  no : b = false → x.nodes.length = 0
theorem made_make (t : Tr) : Made (nfTr t) (decide (RightT t)) := by
  unfold nfTr
  by_cases h : RightT t
  · rw [if_pos h, decide_eq_true h]
    exact ⟨fun _ => ⟨_, rfl, nf_fit _ h.fitT, nf_nt _⟩, fun h => by cases h⟩
  · rw [if_neg h, decide_eq_false h]
    exact ⟨fun h => (by cases h), fun _ => rfl⟩
theorem made_seq (ts : List Tr) : Made (ofET seqD ts) (ofEB seqD ts) := by
  by_cases h : ∀ t ∈ ts, RightT t
  · rw [ofET_seq h, ofEB_seq, decide_eq_true h]
    exact ⟨fun _ => ⟨_, rfl, S_fit (rights_treeOf h), S_nt _⟩, fun h => by cases h⟩
  · rw [ofEB_seq, decide_eq_false h]
    unfold ofET
    rw [if_neg fun hh => h hh.1]
    exact ⟨fun h => (by cases h), fun _ => rfl⟩
theorem made_choice (ts : List Tr) : Made (ofET choiceD ts) (ofEB choiceD ts) := by
  by_cases h : ∀ t ∈ ts, RightT t
  · rw [ofET_choice h, ofEB_choice, decide_eq_true h]
    exact ⟨fun _ => ⟨_, rfl, C_fit (rights_treeOf h), C_nt _⟩, fun h => by cases h⟩
  · rw [ofEB_choice, decide_eq_false h]
    unfold ofET
    rw [if_neg fun hh => h hh.1]
    exact ⟨fun h => (by cases h), fun _ => rfl⟩
theorem seq_len' (ts : List Tr) : (ofET seqD ts).nodes.length ≤ 1 + (ts.map (·.nodes.length)).sum := by
  by_cases h : ∀ t ∈ ts, RightT t
  · exact seq_len h
  · unfold ofET
    rw [if_neg fun hh => h hh.1]
    exact Nat.zero_le _
theorem choice_len' (ts : List Tr) : (ofET choiceD ts).nodes.length ≤ 1 + (ts.map (·.nodes.length)).sum := by
  by_cases h : ∀ t ∈ ts, RightT t
  · exact choice_len h
  · unfold ofET
    rw [if_neg fun hh => h hh.1]
    exact Nat.zero_le _
theorem Made.right {x : Tr} (h : Made x true) : RightT x := by
  obtain ⟨n, rfl, hf, hn⟩ := h.yes rfl
  exact right_flat hf
theorem Made.nf {x : Tr} (h : Made x true) : nfTr x = x := by
  obtain ⟨n, rfl, hf, hn⟩ := h.yes rfl
  exact nfTr_flat hf hn
theorem Made.normal {x : Tr} (h : Made x true) : decide (RightT x ∧ SameT (nfTr x) x) = true := by
  obtain ⟨n, rfl, hf, hn⟩ := h.yes rfl
  exact normal_flat hf hn
theorem Made.clean {x : Tr} (h : Made x true) : cleanOf x = x := by
  obtain ⟨n, rfl, hf, hn⟩ := h.yes rfl
  unfold cleanOf
  rw [if_pos (right_flat hf), treeOf_flat]
section
variable {w0 w : World} {bs : List Nat} {A A2 : Option Addr} {c c2 g : Nat} {x y : Tr} {b : Bool} {v : Value} {ts : List Tr}
theorem listE (hE : Ev w0 w) (h : RTrees w0 (fun b => b < w0.heap.size) v ts) (hs : (ts.map (·.nodes.length)).sum ≤ 100000) (hf : ts.length ≤ 100000) : GivenEL ts v (fun b => b < w0.heap.size) w :=
  ⟨h.below hE.bel (fun _ h => h), fun b hb => Nat.lt_of_lt_of_le hb hE.bel.size, hE.ktab, hE.tog, hs, hf⟩
theorem seqL_c (hE : Ev w0 w) (hl : BL w bs) (h : RTrees w0 (fun b => b < w0.heap.size) v ts) (hs : (ts.map (·.nodes.length)).sum ≤ 100000) (hf : ts.length ≤ 100000) (hb : ofEB seqD ts = b) : Calls Tryd.prog 20 #[v] w (TP (ofET seqD ts) b bs w) :=
  (Seq_g (listE hE h hs hf)).mono fun e w' h => tp hl h hb
theorem choiceL_c (hE : Ev w0 w) (hl : BL w bs) (h : RTrees w0 (fun b => b < w0.heap.size) v ts) (hs : (ts.map (·.nodes.length)).sum ≤ 100000) (hf : ts.length ≤ 100000) (hb : ofEB choiceD ts = b) : Calls Tryd.prog 22 #[v] w (TP (ofET choiceD ts) b bs w) :=
  (Choice_g (listE hE h hs hf)).mono fun e w' h => tp hl h hb
theorem largeL_c (hE : Ev w0 w) (h : RTrees w0 (fun b => b < w0.heap.size) v ts) : Calls Tryd.prog 18 #[v] w (GPost ts w) :=
  (large_g (h.below hE.bel (fun _ h => h)) (fun b hb => Nat.lt_of_lt_of_le hb hE.bel.size)).mono fun e w' ⟨r, he, hs, hb⟩ => ⟨r, he, Lib.hid hs, Lib.hid hb⟩
theorem clean_c (hE : Ev w0 w) (hl : BL w bs) (h1 : RT w bs A c x) (hs : x.nodes.length ≤ 100000) : Calls Tryd.prog 44 #[.agg #[.slice A x.nodes.length c, .int .i64 x.root]] w (UPost (cleanOf x) bs w) := by
  refine (Clean_g (h1.given hE (by omega))).mono fun e w' ⟨u, he, hu, hb⟩ => upost (Below.refl _ _) hl ⟨u, he, ?_, hb⟩
  refine XTree.of_own hu ?_ ?_ <;> unfold cleanOf <;> split
  · rename_i hr
    have := (flat_root (treeOf x) (by rw [hr.size]; omega)).1; omega
  · simp [zeroT]
  · rename_i hr
    have := (flat_root (treeOf x) (by rw [hr.size]; omega)).2; omega
  · simp [zeroT]
theorem rightb_c (hE : Ev w0 w) (h1 : RT w bs A c x) (hs : x.nodes.length ≤ 500000) (hb : decide (RightT x) = b) : Calls Tryd.prog 16 #[.agg #[.slice A x.nodes.length c, .int .i64 x.root]] w fun e w' => e = .returned (.bool b) ∧ Hid (Below w.heap.size w w') :=
  (right_c hE h1 hs).mono fun e w' ⟨he, h⟩ => ⟨by rw [he, hb], h⟩
theorem same_c (hE : Ev w0 w) (h1 : RT w bs A c x) (h2 : RT w bs A2 c2 y) (hs : x.nodes.length ≤ 500000) (hs2 : y.nodes.length ≤ 500000) (hb : decide (SameT x y) = b) :
    Calls Tryd.prog 43 #[.agg #[.slice A x.nodes.length c, .int .i64 x.root], .agg #[.slice A2 y.nodes.length c2, .int .i64 y.root]] w fun e w' => e = .returned (.bool b) ∧ Hid (Below w.heap.size w w') :=
  (Same_g (h1.given hE hs) (h2.given hE hs2)).mono fun e w' ⟨he, h⟩ => ⟨by rw [he, hb], Lib.hid h⟩
end
/-- What lies in a row of three made trees, each with whether it could be made. -/
structure Row3 (w : World) (bs : List Nat) (g k : Nat) (A : Option Addr) (c : Nat) (x : Tr) (b : Bool) : Prop where
  c0 : w.cell? ⟨g, k * 3, none⟩ = some (.slice A x.nodes.length c)
  c1 : w.cell? ⟨g, k * 3 + 1, none⟩ = some (.int .i64 x.root)
  c2 : w.cell? ⟨g, k * 3 + 2, none⟩ = some (.bool b)
  lt : g < w.heap.size
  tree : RT w bs A c x
  made : Made x b
  size : x.nodes.length ≤ 1000
theorem Row3.below {w w' : World} {bs : List Nat} {g k : Nat} {A : Option Addr} {c : Nat} {x : Tr} {b : Bool} (h : Row3 w bs g k A c x b) (hb : Below w.heap.size w w') : Row3 w' bs g k A c x b :=
  ⟨(hb.cell (p := ⟨g, k * 3, none⟩) h.lt).trans h.c0, (hb.cell (p := ⟨g, k * 3 + 1, none⟩) h.lt).trans h.c1, (hb.cell (p := ⟨g, k * 3 + 2, none⟩) h.lt).trans h.c2, Nat.lt_of_lt_of_le h.lt hb.size, h.tree.below hb, h.made, h.size⟩
theorem rows3 {w' : World} {bs : List Nat} {g : Nat} {ty : TypeId} {A1 A2 A3 : Option Addr} {c1 c2 c3 : Nat} {x y z : Tr} {b1 b2 b3 : Bool} (hB : Blk w' g ty #[.slice A1 x.nodes.length c1, .int .i64 x.root, .bool b1, .slice A2 y.nodes.length c2, .int .i64 y.root, .bool b2, .slice A3 z.nodes.length c3, .int .i64 z.root, .bool b3])
    (h1 : RT w' bs A1 c1 x) (h2 : RT w' bs A2 c2 y) (h3 : RT w' bs A3 c3 z) (m1 : Made x b1) (m2 : Made y b2) (m3 : Made z b3) (s1 : x.nodes.length ≤ 1000) (s2 : y.nodes.length ≤ 1000) (s3 : z.nodes.length ≤ 1000) :
    ∀ k, k < 3 → ∃ A c x b, Row3 w' bs g k A c x b := by
  intro k hk
  match k, hk with
  | 0, _ => exact ⟨A1, c1, x, b1, hB.cell 0, hB.cell 1, hB.cell 2, hB.lt, h1, m1, s1⟩
  | 1, _ => exact ⟨A2, c2, y, b2, hB.cell 3, hB.cell 4, hB.cell 5, hB.lt, h2, m2, s2⟩
  | 2, _ => exact ⟨A3, c3, z, b3, hB.cell 6, hB.cell 7, hB.cell 8, hB.lt, h3, m3, s3⟩
end Go.Proofs.YtclfpjfjebheoaaDoor
/- The law ExprNormal, walked: it answers true. -/
namespace Go.Proofs.YtclfpjfjebheoaaDoor
set_option linter.unusedSimpArgs false
open Go.RowKit
open Classical

noncomputable def allR (ts : List Tr) : Bool := decide (∀ t ∈ ts, RightT t)
theorem allR_iff {ts : List Tr} : allR ts = true ↔ ∀ t ∈ ts, RightT t := by unfold allR; simp
theorem take_right {ts : List Tr} {j : Nat} {t : Tr} (h : ts[j]? = some t) : allR (ts.take (j + 1)) = (allR (ts.take j) && decide (RightT t)) := by
  rw [Bool.eq_iff_iff, Bool.and_eq_true, allR_iff, allR_iff, decide_eq_true_eq, List.take_add_one, h]
  constructor
  · intro hh
    exact ⟨fun x hx => hh x (List.mem_append.2 (.inl hx)), hh t (List.mem_append.2 (.inr (by simp)))⟩
  · rintro ⟨h1, h2⟩ x hx
    rcases List.mem_append.1 hx with hx | hx
    · exact h1 x hx
    · simp at hx; subst hx; exact h2
theorem seq_allR (ts : List Tr) : ofEB seqD ts = allR ts := by
  rw [Bool.eq_iff_iff, allR_iff, ofEB_seq, decide_eq_true_iff]
theorem choice_allR (ts : List Tr) : ofEB choiceD ts = allR ts := by
  rw [Bool.eq_iff_iff, allR_iff, ofEB_choice, decide_eq_true_iff]
set_option maxRecDepth 20000 in
set_option maxHeartbeats 8000000 in
theorem lexprnormal_any (ta : Tr) (ts : List Tr) (va vl : Value) (w : World) (ha : HasT w va ta) (hts : RTrees w (fun b => b < w.heap.size) vl ts) (hk : KTab w) (ht : TogTab w) : Calls Tryd.prog 9 #[va, vl] w (TruePost w) := by
  obtain ⟨na, rfl, hna, -⟩ := id ha
  obtain ⟨Aa, ca, rfl, -⟩ := hna.at_
  obtain ⟨Al, cl, rfl, -, hsl, -⟩ := hts.at_
  have HT := Lib.hid hts
  have Va : Hid (RT w [] Aa ca ta) := Lib.hid (RT.old ha)
  have HE : Hid (Ev w w) := Lib.hid ⟨Below.refl _ _, hk, ht⟩
  have HL : Hid (BL w []) := Lib.hid (BL.nil w)
  have HG : Hid (∀ b ∈ ([] : List Nat), w.heap.size ≤ b) := Lib.hid (fun b hm => by cases hm)
  have HN : Hid (([] : List Nat).Nodup) := Lib.hid List.nodup_nil
  obtain ⟨q, hq⟩ : ∃ q, q = allR ts := ⟨_, rfl⟩
  have HQ := Lib.hid hq
  clear ha hna hk ht hts hq
  go_enter Tryd.func9, Tryd.ntmps9
  replace HG := Lib.hid (ge_box (g := w.heap.size) HG.out HE.out rfl)
  replace HN := Lib.hid (nd_box (g := w.heap.size) HN.out HL.out rfl)
  have K2 := Lib.hid (TB.newN (g := w.heap.size) Va.out rfl)
  replace HE := Lib.hid (HE.out.alloc (.cells #[.slice Aa ta.nodes.length ca, .int .i64 ta.root] 34))
  replace HL := Lib.hid (BL.boxN (g := w.heap.size) HL.out (.cells #[.slice Aa ta.nodes.length ca, .int .i64 ta.root] 34) rfl)
  have d20 : (w.alloc (.cells #[.slice Aa ta.nodes.length ca, .int .i64 ta.root] 34)).cell? ⟨w.heap.size, 0, none⟩ = some (.slice Aa ta.nodes.length ca) := K2.out.blk.cell 0
  have d21 : (w.alloc (.cells #[.slice Aa ta.nodes.length ca, .int .i64 ta.root] 34)).cell? ⟨w.heap.size, 1, none⟩ = some (.int .i64 ta.root) := K2.out.blk.cell 1
  go_wp2_with fail
  clear d20 d21
  refine Calls.mono (large1_c K2.out.tree (by simp)) ?_
  rintro e w1 ⟨r, rfl, HS, B1⟩
  replace HE := Lib.hid (HE.out.below B1.out)
  replace HL := Lib.hid (HL.out.below B1.out)
  replace K2 := Lib.hid (K2.out.below B1.out)
  rcases r with _ | _
  · have HZ := Lib.hid (show ta.nodes.length ≤ 400 by have := (HS.out rfl).sum; simpa [nodesSum] using this)
    clear HS
    go_wp2_with fail
    refine Calls.mono (largeL_c HE.out HT.out) ?_
    rintro e w2 ⟨r, rfl, HS, B2⟩
    replace HE := Lib.hid (HE.out.below B2.out)
    replace HL := Lib.hid (HL.out.below B2.out)
    replace K2 := Lib.hid (K2.out.below B2.out)
    rcases r with _ | _
    · have HZL := Lib.hid (show (ts.map (·.nodes.length)).sum ≤ 400 ∧ ts.length ≤ 400 from ⟨(HS.out rfl).sum, (HS.out rfl).few⟩)
      clear HS
      go_wp2_with fail
      refine Calls.mono (awake_c HE.out) ?_
      rintro e w3 ⟨rfl, B3⟩
      replace HE := Lib.hid (HE.out.below B3.out)
      replace HL := Lib.hid (HL.out.below B3.out)
      replace K2 := Lib.hid (K2.out.below B3.out)
      have d20 : (w3).cell? ⟨w.heap.size, 0, none⟩ = some (.slice Aa ta.nodes.length ca) := K2.out.blk.cell 0
      have d21 : (w3).cell? ⟨w.heap.size, 1, none⟩ = some (.int .i64 ta.root) := K2.out.blk.cell 1
      go_wp2_with fail
      clear d20 d21
      obtain ⟨ok, hok⟩ : ∃ ok, ok = decide (RightT ta) := ⟨_, rfl⟩
      have HOK := Lib.hid hok
      clear hok
      refine Calls.mono (make_c HE.out HL.out K2.out.tree (by have := HZ.out; omega) HOK.out.symm) ?_
      rintro e w4 ⟨A4, c4, x4, rfl, X4, V4, B4⟩
      replace HE := Lib.hid (HE.out.below B4.out)
      replace HL := Lib.hid (HL.out.below B4.out)
      replace K2 := Lib.hid (K2.out.below B4.out)
      have Z4 := Lib.hid (show x4.nodes.length ≤ 1000 by rw [X4.out]; have := nfTr_len ta; have := HZ.out; omega)
      replace HG := Lib.hid (ge_box (g := w4.heap.size) HG.out HE.out rfl)
      replace HN := Lib.hid (nd_box (g := w4.heap.size) HN.out HL.out rfl)
      have K5 := Lib.hid (TB.newN (g := w4.heap.size) V4.out rfl)
      replace HE := Lib.hid (HE.out.alloc (.cells #[.slice A4 x4.nodes.length c4, .int .i64 x4.root] 34))
      replace HL := Lib.hid (BL.boxN (g := w4.heap.size) HL.out (.cells #[.slice A4 x4.nodes.length c4, .int .i64 x4.root] 34) rfl)
      replace K2 := Lib.hid (TB.boxN (g := w4.heap.size) K2.out (.cells #[.slice A4 x4.nodes.length c4, .int .i64 x4.root] 34) rfl)
      have d20 : (w4.alloc (.cells #[.slice A4 x4.nodes.length c4, .int .i64 x4.root] 34)).cell? ⟨w.heap.size, 0, none⟩ = some (.slice Aa ta.nodes.length ca) := K2.out.blk.cell 0
      have d21 : (w4.alloc (.cells #[.slice A4 x4.nodes.length c4, .int .i64 x4.root] 34)).cell? ⟨w.heap.size, 1, none⟩ = some (.int .i64 ta.root) := K2.out.blk.cell 1
      go_wp2_with fail
      clear d20 d21
      refine Calls.mono (right_c HE.out K2.out.tree (by have := HZ.out; omega)) ?_
      rintro e w5 ⟨rfl, B5⟩
      replace HE := Lib.hid (HE.out.below B5.out)
      replace HL := Lib.hid (HL.out.below B5.out)
      replace K2 := Lib.hid (K2.out.below B5.out)
      replace K5 := Lib.hid (K5.out.below B5.out)
      rw [← HOK.out]
      have d20 : (w5).cell? ⟨w.heap.size, 0, none⟩ = some (.slice Aa ta.nodes.length ca) := K2.out.blk.cell 0
      have d21 : (w5).cell? ⟨w.heap.size, 1, none⟩ = some (.int .i64 ta.root) := K2.out.blk.cell 1
      go_wp2_with fail
      clear d20 d21
      by_cases hn : RightT ta ∧ SameT (nfTr ta) ta
      · have HM := Lib.hid hn
        clear hn
        refine Calls.mono (normal_c (b := true) HE.out K2.out.tree (by have := HZ.out; omega) (decide_eq_true HM.out)) ?_
        rintro e w6 ⟨rfl, B6⟩
        replace HE := Lib.hid (HE.out.below B6.out)
        replace HL := Lib.hid (HL.out.below B6.out)
        replace K2 := Lib.hid (K2.out.below B6.out)
        replace K5 := Lib.hid (K5.out.below B6.out)
        have d50 : (w6).cell? ⟨w4.heap.size, 0, none⟩ = some (.slice A4 x4.nodes.length c4) := K5.out.blk.cell 0
        have d51 : (w6).cell? ⟨w4.heap.size, 1, none⟩ = some (.int .i64 x4.root) := K5.out.blk.cell 1
        have d20 : (w6).cell? ⟨w.heap.size, 0, none⟩ = some (.slice Aa ta.nodes.length ca) := K2.out.blk.cell 0
        have d21 : (w6).cell? ⟨w.heap.size, 1, none⟩ = some (.int .i64 ta.root) := K2.out.blk.cell 1
        go_wp2_with fail
        clear d50 d51 d20 d21
        refine Calls.mono (same_c (b := true) HE.out K5.out.tree K2.out.tree (by have := Z4.out; omega) (by have := HZ.out; omega) (decide_eq_true (by rw [X4.out]; exact HM.out.2))) ?_
        rintro e w7 ⟨rfl, B7⟩
        replace HE := Lib.hid (HE.out.below B7.out)
        replace HL := Lib.hid (HL.out.below B7.out)
        replace K2 := Lib.hid (K2.out.below B7.out)
        replace K5 := Lib.hid (K5.out.below B7.out)
        go_wp2_with fail
        refine Calls.mono (seqL_c (b := q) HE.out HL.out HT.out (by have := HZL.out.1; omega) (by have := HZL.out.2; omega) (by rw [seq_allR]; exact HQ.out.symm)) ?_
        rintro e w8 ⟨A8, c8, x8, rfl, X8, V8, B8⟩
        replace HE := Lib.hid (HE.out.below B8.out)
        replace HL := Lib.hid (HL.out.below B8.out)
        replace K2 := Lib.hid (K2.out.below B8.out)
        replace K5 := Lib.hid (K5.out.below B8.out)
        have Z8 := Lib.hid (show x8.nodes.length ≤ 1000 by rw [X8.out]; have := seq_len' ts; have := HZL.out.1; omega)
        replace HG := Lib.hid (ge_box (g := w8.heap.size) HG.out HE.out rfl)
        replace HN := Lib.hid (nd_box (g := w8.heap.size) HN.out HL.out rfl)
        have K7 := Lib.hid (TB.newN (g := w8.heap.size) V8.out rfl)
        replace HE := Lib.hid (HE.out.alloc (.cells #[.slice A8 x8.nodes.length c8, .int .i64 x8.root] 34))
        replace HL := Lib.hid (BL.boxN (g := w8.heap.size) HL.out (.cells #[.slice A8 x8.nodes.length c8, .int .i64 x8.root] 34) rfl)
        replace K2 := Lib.hid (TB.boxN (g := w8.heap.size) K2.out (.cells #[.slice A8 x8.nodes.length c8, .int .i64 x8.root] 34) rfl)
        replace K5 := Lib.hid (TB.boxN (g := w8.heap.size) K5.out (.cells #[.slice A8 x8.nodes.length c8, .int .i64 x8.root] 34) rfl)
        go_wp2_with fail
        refine Calls.mono (choiceL_c (b := q) HE.out HL.out HT.out (by have := HZL.out.1; omega) (by have := HZL.out.2; omega) (by rw [choice_allR]; exact HQ.out.symm)) ?_
        rintro e w9 ⟨A9, c9, x9, rfl, X9, V9, B9⟩
        replace HE := Lib.hid (HE.out.below B9.out)
        replace HL := Lib.hid (HL.out.below B9.out)
        replace K2 := Lib.hid (K2.out.below B9.out)
        replace K5 := Lib.hid (K5.out.below B9.out)
        replace K7 := Lib.hid (K7.out.below B9.out)
        have Z9 := Lib.hid (show x9.nodes.length ≤ 1000 by rw [X9.out]; have := choice_len' ts; have := HZL.out.1; omega)
        replace HG := Lib.hid (ge_box (g := w9.heap.size) HG.out HE.out rfl)
        replace HN := Lib.hid (nd_box (g := w9.heap.size) HN.out HL.out rfl)
        have K9 := Lib.hid (TB.newN (g := w9.heap.size) V9.out rfl)
        replace HE := Lib.hid (HE.out.alloc (.cells #[.slice A9 x9.nodes.length c9, .int .i64 x9.root] 34))
        replace HL := Lib.hid (BL.boxN (g := w9.heap.size) HL.out (.cells #[.slice A9 x9.nodes.length c9, .int .i64 x9.root] 34) rfl)
        replace K2 := Lib.hid (TB.boxN (g := w9.heap.size) K2.out (.cells #[.slice A9 x9.nodes.length c9, .int .i64 x9.root] 34) rfl)
        replace K5 := Lib.hid (TB.boxN (g := w9.heap.size) K5.out (.cells #[.slice A9 x9.nodes.length c9, .int .i64 x9.root] 34) rfl)
        replace K7 := Lib.hid (TB.boxN (g := w9.heap.size) K7.out (.cells #[.slice A9 x9.nodes.length c9, .int .i64 x9.root] 34) rfl)
        go_wp2_with fail
        obtain ⟨wc, hwc⟩ : ∃ wc, wc = w9.alloc (.cells #[.slice A9 x9.nodes.length c9, .int .i64 x9.root] 34) := ⟨_, rfl⟩
        rw [← hwc] at HE HL K2 K5 K7 K9 ⊢
        clear hwc
        have HGL := Lib.hid (show ∀ wx, Below wc.heap.size wc wx → GivenL ts (.slice Al ts.length cl) (fun b => b < w.heap.size) wx from fun wx hx => ⟨HT.out.below (HE.out.below hx).bel (fun _ h => h), fun b hb => Nat.lt_of_lt_of_le hb (HE.out.below hx).bel.size, (HE.out.below hx).ktab, fun t ht => by have := sum_mem ht; have := HZL.out.1; omega, by have := HZL.out.2; omega⟩)
        have hsz : ts.length ≤ 400 := HZL.out.2
        go_loopw [11, 12] (fun r i wr => ∃ j : Nat, j ≤ ts.length ∧ r = .bool (allR (ts.take j)) ∧ i = .int .i64 j ∧ Hid (Below wc.heap.size wc wr)) (fun _ i _ => ts.length - (intOf i).toNat)
        case atStart => exact ⟨0, Nat.zero_le _, by simp [allR], rfl, Lib.hid (Below.refl _ _)⟩
        case round =>
          obtain ⟨wo, rfl⟩ : ∃ wo, wo = wr := ⟨_, rfl⟩
          obtain ⟨j, hj, rfl, rfl, HW⟩ := hrel
          by_cases hlt : j < ts.length
          · obtain ⟨t, ht⟩ : ∃ t, ts[j]? = some t := ⟨_, List.getElem?_eq_getElem hlt⟩
            obtain ⟨bb, off, Ak, ck, hA, hSb, hG, d0, d1⟩ := (HGL.out _ HW.out).at_ j t ht
            have HRT := Lib.hid (right_g hG)
            have HTJ := Lib.hid ht
            clear hG ht
            subst hA
            obtain ⟨p, hp⟩ : ∃ p, p = allR (ts.take j) := ⟨_, rfl⟩
            rw [← hp]
            have HP := Lib.hid hp
            clear hp
            have hj0 : (0 : Int) ≤ (j : Int) := by omega
            have hj1 : (j : Int) < (ts.length : Int) := by omega
            rcases p with _ | _
            · go_wp2_with fail
              go_roundw
              case rel => exact ⟨j + 1, by omega, by rw [take_right HTJ.out, ← HP.out]; rfl, by go_num, HW⟩
              case measure => simp [intOf]; omega
            · go_wp2_with fail
              refine Calls.mono HRT.out ?_
              rintro e wq ⟨rfl, hbq⟩
              have HWQ := Lib.hid (HW.out.trans (hbq.mono HW.out.size))
              clear hbq d0 d1
              go_wp2_with fail
              go_roundw
              case rel => exact ⟨j + 1, by omega, by rw [take_right HTJ.out, ← HP.out]; simp, by go_num, HWQ⟩
              case measure => simp [intOf]; omega
          · obtain rfl : j = ts.length := by omega
            rw [show allR (ts.take ts.length) = q from by rw [List.take_length]; exact HQ.out.symm]
            clear hlt hj
            replace HE := Lib.hid (HE.out.below HW.out)
            replace HL := Lib.hid (HL.out.below HW.out)
            replace K2 := Lib.hid (K2.out.below HW.out)
            replace K5 := Lib.hid (K5.out.below HW.out)
            replace K7 := Lib.hid (K7.out.below HW.out)
            replace K9 := Lib.hid (K9.out.below HW.out)
            have d50 : (wo).cell? ⟨w4.heap.size, 0, none⟩ = some (.slice A4 x4.nodes.length c4) := K5.out.blk.cell 0
            have d51 : (wo).cell? ⟨w4.heap.size, 1, none⟩ = some (.int .i64 x4.root) := K5.out.blk.cell 1
            have d70 : (wo).cell? ⟨w8.heap.size, 0, none⟩ = some (.slice A8 x8.nodes.length c8) := K7.out.blk.cell 0
            have d71 : (wo).cell? ⟨w8.heap.size, 1, none⟩ = some (.int .i64 x8.root) := K7.out.blk.cell 1
            have d90 : (wo).cell? ⟨w9.heap.size, 0, none⟩ = some (.slice A9 x9.nodes.length c9) := K9.out.blk.cell 0
            have d91 : (wo).cell? ⟨w9.heap.size, 1, none⟩ = some (.int .i64 x9.root) := K9.out.blk.cell 1
            go_wp2_with fail
            clear d50 d51 d70 d71 d90 d91
            obtain ⟨wd, hwd⟩ : ∃ wd, wd = wo.alloc (.cells #[.slice A4 x4.nodes.length c4, .int .i64 x4.root, .bool ok, .slice A8 x8.nodes.length c8, .int .i64 x8.root, .bool q, .slice A9 x9.nodes.length c9, .int .i64 x9.root, .bool q] 68) := ⟨_, rfl⟩
            have M5 := Lib.hid (show Made x4 ok by rw [X4.out, HOK.out]; exact made_make ta)
            have M7 := Lib.hid (show Made x8 q by rw [X8.out, HQ.out, ← seq_allR]; exact made_seq ts)
            have M9 := Lib.hid (show Made x9 q by rw [X9.out, HQ.out, ← choice_allR]; exact made_choice ts)
            have HR3 := Lib.hid (show ∀ k, k < 3 → ∃ A c x b, Row3 wd ((w9.heap.size) :: (w8.heap.size) :: (w4.heap.size) :: (w.heap.size) :: []) wo.heap.size k A c x b by rw [hwd]; exact rows3 (Blk.new _ _ _) (K5.out.tree.alloc _) (K7.out.tree.alloc _) (K9.out.tree.alloc _) M5.out M7.out M9.out Z4.out Z8.out Z9.out)
            replace HE := Lib.hid (show Ev w wd by rw [hwd]; exact HE.out.alloc _)
            replace HL := Lib.hid (show BL wd ((w9.heap.size) :: (w8.heap.size) :: (w4.heap.size) :: (w.heap.size) :: []) by rw [hwd]; exact HL.out.below (below_row wo _))
            rw [← hwd]
            clear hwd K2 K5 K7 K9
            obtain ⟨g3, hg3⟩ : ∃ g3, g3 = wo.heap.size := ⟨_, rfl⟩
            rw [← hg3] at HR3 ⊢
            clear hg3
            go_loopw [91] (fun i wr => ∃ k : Nat, k ≤ 3 ∧ i = .int .i64 k ∧ Hid (Below wd.heap.size wd wr)) (fun i _ => 3 - (intOf i).toNat)
            case atStart => exact ⟨0, Nat.zero_le _, rfl, Lib.hid (Below.refl _ _)⟩
            case round =>
              obtain ⟨wp, rfl⟩ : ∃ wp, wp = wr := ⟨_, rfl⟩
              obtain ⟨k, hk, rfl, HP⟩ := hrel
              by_cases hlt : k < 3
              · obtain ⟨A, c, x, b, hR⟩ := HR3.out k hlt
                replace hR := hR.below HP.out
                have HRR := Lib.hid hR
                have c0 := hR.c0
                have c1 := hR.c1
                have c2 := hR.c2
                clear hR
                have hk0 : (0 : Int) ≤ (k : Int) := by omega
                have hk1 : (k : Int) < 3 := by omega
                replace HE := Lib.hid (HE.out.below HP.out)
                replace HL := Lib.hid (HL.out.below HP.out)
                have hB := Blk.new wp 68 #[.slice A x.nodes.length c, .int .i64 x.root, .bool b]
                have e0 : (wp.alloc (.cells #[.slice A x.nodes.length c, .int .i64 x.root, .bool b] 68)).cell? ⟨wp.heap.size, 0, none⟩ = some (.slice A x.nodes.length c) := hB.cell 0
                have e1 : (wp.alloc (.cells #[.slice A x.nodes.length c, .int .i64 x.root, .bool b] 68)).cell? ⟨wp.heap.size, 1, none⟩ = some (.int .i64 x.root) := hB.cell 1
                have e2 : (wp.alloc (.cells #[.slice A x.nodes.length c, .int .i64 x.root, .bool b] 68)).cell? ⟨wp.heap.size, 2, none⟩ = some (.bool b) := hB.cell 2
                have HB := Lib.hid hB
                clear hB
                rcases b with _ | _
                · have hx0 : ¬ (0 : Int) < (x.nodes.length : Int) := by have := HRR.out.made.no rfl; omega
                  go_wp2_with fail
                  go_roundw
                  case rel => exact ⟨k + 1, by omega, by go_num, Lib.hid (HP.out.trans ((below_row _ _).mono HP.out.size))⟩
                  case measure => simp [intOf]; omega
                · have HX := Lib.hid (show Made x true from HRR.out.made)
                  have VX := Lib.hid (HRR.out.tree.alloc (.cells #[.slice A x.nodes.length c, .int .i64 x.root, .bool true] 68))
                  have ZX := Lib.hid HRR.out.size
                  replace HE := Lib.hid (HE.out.alloc (.cells #[.slice A x.nodes.length c, .int .i64 x.root, .bool true] 68))
                  replace HL := Lib.hid (HL.out.below (below_row wp (.cells #[.slice A x.nodes.length c, .int .i64 x.root, .bool true] 68)))
                  go_wp2_with fail
                  clear c0 c1 c2 e0 e1 e2
                  refine Calls.mono (make_c (b := true) HE.out HL.out VX.out (by have := ZX.out; omega) (decide_eq_true HX.out.right)) ?_
                  rintro e wm ⟨Am, cm, xm, rfl, Xm, Vm, Bm⟩
                  replace Xm := Lib.hid (Xm.out.trans HX.out.nf)
                  have HP2 := Lib.hid (show Below wd.heap.size wd (wm.alloc (.cells #[.slice Am xm.nodes.length cm, .int .i64 xm.root] 34)) from (HP.out.trans (((below_row _ _).trans (Bm.out.mono (by simp))).mono HP.out.size)).trans ((below_row _ _).mono (Nat.le_trans HP.out.size (Nat.le_trans (by simp) Bm.out.size))))
                  obtain ⟨wf, hwf⟩ : ∃ wf, wf = wm.alloc (.cells #[.slice Am xm.nodes.length cm, .int .i64 xm.root] 34) := ⟨_, rfl⟩
                  have HB15 := Lib.hid (show Blk wf wm.heap.size 34 #[.slice Am xm.nodes.length cm, .int .i64 xm.root] by rw [hwf]; exact Blk.new _ _ _)
                  have HB14 := Lib.hid (show Blk wf wp.heap.size 68 #[.slice A x.nodes.length c, .int .i64 x.root, .bool true] by rw [hwf]; exact (HB.out.below Bm.out HB.out.lt).alloc _)
                  replace HE := Lib.hid (show Ev w wf by rw [hwf]; exact (HE.out.below Bm.out).alloc _)
                  replace HL := Lib.hid (show BL wf ((w9.heap.size) :: (w8.heap.size) :: (w4.heap.size) :: (w.heap.size) :: []) by rw [hwf]; exact (HL.out.below Bm.out).below (below_row wm _))
                  replace VX := Lib.hid (show RT wf ((w9.heap.size) :: (w8.heap.size) :: (w4.heap.size) :: (w.heap.size) :: []) A c x by rw [hwf]; exact (VX.out.below Bm.out).alloc _)
                  replace Vm := Lib.hid (show RT wf ((w9.heap.size) :: (w8.heap.size) :: (w4.heap.size) :: (w.heap.size) :: []) Am cm xm by rw [hwf]; exact Vm.out.alloc _)
                  rw [← hwf] at HP2
                  clear HB Bm HP HRR
                  obtain ⟨bs, hbs⟩ : ∃ bs : List Nat, bs = (w9.heap.size) :: (w8.heap.size) :: (w4.heap.size) :: (w.heap.size) :: [] := ⟨_, rfl⟩
                  rw [← hbs] at HL VX Vm
                  clear hbs HR3 HG HN
                  go_wp2_with fail
                  rw [← hwf]
                  clear hwf
                  have HC14 := Lib.hid (show ∀ wx, Below wf.heap.size wf wx → wx.cell? ⟨wp.heap.size, 0, none⟩ = some (.slice A x.nodes.length c) ∧ wx.cell? ⟨wp.heap.size, 1, none⟩ = some (.int .i64 x.root) from fun wx hx => ⟨(HB14.out.below hx HB14.out.lt).cell 0, (HB14.out.below hx HB14.out.lt).cell 1⟩)
                  have HC15 := Lib.hid (show ∀ wx, Below wf.heap.size wf wx → wx.cell? ⟨wm.heap.size, 0, none⟩ = some (.slice Am xm.nodes.length cm) ∧ wx.cell? ⟨wm.heap.size, 1, none⟩ = some (.int .i64 xm.root) from fun wx hx => ⟨(HB15.out.below hx HB15.out.lt).cell 0, (HB15.out.below hx HB15.out.lt).cell 1⟩)
                  refine wp_region_inv (G := Unit) () UE UN
                    [fun v _ => v = .pointer (some ⟨wp.heap.size, 0, none⟩), fun v _ => v = .agg #[.slice A x.nodes.length c, .int .i64 x.root], fun v _ => v = .bool true, fun v _ => v = .bool false, fun v _ => v = .bool false, fun v _ => v = .pointer (some ⟨wp.heap.size, 0, none⟩), fun v _ => v = .agg #[.slice A x.nodes.length c, .int .i64 x.root], fun v _ => v = .bool true, fun v _ => v = .bool false, fun v _ => v = .bool false, fun v _ => v = .bool false, fun v _ => v = .pointer (some ⟨wp.heap.size, 0, none⟩), fun v _ => v = .agg #[.slice A x.nodes.length c, .int .i64 x.root], fun v s => ∃ A c, v = .agg #[.slice A x.nodes.length c, .int .i64 x.root] ∧ RT s.2 bs A c x, fun v _ => v = .pointer (some ⟨wp.heap.size, 0, none⟩), fun v _ => v = .agg #[.slice A x.nodes.length c, .int .i64 x.root], fun v _ => v = .bool true, fun v _ => v = .bool false, fun v _ => v = .bool false, fun v _ => v = .bool false, fun v _ => v = .agg #[.slice Am xm.nodes.length cm, .int .i64 xm.root], fun v _ => v = .bool true, fun v _ => v = .pointer (some ⟨wp.heap.size, 0, none⟩), fun v _ => v = .agg #[.slice A x.nodes.length c, .int .i64 x.root], fun v _ => v = .bool true, fun v _ => v = .bool false, fun v _ => v = .bool false]
                    (by kernel_rfl) UE.trans (UE.refl _) (by kernel_rfl) (by kernel_rfl) (fun _ => trivial) ?rstna ?rstepsna ?rfinna
                  case rstna =>
                    intro R hR v s s' _ h hr
                    simp only [List.mem_cons, List.not_mem_nil, or_false] at hR
                    rcases hR with rfl | rfl | rfl | rfl | rfl | rfl | rfl | rfl | rfl | rfl | rfl | rfl | rfl | rfl | rfl | rfl | rfl | rfl | rfl | rfl | rfl | rfl | rfl | rfl | rfl | rfl | rfl
                    · exact hr
                    · exact hr
                    · exact hr
                    · exact hr
                    · exact hr
                    · exact hr
                    · exact hr
                    · exact hr
                    · exact hr
                    · exact hr
                    · exact hr
                    · exact hr
                    · exact hr
                    · exact hr.imp fun _ h1 => h1.imp fun _ h2 => ⟨h2.1, h2.2.below h⟩
                    · exact hr
                    · exact hr
                    · exact hr
                    · exact hr
                    · exact hr
                    · exact hr
                    · exact hr
                    · exact hr
                    · exact hr
                    · exact hr
                    · exact hr
                    · exact hr
                    · exact hr
                  case rstepsna =>
                    refine ⟨?_, ?_, ?_, ?_, ?_, ?_, ?_, ?_, ?_, ?_, ?_, ?_, ?_, ?_, ?_, ?_, ?_, ?_, ?_, ?_, ?_, ?_, ?_, ?_, ?_, ?_, ?_, trivial⟩
                    · intro a γ wx hB hE hN hW K hK
                      have hw := UE.start hE
                      have h14 : a.tmps[14]? = some (.pointer (some ⟨wp.heap.size, 0, none⟩)) := (hB.at_ 14 (of_decide_eq_true (by kernel_rfl))).trans rfl
                      clear hB hN hE
                      go_simp
                      exact hK (.pointer (some ⟨wp.heap.size, 0, none⟩)) () _ (UE.refl _) (fun _ _ h => h) rfl
                    · intro a γ wx hB hE hN hW K hK
                      have hw := UE.start hE
                      obtain ⟨⟨_, h109, rfl⟩, -⟩ := hW
                      have hc := HC14.out _ hw
                      clear hB hN hE
                      go_simp
                      exact hK (.agg #[.slice A x.nodes.length c, .int .i64 x.root]) () _ (UE.refl _) (fun _ _ h => h) rfl
                    · intro a γ wx hB hE hN hW K hK
                      have hw := UE.start hE
                      obtain ⟨⟨_, h110, rfl⟩, -⟩ := hW
                      clear hB hN hE
                      go_simp
                      refine ((rightb_c (b := true) (HE.out.below hw) (VX.out.below hw) (by have := ZX.out; omega) (decide_eq_true HX.out.right))).mono ?_
                      rintro e w' ⟨rfl, hb0⟩
                      have hbb := hb0.out
                      exact hK _ () _ hbb (fun _ _ h => h) rfl
                    · intro a γ wx hB hE hN hW K hK
                      have hw := UE.start hE
                      obtain ⟨⟨_, h111, rfl⟩, -⟩ := hW
                      clear hB hN hE
                      go_simp
                      exact hK (.bool false) () _ (UE.refl _) (fun _ _ h => h) rfl
                    · intro a γ wx hB hE hN hW K hK
                      have hw := UE.start hE
                      obtain ⟨⟨_, h112, rfl⟩, -⟩ := hW
                      clear hB hN hE
                      go_simp
                      exact hK (.bool false) () _ (UE.refl _) (fun _ _ h => h) rfl
                    · intro a γ wx hB hE hN hW K hK
                      have hw := UE.start hE
                      obtain ⟨⟨_, h113, rfl⟩, -⟩ := hW
                      have h14 : a.tmps[14]? = some (.pointer (some ⟨wp.heap.size, 0, none⟩)) := (hB.at_ 14 (of_decide_eq_true (by kernel_rfl))).trans rfl
                      clear hB hN hE
                      go_simp
                      exact hK (.pointer (some ⟨wp.heap.size, 0, none⟩)) () _ (UE.refl _) (fun _ _ h => h) rfl
                    · intro a γ wx hB hE hN hW K hK
                      have hw := UE.start hE
                      obtain ⟨⟨_, h114, rfl⟩, ⟨_, h113, rfl⟩, -⟩ := hW
                      have hc := HC14.out _ hw
                      clear hB hN hE
                      go_simp
                      exact hK (.agg #[.slice A x.nodes.length c, .int .i64 x.root]) () _ (UE.refl _) (fun _ _ h => h) rfl
                    · intro a γ wx hB hE hN hW K hK
                      have hw := UE.start hE
                      obtain ⟨⟨_, h115, rfl⟩, ⟨_, h113, rfl⟩, -⟩ := hW
                      clear hB hN hE
                      go_simp
                      refine ((normal_c (b := true) (HE.out.below hw) (VX.out.below hw) (by have := ZX.out; omega) HX.out.normal)).mono ?_
                      rintro e w' ⟨rfl, hb0⟩
                      have hbb := hb0.out
                      exact hK _ () _ hbb (fun _ _ h => h) rfl
                    · intro a γ wx hB hE hN hW K hK
                      have hw := UE.start hE
                      obtain ⟨⟨_, h116, rfl⟩, ⟨_, h113, rfl⟩, -⟩ := hW
                      clear hB hN hE
                      go_simp
                      exact hK (.bool false) () _ (UE.refl _) (fun _ _ h => h) rfl
                    · intro a γ wx hB hE hN hW K hK
                      have hw := UE.start hE
                      obtain ⟨⟨_, h113, rfl⟩, ⟨_, h117, rfl⟩, -⟩ := hW
                      clear hB hN hE
                      go_simp
                      exact hK (.bool false) () _ (UE.refl _) (fun _ _ h => h) rfl
                    · intro a γ wx hB hE hN hW K hK
                      have hw := UE.start hE
                      obtain ⟨⟨_, h118, rfl⟩, -⟩ := hW
                      clear hB hN hE
                      go_simp
                      exact hK (.bool false) () _ (UE.refl _) (fun _ _ h => h) rfl
                    · intro a γ wx hB hE hN hW K hK
                      have hw := UE.start hE
                      obtain ⟨⟨_, h119, rfl⟩, -⟩ := hW
                      have h14 : a.tmps[14]? = some (.pointer (some ⟨wp.heap.size, 0, none⟩)) := (hB.at_ 14 (of_decide_eq_true (by kernel_rfl))).trans rfl
                      clear hB hN hE
                      go_simp
                      exact hK (.pointer (some ⟨wp.heap.size, 0, none⟩)) () _ (UE.refl _) (fun _ _ h => h) rfl
                    · intro a γ wx hB hE hN hW K hK
                      have hw := UE.start hE
                      obtain ⟨⟨_, h120, rfl⟩, ⟨_, h119, rfl⟩, -⟩ := hW
                      have hc := HC14.out _ hw
                      clear hB hN hE
                      go_simp
                      exact hK (.agg #[.slice A x.nodes.length c, .int .i64 x.root]) () _ (UE.refl _) (fun _ _ h => h) rfl
                    · intro a γ wx hB hE hN hW K hK
                      have hw := UE.start hE
                      obtain ⟨⟨_, h121, rfl⟩, ⟨_, h119, rfl⟩, -⟩ := hW
                      clear hB hN hE
                      go_simp
                      refine ((clean_c (HE.out.below hw) (HL.out.below hw) (VX.out.below hw) (by have := ZX.out; omega))).mono ?_
                      rintro e w' ⟨A, c, y, rfl, hy, hu, hb0⟩
                      have hbb := hb0.out
                      obtain rfl := hy.out.trans HX.out.clean
                      exact hK _ () _ hbb (fun _ _ h => h) ⟨A, c, rfl, hu.out⟩
                    · intro a γ wx hB hE hN hW K hK
                      have hw := UE.start hE
                      obtain ⟨⟨_, h119, rfl⟩, -⟩ := hW
                      have h14 : a.tmps[14]? = some (.pointer (some ⟨wp.heap.size, 0, none⟩)) := (hB.at_ 14 (of_decide_eq_true (by kernel_rfl))).trans rfl
                      clear hB hN hE
                      go_simp
                      exact hK (.pointer (some ⟨wp.heap.size, 0, none⟩)) () _ (UE.refl _) (fun _ _ h => h) rfl
                    · intro a γ wx hB hE hN hW K hK
                      have hw := UE.start hE
                      obtain ⟨⟨_, h123, rfl⟩, ⟨_, h119, rfl⟩, -⟩ := hW
                      have hc := HC14.out _ hw
                      clear hB hN hE
                      go_simp
                      exact hK (.agg #[.slice A x.nodes.length c, .int .i64 x.root]) () _ (UE.refl _) (fun _ _ h => h) rfl
                    · intro a γ wx hB hE hN hW K hK
                      have hw := UE.start hE
                      obtain ⟨⟨v122, h122, ⟨A122, c122, rfl, r122⟩⟩, ⟨_, h124, rfl⟩, -, ⟨_, h119, rfl⟩, -⟩ := hW
                      clear hB hN hE
                      go_simp
                      refine ((is_cc (HE.out.below hw) r122 (VX.out.below hw) rfl (by have := ZX.out; omega) rfl)).mono ?_
                      rintro e w' ⟨rfl, hb0⟩
                      have hbb := hb0.out
                      exact hK _ () _ hbb (fun _ _ h => h) rfl
                    · intro a γ wx hB hE hN hW K hK
                      have hw := UE.start hE
                      obtain ⟨⟨_, h125, rfl⟩, ⟨_, h119, rfl⟩, -⟩ := hW
                      clear hB hN hE
                      go_simp
                      exact hK (.bool false) () _ (UE.refl _) (fun _ _ h => h) rfl
                    · intro a γ wx hB hE hN hW K hK
                      have hw := UE.start hE
                      obtain ⟨⟨_, h119, rfl⟩, ⟨_, h126, rfl⟩, -⟩ := hW
                      clear hB hN hE
                      go_simp
                      exact hK (.bool false) () _ (UE.refl _) (fun _ _ h => h) rfl
                    · intro a γ wx hB hE hN hW K hK
                      have hw := UE.start hE
                      obtain ⟨⟨_, h127, rfl⟩, -⟩ := hW
                      clear hB hN hE
                      go_simp
                      exact hK (.bool false) () _ (UE.refl _) (fun _ _ h => h) rfl
                    · intro a γ wx hB hE hN hW K hK
                      have hw := UE.start hE
                      obtain ⟨⟨_, h128, rfl⟩, -⟩ := hW
                      have h15 : a.tmps[15]? = some (.pointer (some ⟨wm.heap.size, 0, none⟩)) := (hB.at_ 15 (of_decide_eq_true (by kernel_rfl))).trans rfl
                      have hc := HC15.out _ hw
                      clear hB hN hE
                      go_simp
                      exact hK (.agg #[.slice Am xm.nodes.length cm, .int .i64 xm.root]) () _ (UE.refl _) (fun _ _ h => h) rfl
                    · intro a γ wx hB hE hN hW K hK
                      have hw := UE.start hE
                      obtain ⟨⟨_, h128, rfl⟩, -⟩ := hW
                      have h16 : a.tmps[16]? = some (.bool true) := (hB.at_ 16 (of_decide_eq_true (by kernel_rfl))).trans rfl
                      clear hB hN hE
                      go_simp
                      exact hK (.bool true) () _ (UE.refl _) (fun _ _ h => h) rfl
                    · intro a γ wx hB hE hN hW K hK
                      have hw := UE.start hE
                      obtain ⟨⟨_, h128, rfl⟩, -⟩ := hW
                      have h14 : a.tmps[14]? = some (.pointer (some ⟨wp.heap.size, 0, none⟩)) := (hB.at_ 14 (of_decide_eq_true (by kernel_rfl))).trans rfl
                      clear hB hN hE
                      go_simp
                      exact hK (.pointer (some ⟨wp.heap.size, 0, none⟩)) () _ (UE.refl _) (fun _ _ h => h) rfl
                    · intro a γ wx hB hE hN hW K hK
                      have hw := UE.start hE
                      obtain ⟨⟨_, h131, rfl⟩, ⟨_, h128, rfl⟩, -⟩ := hW
                      have hc := HC14.out _ hw
                      clear hB hN hE
                      go_simp
                      exact hK (.agg #[.slice A x.nodes.length c, .int .i64 x.root]) () _ (UE.refl _) (fun _ _ h => h) rfl
                    · intro a γ wx hB hE hN hW K hK
                      have hw := UE.start hE
                      obtain ⟨⟨_, h129, rfl⟩, ⟨_, h130, rfl⟩, ⟨_, h132, rfl⟩, ⟨_, h128, rfl⟩, -⟩ := hW
                      clear hB hN hE
                      go_simp
                      refine ((is_cc (HE.out.below hw) (Vm.out.below hw) (VX.out.below hw) Xm.out (by rw [Xm.out]; have := ZX.out; omega) rfl)).mono ?_
                      rintro e w' ⟨rfl, hb0⟩
                      have hbb := hb0.out
                      exact hK _ () _ hbb (fun _ _ h => h) rfl
                    · intro a γ wx hB hE hN hW K hK
                      have hw := UE.start hE
                      obtain ⟨⟨_, h133, rfl⟩, ⟨_, h128, rfl⟩, -⟩ := hW
                      clear hB hN hE
                      go_simp
                      exact hK (.bool false) () _ (UE.refl _) (fun _ _ h => h) rfl
                    · intro a γ wx hB hE hN hW K hK
                      have hw := UE.start hE
                      obtain ⟨⟨_, h128, rfl⟩, ⟨_, h134, rfl⟩, -⟩ := hW
                      clear hB hN hE
                      go_simp
                      exact hK (.bool false) () _ (UE.refl _) (fun _ _ h => h) rfl
                  intro a' γ wz hB hE hK
                  obtain ⟨_, h109, rfl⟩ := hK 0 (of_decide_eq_true (by kernel_rfl))
                  obtain ⟨_, h110, rfl⟩ := hK 1 (of_decide_eq_true (by kernel_rfl))
                  obtain ⟨_, h111, rfl⟩ := hK 2 (of_decide_eq_true (by kernel_rfl))
                  obtain ⟨_, h112, rfl⟩ := hK 3 (of_decide_eq_true (by kernel_rfl))
                  obtain ⟨_, h113, rfl⟩ := hK 4 (of_decide_eq_true (by kernel_rfl))
                  obtain ⟨_, h114, rfl⟩ := hK 5 (of_decide_eq_true (by kernel_rfl))
                  obtain ⟨_, h115, rfl⟩ := hK 6 (of_decide_eq_true (by kernel_rfl))
                  obtain ⟨_, h116, rfl⟩ := hK 7 (of_decide_eq_true (by kernel_rfl))
                  obtain ⟨_, h117, rfl⟩ := hK 8 (of_decide_eq_true (by kernel_rfl))
                  obtain ⟨_, h118, rfl⟩ := hK 9 (of_decide_eq_true (by kernel_rfl))
                  obtain ⟨_, h119, rfl⟩ := hK 10 (of_decide_eq_true (by kernel_rfl))
                  obtain ⟨_, h120, rfl⟩ := hK 11 (of_decide_eq_true (by kernel_rfl))
                  obtain ⟨_, h121, rfl⟩ := hK 12 (of_decide_eq_true (by kernel_rfl))
                  obtain ⟨v122, h122, ⟨A122, c122, rfl, r122⟩⟩ := hK 13 (of_decide_eq_true (by kernel_rfl))
                  obtain ⟨_, h123, rfl⟩ := hK 14 (of_decide_eq_true (by kernel_rfl))
                  obtain ⟨_, h124, rfl⟩ := hK 15 (of_decide_eq_true (by kernel_rfl))
                  obtain ⟨_, h125, rfl⟩ := hK 16 (of_decide_eq_true (by kernel_rfl))
                  obtain ⟨_, h126, rfl⟩ := hK 17 (of_decide_eq_true (by kernel_rfl))
                  obtain ⟨_, h127, rfl⟩ := hK 18 (of_decide_eq_true (by kernel_rfl))
                  obtain ⟨_, h128, rfl⟩ := hK 19 (of_decide_eq_true (by kernel_rfl))
                  obtain ⟨_, h129, rfl⟩ := hK 20 (of_decide_eq_true (by kernel_rfl))
                  obtain ⟨_, h130, rfl⟩ := hK 21 (of_decide_eq_true (by kernel_rfl))
                  obtain ⟨_, h131, rfl⟩ := hK 22 (of_decide_eq_true (by kernel_rfl))
                  obtain ⟨_, h132, rfl⟩ := hK 23 (of_decide_eq_true (by kernel_rfl))
                  obtain ⟨_, h133, rfl⟩ := hK 24 (of_decide_eq_true (by kernel_rfl))
                  obtain ⟨_, h134, rfl⟩ := hK 25 (of_decide_eq_true (by kernel_rfl))
                  obtain ⟨_, h135, rfl⟩ := hK 26 (of_decide_eq_true (by kernel_rfl))
                  have ha := hB.eq [(109, .pointer (some ⟨wp.heap.size, 0, none⟩)), (110, .agg #[.slice A x.nodes.length c, .int .i64 x.root]), (111, .bool true), (112, .bool false), (113, .bool false), (114, .pointer (some ⟨wp.heap.size, 0, none⟩)), (115, .agg #[.slice A x.nodes.length c, .int .i64 x.root]), (116, .bool true), (117, .bool false), (118, .bool false), (119, .bool false), (120, .pointer (some ⟨wp.heap.size, 0, none⟩)), (121, .agg #[.slice A x.nodes.length c, .int .i64 x.root]), (122, .agg #[.slice A122 x.nodes.length c122, .int .i64 x.root]), (123, .pointer (some ⟨wp.heap.size, 0, none⟩)), (124, .agg #[.slice A x.nodes.length c, .int .i64 x.root]), (125, .bool true), (126, .bool false), (127, .bool false), (128, .bool false), (129, .agg #[.slice Am xm.nodes.length cm, .int .i64 xm.root]), (130, .bool true), (131, .pointer (some ⟨wp.heap.size, 0, none⟩)), (132, .agg #[.slice A x.nodes.length c, .int .i64 x.root]), (133, .bool true), (134, .bool false), (135, .bool false)] rfl (by kernel_rfl) ⟨h109, h110, h111, h112, h113, h114, h115, h116, h117, h118, h119, h120, h121, h122, h123, h124, h125, h126, h127, h128, h129, h130, h131, h132, h133, h134, h135, trivial⟩
                  subst ha
                  have hz := UE.start hE
                  clear hK hB hE h109 h110 h111 h112 h113 h114 h115 h116 h117 h118 h119 h120 h121 h122 h123 h124 h125 h126 h127 h128 h129 h130 h131 h132 h133 h134 h135
                  simp only [putAll, List.foldl_cons, List.foldl_nil, List.setIfInBounds_toArray, List.set_cons_succ, List.set_cons_zero]
                  clear HC14 HC15
                  go_wp2_with fail
                  go_roundw
                  case rel => exact ⟨k + 1, by omega, by go_num, Lib.hid (HP2.out.trans (hz.mono HP2.out.size))⟩
                  case measure => simp [intOf]; omega
              · obtain rfl : k = 3 := by omega
                go_wp2_with fail
                go_ret
                exact ⟨rfl, (HE.out.below HP.out).bel⟩
      · have HM := Lib.hid hn
        clear hn
        refine Calls.mono (normal_c (b := false) HE.out K2.out.tree (by have := HZ.out; omega) (decide_eq_false HM.out)) ?_
        rintro e w6 ⟨rfl, B6⟩
        replace HE := Lib.hid (HE.out.below B6.out)
        replace HL := Lib.hid (HL.out.below B6.out)
        replace K2 := Lib.hid (K2.out.below B6.out)
        replace K5 := Lib.hid (K5.out.below B6.out)
        go_wp2_with fail
        refine Calls.mono (seqL_c (b := q) HE.out HL.out HT.out (by have := HZL.out.1; omega) (by have := HZL.out.2; omega) (by rw [seq_allR]; exact HQ.out.symm)) ?_
        rintro e w7 ⟨A7, c7, x7, rfl, X7, V7, B7⟩
        replace HE := Lib.hid (HE.out.below B7.out)
        replace HL := Lib.hid (HL.out.below B7.out)
        replace K2 := Lib.hid (K2.out.below B7.out)
        replace K5 := Lib.hid (K5.out.below B7.out)
        have Z7 := Lib.hid (show x7.nodes.length ≤ 1000 by rw [X7.out]; have := seq_len' ts; have := HZL.out.1; omega)
        replace HG := Lib.hid (ge_box (g := w7.heap.size) HG.out HE.out rfl)
        replace HN := Lib.hid (nd_box (g := w7.heap.size) HN.out HL.out rfl)
        have K7 := Lib.hid (TB.newN (g := w7.heap.size) V7.out rfl)
        replace HE := Lib.hid (HE.out.alloc (.cells #[.slice A7 x7.nodes.length c7, .int .i64 x7.root] 34))
        replace HL := Lib.hid (BL.boxN (g := w7.heap.size) HL.out (.cells #[.slice A7 x7.nodes.length c7, .int .i64 x7.root] 34) rfl)
        replace K2 := Lib.hid (TB.boxN (g := w7.heap.size) K2.out (.cells #[.slice A7 x7.nodes.length c7, .int .i64 x7.root] 34) rfl)
        replace K5 := Lib.hid (TB.boxN (g := w7.heap.size) K5.out (.cells #[.slice A7 x7.nodes.length c7, .int .i64 x7.root] 34) rfl)
        go_wp2_with fail
        refine Calls.mono (choiceL_c (b := q) HE.out HL.out HT.out (by have := HZL.out.1; omega) (by have := HZL.out.2; omega) (by rw [choice_allR]; exact HQ.out.symm)) ?_
        rintro e w8 ⟨A8, c8, x8, rfl, X8, V8, B8⟩
        replace HE := Lib.hid (HE.out.below B8.out)
        replace HL := Lib.hid (HL.out.below B8.out)
        replace K2 := Lib.hid (K2.out.below B8.out)
        replace K5 := Lib.hid (K5.out.below B8.out)
        replace K7 := Lib.hid (K7.out.below B8.out)
        have Z8 := Lib.hid (show x8.nodes.length ≤ 1000 by rw [X8.out]; have := choice_len' ts; have := HZL.out.1; omega)
        replace HG := Lib.hid (ge_box (g := w8.heap.size) HG.out HE.out rfl)
        replace HN := Lib.hid (nd_box (g := w8.heap.size) HN.out HL.out rfl)
        have K9 := Lib.hid (TB.newN (g := w8.heap.size) V8.out rfl)
        replace HE := Lib.hid (HE.out.alloc (.cells #[.slice A8 x8.nodes.length c8, .int .i64 x8.root] 34))
        replace HL := Lib.hid (BL.boxN (g := w8.heap.size) HL.out (.cells #[.slice A8 x8.nodes.length c8, .int .i64 x8.root] 34) rfl)
        replace K2 := Lib.hid (TB.boxN (g := w8.heap.size) K2.out (.cells #[.slice A8 x8.nodes.length c8, .int .i64 x8.root] 34) rfl)
        replace K5 := Lib.hid (TB.boxN (g := w8.heap.size) K5.out (.cells #[.slice A8 x8.nodes.length c8, .int .i64 x8.root] 34) rfl)
        replace K7 := Lib.hid (TB.boxN (g := w8.heap.size) K7.out (.cells #[.slice A8 x8.nodes.length c8, .int .i64 x8.root] 34) rfl)
        go_wp2_with fail
        obtain ⟨wc, hwc⟩ : ∃ wc, wc = w8.alloc (.cells #[.slice A8 x8.nodes.length c8, .int .i64 x8.root] 34) := ⟨_, rfl⟩
        rw [← hwc] at HE HL K2 K5 K7 K9 ⊢
        clear hwc
        have HGL := Lib.hid (show ∀ wx, Below wc.heap.size wc wx → GivenL ts (.slice Al ts.length cl) (fun b => b < w.heap.size) wx from fun wx hx => ⟨HT.out.below (HE.out.below hx).bel (fun _ h => h), fun b hb => Nat.lt_of_lt_of_le hb (HE.out.below hx).bel.size, (HE.out.below hx).ktab, fun t ht => by have := sum_mem ht; have := HZL.out.1; omega, by have := HZL.out.2; omega⟩)
        have hsz : ts.length ≤ 400 := HZL.out.2
        go_loopw [11, 12] (fun r i wr => ∃ j : Nat, j ≤ ts.length ∧ r = .bool (allR (ts.take j)) ∧ i = .int .i64 j ∧ Hid (Below wc.heap.size wc wr)) (fun _ i _ => ts.length - (intOf i).toNat)
        case atStart => exact ⟨0, Nat.zero_le _, by simp [allR], rfl, Lib.hid (Below.refl _ _)⟩
        case round =>
          obtain ⟨wo, rfl⟩ : ∃ wo, wo = wr := ⟨_, rfl⟩
          obtain ⟨j, hj, rfl, rfl, HW⟩ := hrel
          by_cases hlt : j < ts.length
          · obtain ⟨t, ht⟩ : ∃ t, ts[j]? = some t := ⟨_, List.getElem?_eq_getElem hlt⟩
            obtain ⟨bb, off, Ak, ck, hA, hSb, hG, d0, d1⟩ := (HGL.out _ HW.out).at_ j t ht
            have HRT := Lib.hid (right_g hG)
            have HTJ := Lib.hid ht
            clear hG ht
            subst hA
            obtain ⟨p, hp⟩ : ∃ p, p = allR (ts.take j) := ⟨_, rfl⟩
            rw [← hp]
            have HP := Lib.hid hp
            clear hp
            have hj0 : (0 : Int) ≤ (j : Int) := by omega
            have hj1 : (j : Int) < (ts.length : Int) := by omega
            rcases p with _ | _
            · go_wp2_with fail
              go_roundw
              case rel => exact ⟨j + 1, by omega, by rw [take_right HTJ.out, ← HP.out]; rfl, by go_num, HW⟩
              case measure => simp [intOf]; omega
            · go_wp2_with fail
              refine Calls.mono HRT.out ?_
              rintro e wq ⟨rfl, hbq⟩
              have HWQ := Lib.hid (HW.out.trans (hbq.mono HW.out.size))
              clear hbq d0 d1
              go_wp2_with fail
              go_roundw
              case rel => exact ⟨j + 1, by omega, by rw [take_right HTJ.out, ← HP.out]; simp, by go_num, HWQ⟩
              case measure => simp [intOf]; omega
          · obtain rfl : j = ts.length := by omega
            rw [show allR (ts.take ts.length) = q from by rw [List.take_length]; exact HQ.out.symm]
            clear hlt hj
            replace HE := Lib.hid (HE.out.below HW.out)
            replace HL := Lib.hid (HL.out.below HW.out)
            replace K2 := Lib.hid (K2.out.below HW.out)
            replace K5 := Lib.hid (K5.out.below HW.out)
            replace K7 := Lib.hid (K7.out.below HW.out)
            replace K9 := Lib.hid (K9.out.below HW.out)
            have d50 : (wo).cell? ⟨w4.heap.size, 0, none⟩ = some (.slice A4 x4.nodes.length c4) := K5.out.blk.cell 0
            have d51 : (wo).cell? ⟨w4.heap.size, 1, none⟩ = some (.int .i64 x4.root) := K5.out.blk.cell 1
            have d70 : (wo).cell? ⟨w7.heap.size, 0, none⟩ = some (.slice A7 x7.nodes.length c7) := K7.out.blk.cell 0
            have d71 : (wo).cell? ⟨w7.heap.size, 1, none⟩ = some (.int .i64 x7.root) := K7.out.blk.cell 1
            have d90 : (wo).cell? ⟨w8.heap.size, 0, none⟩ = some (.slice A8 x8.nodes.length c8) := K9.out.blk.cell 0
            have d91 : (wo).cell? ⟨w8.heap.size, 1, none⟩ = some (.int .i64 x8.root) := K9.out.blk.cell 1
            go_wp2_with fail
            clear d50 d51 d70 d71 d90 d91
            obtain ⟨wd, hwd⟩ : ∃ wd, wd = wo.alloc (.cells #[.slice A4 x4.nodes.length c4, .int .i64 x4.root, .bool ok, .slice A7 x7.nodes.length c7, .int .i64 x7.root, .bool q, .slice A8 x8.nodes.length c8, .int .i64 x8.root, .bool q] 68) := ⟨_, rfl⟩
            have M5 := Lib.hid (show Made x4 ok by rw [X4.out, HOK.out]; exact made_make ta)
            have M7 := Lib.hid (show Made x7 q by rw [X7.out, HQ.out, ← seq_allR]; exact made_seq ts)
            have M9 := Lib.hid (show Made x8 q by rw [X8.out, HQ.out, ← choice_allR]; exact made_choice ts)
            have HR3 := Lib.hid (show ∀ k, k < 3 → ∃ A c x b, Row3 wd ((w8.heap.size) :: (w7.heap.size) :: (w4.heap.size) :: (w.heap.size) :: []) wo.heap.size k A c x b by rw [hwd]; exact rows3 (Blk.new _ _ _) (K5.out.tree.alloc _) (K7.out.tree.alloc _) (K9.out.tree.alloc _) M5.out M7.out M9.out Z4.out Z7.out Z8.out)
            replace HE := Lib.hid (show Ev w wd by rw [hwd]; exact HE.out.alloc _)
            replace HL := Lib.hid (show BL wd ((w8.heap.size) :: (w7.heap.size) :: (w4.heap.size) :: (w.heap.size) :: []) by rw [hwd]; exact HL.out.below (below_row wo _))
            rw [← hwd]
            clear hwd K2 K5 K7 K9
            obtain ⟨g3, hg3⟩ : ∃ g3, g3 = wo.heap.size := ⟨_, rfl⟩
            rw [← hg3] at HR3 ⊢
            clear hg3
            go_loopw [91] (fun i wr => ∃ k : Nat, k ≤ 3 ∧ i = .int .i64 k ∧ Hid (Below wd.heap.size wd wr)) (fun i _ => 3 - (intOf i).toNat)
            case atStart => exact ⟨0, Nat.zero_le _, rfl, Lib.hid (Below.refl _ _)⟩
            case round =>
              obtain ⟨wp, rfl⟩ : ∃ wp, wp = wr := ⟨_, rfl⟩
              obtain ⟨k, hk, rfl, HP⟩ := hrel
              by_cases hlt : k < 3
              · obtain ⟨A, c, x, b, hR⟩ := HR3.out k hlt
                replace hR := hR.below HP.out
                have HRR := Lib.hid hR
                have c0 := hR.c0
                have c1 := hR.c1
                have c2 := hR.c2
                clear hR
                have hk0 : (0 : Int) ≤ (k : Int) := by omega
                have hk1 : (k : Int) < 3 := by omega
                replace HE := Lib.hid (HE.out.below HP.out)
                replace HL := Lib.hid (HL.out.below HP.out)
                have hB := Blk.new wp 68 #[.slice A x.nodes.length c, .int .i64 x.root, .bool b]
                have e0 : (wp.alloc (.cells #[.slice A x.nodes.length c, .int .i64 x.root, .bool b] 68)).cell? ⟨wp.heap.size, 0, none⟩ = some (.slice A x.nodes.length c) := hB.cell 0
                have e1 : (wp.alloc (.cells #[.slice A x.nodes.length c, .int .i64 x.root, .bool b] 68)).cell? ⟨wp.heap.size, 1, none⟩ = some (.int .i64 x.root) := hB.cell 1
                have e2 : (wp.alloc (.cells #[.slice A x.nodes.length c, .int .i64 x.root, .bool b] 68)).cell? ⟨wp.heap.size, 2, none⟩ = some (.bool b) := hB.cell 2
                have HB := Lib.hid hB
                clear hB
                rcases b with _ | _
                · have hx0 : ¬ (0 : Int) < (x.nodes.length : Int) := by have := HRR.out.made.no rfl; omega
                  go_wp2_with fail
                  go_roundw
                  case rel => exact ⟨k + 1, by omega, by go_num, Lib.hid (HP.out.trans ((below_row _ _).mono HP.out.size))⟩
                  case measure => simp [intOf]; omega
                · have HX := Lib.hid (show Made x true from HRR.out.made)
                  have VX := Lib.hid (HRR.out.tree.alloc (.cells #[.slice A x.nodes.length c, .int .i64 x.root, .bool true] 68))
                  have ZX := Lib.hid HRR.out.size
                  replace HE := Lib.hid (HE.out.alloc (.cells #[.slice A x.nodes.length c, .int .i64 x.root, .bool true] 68))
                  replace HL := Lib.hid (HL.out.below (below_row wp (.cells #[.slice A x.nodes.length c, .int .i64 x.root, .bool true] 68)))
                  go_wp2_with fail
                  clear c0 c1 c2 e0 e1 e2
                  refine Calls.mono (make_c (b := true) HE.out HL.out VX.out (by have := ZX.out; omega) (decide_eq_true HX.out.right)) ?_
                  rintro e wm ⟨Am, cm, xm, rfl, Xm, Vm, Bm⟩
                  replace Xm := Lib.hid (Xm.out.trans HX.out.nf)
                  have HP2 := Lib.hid (show Below wd.heap.size wd (wm.alloc (.cells #[.slice Am xm.nodes.length cm, .int .i64 xm.root] 34)) from (HP.out.trans (((below_row _ _).trans (Bm.out.mono (by simp))).mono HP.out.size)).trans ((below_row _ _).mono (Nat.le_trans HP.out.size (Nat.le_trans (by simp) Bm.out.size))))
                  obtain ⟨wf, hwf⟩ : ∃ wf, wf = wm.alloc (.cells #[.slice Am xm.nodes.length cm, .int .i64 xm.root] 34) := ⟨_, rfl⟩
                  have HB15 := Lib.hid (show Blk wf wm.heap.size 34 #[.slice Am xm.nodes.length cm, .int .i64 xm.root] by rw [hwf]; exact Blk.new _ _ _)
                  have HB14 := Lib.hid (show Blk wf wp.heap.size 68 #[.slice A x.nodes.length c, .int .i64 x.root, .bool true] by rw [hwf]; exact (HB.out.below Bm.out HB.out.lt).alloc _)
                  replace HE := Lib.hid (show Ev w wf by rw [hwf]; exact (HE.out.below Bm.out).alloc _)
                  replace HL := Lib.hid (show BL wf ((w8.heap.size) :: (w7.heap.size) :: (w4.heap.size) :: (w.heap.size) :: []) by rw [hwf]; exact (HL.out.below Bm.out).below (below_row wm _))
                  replace VX := Lib.hid (show RT wf ((w8.heap.size) :: (w7.heap.size) :: (w4.heap.size) :: (w.heap.size) :: []) A c x by rw [hwf]; exact (VX.out.below Bm.out).alloc _)
                  replace Vm := Lib.hid (show RT wf ((w8.heap.size) :: (w7.heap.size) :: (w4.heap.size) :: (w.heap.size) :: []) Am cm xm by rw [hwf]; exact Vm.out.alloc _)
                  rw [← hwf] at HP2
                  clear HB Bm HP HRR
                  obtain ⟨bs, hbs⟩ : ∃ bs : List Nat, bs = (w8.heap.size) :: (w7.heap.size) :: (w4.heap.size) :: (w.heap.size) :: [] := ⟨_, rfl⟩
                  rw [← hbs] at HL VX Vm
                  clear hbs HR3 HG HN
                  go_wp2_with fail
                  rw [← hwf]
                  clear hwf
                  have HC14 := Lib.hid (show ∀ wx, Below wf.heap.size wf wx → wx.cell? ⟨wp.heap.size, 0, none⟩ = some (.slice A x.nodes.length c) ∧ wx.cell? ⟨wp.heap.size, 1, none⟩ = some (.int .i64 x.root) from fun wx hx => ⟨(HB14.out.below hx HB14.out.lt).cell 0, (HB14.out.below hx HB14.out.lt).cell 1⟩)
                  have HC15 := Lib.hid (show ∀ wx, Below wf.heap.size wf wx → wx.cell? ⟨wm.heap.size, 0, none⟩ = some (.slice Am xm.nodes.length cm) ∧ wx.cell? ⟨wm.heap.size, 1, none⟩ = some (.int .i64 xm.root) from fun wx hx => ⟨(HB15.out.below hx HB15.out.lt).cell 0, (HB15.out.below hx HB15.out.lt).cell 1⟩)
                  refine wp_region_inv (G := Unit) () UE UN
                    [fun v _ => v = .pointer (some ⟨wp.heap.size, 0, none⟩), fun v _ => v = .agg #[.slice A x.nodes.length c, .int .i64 x.root], fun v _ => v = .bool true, fun v _ => v = .bool false, fun v _ => v = .bool false, fun v _ => v = .pointer (some ⟨wp.heap.size, 0, none⟩), fun v _ => v = .agg #[.slice A x.nodes.length c, .int .i64 x.root], fun v _ => v = .bool true, fun v _ => v = .bool false, fun v _ => v = .bool false, fun v _ => v = .bool false, fun v _ => v = .pointer (some ⟨wp.heap.size, 0, none⟩), fun v _ => v = .agg #[.slice A x.nodes.length c, .int .i64 x.root], fun v s => ∃ A c, v = .agg #[.slice A x.nodes.length c, .int .i64 x.root] ∧ RT s.2 bs A c x, fun v _ => v = .pointer (some ⟨wp.heap.size, 0, none⟩), fun v _ => v = .agg #[.slice A x.nodes.length c, .int .i64 x.root], fun v _ => v = .bool true, fun v _ => v = .bool false, fun v _ => v = .bool false, fun v _ => v = .bool false, fun v _ => v = .agg #[.slice Am xm.nodes.length cm, .int .i64 xm.root], fun v _ => v = .bool true, fun v _ => v = .pointer (some ⟨wp.heap.size, 0, none⟩), fun v _ => v = .agg #[.slice A x.nodes.length c, .int .i64 x.root], fun v _ => v = .bool true, fun v _ => v = .bool false, fun v _ => v = .bool false]
                    (by kernel_rfl) UE.trans (UE.refl _) (by kernel_rfl) (by kernel_rfl) (fun _ => trivial) ?rstnb ?rstepsnb ?rfinnb
                  case rstnb =>
                    intro R hR v s s' _ h hr
                    simp only [List.mem_cons, List.not_mem_nil, or_false] at hR
                    rcases hR with rfl | rfl | rfl | rfl | rfl | rfl | rfl | rfl | rfl | rfl | rfl | rfl | rfl | rfl | rfl | rfl | rfl | rfl | rfl | rfl | rfl | rfl | rfl | rfl | rfl | rfl | rfl
                    · exact hr
                    · exact hr
                    · exact hr
                    · exact hr
                    · exact hr
                    · exact hr
                    · exact hr
                    · exact hr
                    · exact hr
                    · exact hr
                    · exact hr
                    · exact hr
                    · exact hr
                    · exact hr.imp fun _ h1 => h1.imp fun _ h2 => ⟨h2.1, h2.2.below h⟩
                    · exact hr
                    · exact hr
                    · exact hr
                    · exact hr
                    · exact hr
                    · exact hr
                    · exact hr
                    · exact hr
                    · exact hr
                    · exact hr
                    · exact hr
                    · exact hr
                    · exact hr
                  case rstepsnb =>
                    refine ⟨?_, ?_, ?_, ?_, ?_, ?_, ?_, ?_, ?_, ?_, ?_, ?_, ?_, ?_, ?_, ?_, ?_, ?_, ?_, ?_, ?_, ?_, ?_, ?_, ?_, ?_, ?_, trivial⟩
                    · intro a γ wx hB hE hN hW K hK
                      have hw := UE.start hE
                      have h14 : a.tmps[14]? = some (.pointer (some ⟨wp.heap.size, 0, none⟩)) := (hB.at_ 14 (of_decide_eq_true (by kernel_rfl))).trans rfl
                      clear hB hN hE
                      go_simp
                      exact hK (.pointer (some ⟨wp.heap.size, 0, none⟩)) () _ (UE.refl _) (fun _ _ h => h) rfl
                    · intro a γ wx hB hE hN hW K hK
                      have hw := UE.start hE
                      obtain ⟨⟨_, h109, rfl⟩, -⟩ := hW
                      have hc := HC14.out _ hw
                      clear hB hN hE
                      go_simp
                      exact hK (.agg #[.slice A x.nodes.length c, .int .i64 x.root]) () _ (UE.refl _) (fun _ _ h => h) rfl
                    · intro a γ wx hB hE hN hW K hK
                      have hw := UE.start hE
                      obtain ⟨⟨_, h110, rfl⟩, -⟩ := hW
                      clear hB hN hE
                      go_simp
                      refine ((rightb_c (b := true) (HE.out.below hw) (VX.out.below hw) (by have := ZX.out; omega) (decide_eq_true HX.out.right))).mono ?_
                      rintro e w' ⟨rfl, hb0⟩
                      have hbb := hb0.out
                      exact hK _ () _ hbb (fun _ _ h => h) rfl
                    · intro a γ wx hB hE hN hW K hK
                      have hw := UE.start hE
                      obtain ⟨⟨_, h111, rfl⟩, -⟩ := hW
                      clear hB hN hE
                      go_simp
                      exact hK (.bool false) () _ (UE.refl _) (fun _ _ h => h) rfl
                    · intro a γ wx hB hE hN hW K hK
                      have hw := UE.start hE
                      obtain ⟨⟨_, h112, rfl⟩, -⟩ := hW
                      clear hB hN hE
                      go_simp
                      exact hK (.bool false) () _ (UE.refl _) (fun _ _ h => h) rfl
                    · intro a γ wx hB hE hN hW K hK
                      have hw := UE.start hE
                      obtain ⟨⟨_, h113, rfl⟩, -⟩ := hW
                      have h14 : a.tmps[14]? = some (.pointer (some ⟨wp.heap.size, 0, none⟩)) := (hB.at_ 14 (of_decide_eq_true (by kernel_rfl))).trans rfl
                      clear hB hN hE
                      go_simp
                      exact hK (.pointer (some ⟨wp.heap.size, 0, none⟩)) () _ (UE.refl _) (fun _ _ h => h) rfl
                    · intro a γ wx hB hE hN hW K hK
                      have hw := UE.start hE
                      obtain ⟨⟨_, h114, rfl⟩, ⟨_, h113, rfl⟩, -⟩ := hW
                      have hc := HC14.out _ hw
                      clear hB hN hE
                      go_simp
                      exact hK (.agg #[.slice A x.nodes.length c, .int .i64 x.root]) () _ (UE.refl _) (fun _ _ h => h) rfl
                    · intro a γ wx hB hE hN hW K hK
                      have hw := UE.start hE
                      obtain ⟨⟨_, h115, rfl⟩, ⟨_, h113, rfl⟩, -⟩ := hW
                      clear hB hN hE
                      go_simp
                      refine ((normal_c (b := true) (HE.out.below hw) (VX.out.below hw) (by have := ZX.out; omega) HX.out.normal)).mono ?_
                      rintro e w' ⟨rfl, hb0⟩
                      have hbb := hb0.out
                      exact hK _ () _ hbb (fun _ _ h => h) rfl
                    · intro a γ wx hB hE hN hW K hK
                      have hw := UE.start hE
                      obtain ⟨⟨_, h116, rfl⟩, ⟨_, h113, rfl⟩, -⟩ := hW
                      clear hB hN hE
                      go_simp
                      exact hK (.bool false) () _ (UE.refl _) (fun _ _ h => h) rfl
                    · intro a γ wx hB hE hN hW K hK
                      have hw := UE.start hE
                      obtain ⟨⟨_, h113, rfl⟩, ⟨_, h117, rfl⟩, -⟩ := hW
                      clear hB hN hE
                      go_simp
                      exact hK (.bool false) () _ (UE.refl _) (fun _ _ h => h) rfl
                    · intro a γ wx hB hE hN hW K hK
                      have hw := UE.start hE
                      obtain ⟨⟨_, h118, rfl⟩, -⟩ := hW
                      clear hB hN hE
                      go_simp
                      exact hK (.bool false) () _ (UE.refl _) (fun _ _ h => h) rfl
                    · intro a γ wx hB hE hN hW K hK
                      have hw := UE.start hE
                      obtain ⟨⟨_, h119, rfl⟩, -⟩ := hW
                      have h14 : a.tmps[14]? = some (.pointer (some ⟨wp.heap.size, 0, none⟩)) := (hB.at_ 14 (of_decide_eq_true (by kernel_rfl))).trans rfl
                      clear hB hN hE
                      go_simp
                      exact hK (.pointer (some ⟨wp.heap.size, 0, none⟩)) () _ (UE.refl _) (fun _ _ h => h) rfl
                    · intro a γ wx hB hE hN hW K hK
                      have hw := UE.start hE
                      obtain ⟨⟨_, h120, rfl⟩, ⟨_, h119, rfl⟩, -⟩ := hW
                      have hc := HC14.out _ hw
                      clear hB hN hE
                      go_simp
                      exact hK (.agg #[.slice A x.nodes.length c, .int .i64 x.root]) () _ (UE.refl _) (fun _ _ h => h) rfl
                    · intro a γ wx hB hE hN hW K hK
                      have hw := UE.start hE
                      obtain ⟨⟨_, h121, rfl⟩, ⟨_, h119, rfl⟩, -⟩ := hW
                      clear hB hN hE
                      go_simp
                      refine ((clean_c (HE.out.below hw) (HL.out.below hw) (VX.out.below hw) (by have := ZX.out; omega))).mono ?_
                      rintro e w' ⟨A, c, y, rfl, hy, hu, hb0⟩
                      have hbb := hb0.out
                      obtain rfl := hy.out.trans HX.out.clean
                      exact hK _ () _ hbb (fun _ _ h => h) ⟨A, c, rfl, hu.out⟩
                    · intro a γ wx hB hE hN hW K hK
                      have hw := UE.start hE
                      obtain ⟨⟨_, h119, rfl⟩, -⟩ := hW
                      have h14 : a.tmps[14]? = some (.pointer (some ⟨wp.heap.size, 0, none⟩)) := (hB.at_ 14 (of_decide_eq_true (by kernel_rfl))).trans rfl
                      clear hB hN hE
                      go_simp
                      exact hK (.pointer (some ⟨wp.heap.size, 0, none⟩)) () _ (UE.refl _) (fun _ _ h => h) rfl
                    · intro a γ wx hB hE hN hW K hK
                      have hw := UE.start hE
                      obtain ⟨⟨_, h123, rfl⟩, ⟨_, h119, rfl⟩, -⟩ := hW
                      have hc := HC14.out _ hw
                      clear hB hN hE
                      go_simp
                      exact hK (.agg #[.slice A x.nodes.length c, .int .i64 x.root]) () _ (UE.refl _) (fun _ _ h => h) rfl
                    · intro a γ wx hB hE hN hW K hK
                      have hw := UE.start hE
                      obtain ⟨⟨v122, h122, ⟨A122, c122, rfl, r122⟩⟩, ⟨_, h124, rfl⟩, -, ⟨_, h119, rfl⟩, -⟩ := hW
                      clear hB hN hE
                      go_simp
                      refine ((is_cc (HE.out.below hw) r122 (VX.out.below hw) rfl (by have := ZX.out; omega) rfl)).mono ?_
                      rintro e w' ⟨rfl, hb0⟩
                      have hbb := hb0.out
                      exact hK _ () _ hbb (fun _ _ h => h) rfl
                    · intro a γ wx hB hE hN hW K hK
                      have hw := UE.start hE
                      obtain ⟨⟨_, h125, rfl⟩, ⟨_, h119, rfl⟩, -⟩ := hW
                      clear hB hN hE
                      go_simp
                      exact hK (.bool false) () _ (UE.refl _) (fun _ _ h => h) rfl
                    · intro a γ wx hB hE hN hW K hK
                      have hw := UE.start hE
                      obtain ⟨⟨_, h119, rfl⟩, ⟨_, h126, rfl⟩, -⟩ := hW
                      clear hB hN hE
                      go_simp
                      exact hK (.bool false) () _ (UE.refl _) (fun _ _ h => h) rfl
                    · intro a γ wx hB hE hN hW K hK
                      have hw := UE.start hE
                      obtain ⟨⟨_, h127, rfl⟩, -⟩ := hW
                      clear hB hN hE
                      go_simp
                      exact hK (.bool false) () _ (UE.refl _) (fun _ _ h => h) rfl
                    · intro a γ wx hB hE hN hW K hK
                      have hw := UE.start hE
                      obtain ⟨⟨_, h128, rfl⟩, -⟩ := hW
                      have h15 : a.tmps[15]? = some (.pointer (some ⟨wm.heap.size, 0, none⟩)) := (hB.at_ 15 (of_decide_eq_true (by kernel_rfl))).trans rfl
                      have hc := HC15.out _ hw
                      clear hB hN hE
                      go_simp
                      exact hK (.agg #[.slice Am xm.nodes.length cm, .int .i64 xm.root]) () _ (UE.refl _) (fun _ _ h => h) rfl
                    · intro a γ wx hB hE hN hW K hK
                      have hw := UE.start hE
                      obtain ⟨⟨_, h128, rfl⟩, -⟩ := hW
                      have h16 : a.tmps[16]? = some (.bool true) := (hB.at_ 16 (of_decide_eq_true (by kernel_rfl))).trans rfl
                      clear hB hN hE
                      go_simp
                      exact hK (.bool true) () _ (UE.refl _) (fun _ _ h => h) rfl
                    · intro a γ wx hB hE hN hW K hK
                      have hw := UE.start hE
                      obtain ⟨⟨_, h128, rfl⟩, -⟩ := hW
                      have h14 : a.tmps[14]? = some (.pointer (some ⟨wp.heap.size, 0, none⟩)) := (hB.at_ 14 (of_decide_eq_true (by kernel_rfl))).trans rfl
                      clear hB hN hE
                      go_simp
                      exact hK (.pointer (some ⟨wp.heap.size, 0, none⟩)) () _ (UE.refl _) (fun _ _ h => h) rfl
                    · intro a γ wx hB hE hN hW K hK
                      have hw := UE.start hE
                      obtain ⟨⟨_, h131, rfl⟩, ⟨_, h128, rfl⟩, -⟩ := hW
                      have hc := HC14.out _ hw
                      clear hB hN hE
                      go_simp
                      exact hK (.agg #[.slice A x.nodes.length c, .int .i64 x.root]) () _ (UE.refl _) (fun _ _ h => h) rfl
                    · intro a γ wx hB hE hN hW K hK
                      have hw := UE.start hE
                      obtain ⟨⟨_, h129, rfl⟩, ⟨_, h130, rfl⟩, ⟨_, h132, rfl⟩, ⟨_, h128, rfl⟩, -⟩ := hW
                      clear hB hN hE
                      go_simp
                      refine ((is_cc (HE.out.below hw) (Vm.out.below hw) (VX.out.below hw) Xm.out (by rw [Xm.out]; have := ZX.out; omega) rfl)).mono ?_
                      rintro e w' ⟨rfl, hb0⟩
                      have hbb := hb0.out
                      exact hK _ () _ hbb (fun _ _ h => h) rfl
                    · intro a γ wx hB hE hN hW K hK
                      have hw := UE.start hE
                      obtain ⟨⟨_, h133, rfl⟩, ⟨_, h128, rfl⟩, -⟩ := hW
                      clear hB hN hE
                      go_simp
                      exact hK (.bool false) () _ (UE.refl _) (fun _ _ h => h) rfl
                    · intro a γ wx hB hE hN hW K hK
                      have hw := UE.start hE
                      obtain ⟨⟨_, h128, rfl⟩, ⟨_, h134, rfl⟩, -⟩ := hW
                      clear hB hN hE
                      go_simp
                      exact hK (.bool false) () _ (UE.refl _) (fun _ _ h => h) rfl
                  intro a' γ wz hB hE hK
                  obtain ⟨_, h109, rfl⟩ := hK 0 (of_decide_eq_true (by kernel_rfl))
                  obtain ⟨_, h110, rfl⟩ := hK 1 (of_decide_eq_true (by kernel_rfl))
                  obtain ⟨_, h111, rfl⟩ := hK 2 (of_decide_eq_true (by kernel_rfl))
                  obtain ⟨_, h112, rfl⟩ := hK 3 (of_decide_eq_true (by kernel_rfl))
                  obtain ⟨_, h113, rfl⟩ := hK 4 (of_decide_eq_true (by kernel_rfl))
                  obtain ⟨_, h114, rfl⟩ := hK 5 (of_decide_eq_true (by kernel_rfl))
                  obtain ⟨_, h115, rfl⟩ := hK 6 (of_decide_eq_true (by kernel_rfl))
                  obtain ⟨_, h116, rfl⟩ := hK 7 (of_decide_eq_true (by kernel_rfl))
                  obtain ⟨_, h117, rfl⟩ := hK 8 (of_decide_eq_true (by kernel_rfl))
                  obtain ⟨_, h118, rfl⟩ := hK 9 (of_decide_eq_true (by kernel_rfl))
                  obtain ⟨_, h119, rfl⟩ := hK 10 (of_decide_eq_true (by kernel_rfl))
                  obtain ⟨_, h120, rfl⟩ := hK 11 (of_decide_eq_true (by kernel_rfl))
                  obtain ⟨_, h121, rfl⟩ := hK 12 (of_decide_eq_true (by kernel_rfl))
                  obtain ⟨v122, h122, ⟨A122, c122, rfl, r122⟩⟩ := hK 13 (of_decide_eq_true (by kernel_rfl))
                  obtain ⟨_, h123, rfl⟩ := hK 14 (of_decide_eq_true (by kernel_rfl))
                  obtain ⟨_, h124, rfl⟩ := hK 15 (of_decide_eq_true (by kernel_rfl))
                  obtain ⟨_, h125, rfl⟩ := hK 16 (of_decide_eq_true (by kernel_rfl))
                  obtain ⟨_, h126, rfl⟩ := hK 17 (of_decide_eq_true (by kernel_rfl))
                  obtain ⟨_, h127, rfl⟩ := hK 18 (of_decide_eq_true (by kernel_rfl))
                  obtain ⟨_, h128, rfl⟩ := hK 19 (of_decide_eq_true (by kernel_rfl))
                  obtain ⟨_, h129, rfl⟩ := hK 20 (of_decide_eq_true (by kernel_rfl))
                  obtain ⟨_, h130, rfl⟩ := hK 21 (of_decide_eq_true (by kernel_rfl))
                  obtain ⟨_, h131, rfl⟩ := hK 22 (of_decide_eq_true (by kernel_rfl))
                  obtain ⟨_, h132, rfl⟩ := hK 23 (of_decide_eq_true (by kernel_rfl))
                  obtain ⟨_, h133, rfl⟩ := hK 24 (of_decide_eq_true (by kernel_rfl))
                  obtain ⟨_, h134, rfl⟩ := hK 25 (of_decide_eq_true (by kernel_rfl))
                  obtain ⟨_, h135, rfl⟩ := hK 26 (of_decide_eq_true (by kernel_rfl))
                  have ha := hB.eq [(109, .pointer (some ⟨wp.heap.size, 0, none⟩)), (110, .agg #[.slice A x.nodes.length c, .int .i64 x.root]), (111, .bool true), (112, .bool false), (113, .bool false), (114, .pointer (some ⟨wp.heap.size, 0, none⟩)), (115, .agg #[.slice A x.nodes.length c, .int .i64 x.root]), (116, .bool true), (117, .bool false), (118, .bool false), (119, .bool false), (120, .pointer (some ⟨wp.heap.size, 0, none⟩)), (121, .agg #[.slice A x.nodes.length c, .int .i64 x.root]), (122, .agg #[.slice A122 x.nodes.length c122, .int .i64 x.root]), (123, .pointer (some ⟨wp.heap.size, 0, none⟩)), (124, .agg #[.slice A x.nodes.length c, .int .i64 x.root]), (125, .bool true), (126, .bool false), (127, .bool false), (128, .bool false), (129, .agg #[.slice Am xm.nodes.length cm, .int .i64 xm.root]), (130, .bool true), (131, .pointer (some ⟨wp.heap.size, 0, none⟩)), (132, .agg #[.slice A x.nodes.length c, .int .i64 x.root]), (133, .bool true), (134, .bool false), (135, .bool false)] rfl (by kernel_rfl) ⟨h109, h110, h111, h112, h113, h114, h115, h116, h117, h118, h119, h120, h121, h122, h123, h124, h125, h126, h127, h128, h129, h130, h131, h132, h133, h134, h135, trivial⟩
                  subst ha
                  have hz := UE.start hE
                  clear hK hB hE h109 h110 h111 h112 h113 h114 h115 h116 h117 h118 h119 h120 h121 h122 h123 h124 h125 h126 h127 h128 h129 h130 h131 h132 h133 h134 h135
                  simp only [putAll, List.foldl_cons, List.foldl_nil, List.setIfInBounds_toArray, List.set_cons_succ, List.set_cons_zero]
                  clear HC14 HC15
                  go_wp2_with fail
                  go_roundw
                  case rel => exact ⟨k + 1, by omega, by go_num, Lib.hid (HP2.out.trans (hz.mono HP2.out.size))⟩
                  case measure => simp [intOf]; omega
              · obtain rfl : k = 3 := by omega
                go_wp2_with fail
                go_ret
                exact ⟨rfl, (HE.out.below HP.out).bel⟩
    · go_wp2_with fail
      refine Calls.mono (awake_c HE.out) ?_
      rintro e w3 ⟨rfl, B3⟩
      replace HE := Lib.hid (HE.out.below B3.out)
      replace HL := Lib.hid (HL.out.below B3.out)
      replace K2 := Lib.hid (K2.out.below B3.out)
      go_wp2_with fail
      go_ret
      exact ⟨rfl, HE.out.bel⟩
  · go_wp2_with fail
    refine Calls.mono (awake_c HE.out) ?_
    rintro e w2 ⟨rfl, B2⟩
    replace HE := Lib.hid (HE.out.below B2.out)
    replace HL := Lib.hid (HL.out.below B2.out)
    replace K2 := Lib.hid (K2.out.below B2.out)
    go_wp2_with fail
    go_ret
    exact ⟨rfl, HE.out.bel⟩
end Go.Proofs.YtclfpjfjebheoaaDoor
/- ExprNormal: for every input the law answers true and the input reads as it did (the tied card: the listed package variables lie as their text lays them). No other condition. -/
namespace Go.Proofs.YtclfpjfjebheoaaDoor.ExprNormal
open Go.ChangeShapes Go.WideShapes Go.ChangeAt Go.RowKit Go.ChangeMaps Go.WideElems

theorem own : ownKnob Tryd.prog.godebug = none := by kernel_rfl
theorem laidOut : laidOutB Tryd.prog = true := by kernel_rfl
theorem laid_data : Rows.exprNormalRow.laid.filter (fun x => x.2.handleName?.isNone) = [("bonsai/tree.kids", Rows.laid_bonsai_tree_kids)] := by rfl
theorem prem_of {W : World} (h : laidMetH Tryd.prog Rows.exprNormalRow.laid W) : KTab W ∧ TogTab W := ⟨ktab_of (rest := []) (laid_data ▸ (laidMetH_iff.1 h).1), tog_of h (List.mem_cons_of_mem _ (List.mem_singleton.2 rfl))⟩

set_option maxRecDepth 8000 in
theorem contract (H : Type) (enc : TypeId × Value → H) (W : World) (base : Nat) (args : Array Value) (ds gs : List (DataW H)) (before : List MemPlace)
    (hval : ∀ (j : Nat) t v, Tryd.f9.params[j]? = some t → args[j]? = some v → Value.okWide Tryd.prog W .any base t v)
    (hW : DataW.Whole enc Tryd.prog Tryd.f9.params.toList Rows.exprNormalSpec.vars false W args.toList ds gs before) (hL : laidMetH Tryd.prog Rows.exprNormalRow.laid W) :
    Calls Tryd.prog 9 args W fun e W' => ∃ v, e = .returned v ∧ Rows.exprNormalSpec.post enc Tryd.prog Tryd.f9 false true false false W args v W' := by
  have hW' := hW
  have hlt : ∀ x ∈ before, x.block < W.heap.size := fun x hx => hW.lt x hx
  obtain ⟨p, q, hA0, hV, rfl, hfz, hnd⟩ := hW
  have hA : DataW.TrodAll enc Tryd.prog W 0 (fun _ => true) true Tryd.f9.params.toList args.toList ds p := hA0
  rw [Tryd.params9] at hA hval
  obtain ⟨v0, vs0, d0, ds0, p0, q0, hargs, rfl, rfl, h0, r0⟩ := trodAll_cons hA
  obtain ⟨v1, vs1, d1, ds1, p1, q1, rfl, rfl, rfl, h1, r1⟩ := trodAll_cons r0
  obtain ⟨rfl, rfl, rfl⟩ := trodAll_nil r1
  obtain rfl : args = #[v0, v1] := by cases args; simp_all
  obtain ⟨rfl, rfl⟩ := trodVars_none hV
  obtain ⟨t0, w0⟩ := open_tree (hval 0 34 v0 rfl rfl) h0
  obtain ⟨t1, w1⟩ := open_trees (hval 1 48 v1 rfl rfl) h1
  clear hA0
  refine (lexprnormal_any t0 t1 v0 v1 W w0 w1 (prem_of hL).1 (prem_of hL).2).mono fun e W' ⟨he, hb⟩ => ?_
  subst he
  exact ⟨_, rfl, post_true laidOut (by kernel_rfl) (by kernel_rfl) Tryd.underlying4 rfl rfl rfl rfl hW' hb⟩

noncomputable def laidWorld (os : Os) : World :=
  (setTab (setTab (World.holding Tryd.prog os ⟨#[], #[], []⟩) 1 (kidsTab.map (Value.int .i64))) 2 (togFns.map fun f => Value.func (.func f) #[] #[]))
theorem laid_met (os : Os) : laidMetH Tryd.prog Rows.exprNormalRow.laid ((laidWorld os).forCall (fun _ _ => 0) ⟨#[], #[.agg #[.slice none 0 0, .int .i64 0], .slice none 0 0], []⟩).memory :=
  laidMetH_of_parts3 (fuel := 8) (laidMet_of_run' 8 (by kernel_rfl) (by kernel_rfl)) (by kernel_rfl) (by kernel_rfl)
theorem reads (os : Os) {H : Type} (enc : TypeId × Value → H) : ∃ places, DataW.whole enc Tryd.prog ((laidWorld os).forCall (fun _ _ => 0) ⟨#[], #[.agg #[.slice none 0 0, .int .i64 0], .slice none 0 0], []⟩).memory Tryd.f9.params.toList Rows.exprNormalSpec.vars false #[Value.agg #[.slice none 0 0, .int .i64 0], Value.slice none 0 0].toList 8 = some ([.agg [.nil, .lit (.int .i64 0)], .nil], [], places) :=
  ⟨[], by kernel_rfl⟩

set_option maxRecDepth 100000 in
theorem lifted (os : Os) (started : os.Started) (H : Type) (enc : TypeId × Value → H) (F : Stop.Interp) :
    ReturnsInHanded {} Tryd.checked os 9 .any ((OpenSpec.ofChange Rows.exprNormalSpec).preRow enc Tryd.prog Tryd.f9 Rows.exprNormalRow.domain false Rows.exprNormalRow.laid) (((OpenSpec.ofChange Rows.exprNormalSpec).at F).post enc Tryd.prog Tryd.f9 false true false false) := by
  obtain ⟨places, hx⟩ := reads os enc
  refine returnsInHanded_of_row (C := Tryd.checked) (s := OpenSpec.ofChange Rows.exprNormalSpec) own started (by kernel_rfl) Tryd.func9
    (witness_row_at (enc := enc) (C := Tryd.checked) false (laidWorld os) #[.agg #[.slice none 0 0, .int .i64 0], .slice none 0 0] rfl (by kernel_rfl) (by kernel_rfl) (by kernel_rfl)
      (OpenSpec.preRow_of_cond 8 hx (by kernel_rfl) (fun k hk => by cases hk) (by kernel_rfl) (laid_met os))) ?_
  intro W base args ds gs before hval hW _ _ _ hL _ _
  exact contract H enc W base args ds gs before hval hW hL

theorem said : Rows.ExprNormalSaid :=
  OpenClaim.holds_of_cond 9 Tryd.f9 rfl rfl rfl rfl rfl rfl rfl ⟨rfl, rfl, rfl, rfl, rfl⟩ rfl rfl rfl rfl rfl (by kernel_rfl) Tryd.func9 (by kernel_rfl)
    (of_decide_eq_true (by kernel_rfl)) (by unfold Func.isWrapper; first | (rw [if_pos (by decide +kernel)]; kernel_rfl) | (rw [if_neg (by decide +kernel)]; exact ⟨rfl, rfl⟩))
    (fun os started H enc _ F => by rw [OpenClaim.pre_eq_preRow]; exact lifted os started H enc F)

theorem plain (f : FuncId) (fn : Func) (hf : Tryd.pinned.checked.prog.funcNamed "bonsai/bonsailaw05.ExprNormal" = some f) (hfn : Tryd.pinned.checked.prog.funcs[f]? = some fn) :
    false = Tryd.pinned.checked.prog.looks [] ∧ ∀ (j : Nat) t, fn.params[j]? = some t → Tryd.pinned.checked.prog.wantsStandIn t = false := by
  obtain rfl : f = 9 := Option.some.inj ((show Tryd.prog.funcNamed "bonsai/bonsailaw05.ExprNormal" = some 9 by kernel_rfl).symm.trans hf) |>.symm
  obtain rfl : fn = Tryd.f9 := (Option.some.inj (Tryd.func9.symm.trans hfn)).symm
  refine ⟨by kernel_rfl, fun j t ht => ?_⟩
  have hall : Tryd.f9.params.toList.all (fun t => Tryd.prog.wantsStandIn t == false) = true := by kernel_rfl
  have := List.all_eq_true.1 hall t (Array.mem_toList_iff.2 (Array.mem_of_getElem? ht))
  exact eq_of_beq this

/-- THE CARD. -/
theorem card : Rows.ExprNormalCardSaid :=
  Claim7.holds_tied_plain_at .later [] _ _ _ _ said (fun _ h => by cases h) (by kernel_rfl) (fun _ h => by cases h) exprNormal_row_tie rfl ⟨rfl, rfl⟩ (by kernel_rfl) rfl plain (by kernel_rfl)
end Go.Proofs.YtclfpjfjebheoaaDoor.ExprNormal

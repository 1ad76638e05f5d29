/- The parts of a proof, merged: Ex2 TMore TMid Ex3 Ex4 Ex5 Ex6 TLaidF Ex7 Ex8 Ex9 Ex10 Ex11 Ex12 -/
import Derived.Test.YtclfpjfjebheoaaDoorP2
import Derived.Deep.CutBlock
import Derived.Deep.Cut
import Derived.IntWalk
import Derived.LaidMore
import Derived.LaidSub
/- expr.some: the function that adds a part. -/
namespace Go.Proofs.YtclfpjfjebheoaaDoor
set_option linter.unusedSimpArgs false
open Go.RowKit
open Classical

/-- A tree that reads in soft blocks of X. -/
def XTree (w : World) (X : Nat → Prop) (v : Value) (t : Tr) : Prop := RTree w (fun b => X b ∧ b < w.heap.size ∧ Soft w b) v t
theorem XTree.below {w w' : World} {X : Nat → Prop} {v : Value} {t : Tr} (h : XTree w X v t) (hb : Below w.heap.size w w') : XTree w' X v t :=
  (RTree.below h hb fun _ h => h.2.1).more fun b h => ⟨h.1, Nat.lt_of_lt_of_le h.2.1 hb.size, h.2.2.below hb h.2.1⟩
theorem XTree.has {w : World} {X : Nat → Prop} {v : Value} {t : Tr} (h : XTree w X v t) : HasT w v t := h.more fun _ h => h.2.1
theorem XTree.weaken {w : World} {X Y : Nat → Prop} {v : Value} {t : Tr} (h : XTree w X v t) (hX : ∀ b, X b → b < w.heap.size → Y b) : XTree w Y v t := h.more fun b hb => ⟨hX b hb.1 hb.2.1, hb.2⟩
theorem XTree.agg {w : World} {X : Nat → Prop} {v : Value} {t : Tr} (h : XTree w X v t) : ∃ A c, v = .agg #[.slice A t.nodes.length c, .int .i64 t.root] := by
  obtain ⟨nv, rfl, hn, _⟩ := h
  obtain ⟨A, c, rfl, _⟩ := hn.at_
  exact ⟨A, c, rfl⟩
theorem XTree.of_own {w : World} {base : Nat} {v : Value} {t : Tr} (h : OwnTree w base v t) (h1 : -9223372036854775808 ≤ t.root) (h2 : t.root ≤ 9223372036854775807) : XTree w (fun b => base ≤ b) v t := h.soft h1 h2
theorem XTree.wtree {w : World} {lo : Nat} {X : Nat → Prop} {v : Value} {t : Tr} (h : XTree w X v t) (hX : ∀ b, X b → b < w.heap.size → lo ≤ b) : WTree w lo v t := XTree.weaken (Y := fun b => lo ≤ b) h hX
/-- A store into a block that is none of X. -/
theorem XTree.far {w w' : World} {X : Nat → Prop} {v : Value} {t : Tr} {g : Nat} (h : XTree w X v t) (hg : w.grownBy w' (some g)) (hX : ¬ X g) : XTree w' X v t :=
  (h.keep fun p hp => World.cell?_of_block (hg.block p.block hp.2.1 (fun e => hX (by injection e with e; exact e ▸ hp.1)))).more fun b hb => ⟨hb.1, Nat.lt_of_lt_of_le hb.2.1 hg.size, hb.2.2.grown hg hb.2.1 fun e => hX (by injection e with e; exact e ▸ hb.1)⟩
/-- A row of trees of the call's own; the trees lie in blocks of X, soft, not the row's own. -/
def OL (w : World) (base : Nat) (X : Nat → Prop) (v : Value) (ts : List Tr) : Prop := ∃ nvs : List Value, nvs.length = ts.length ∧ w.ownsRow base 34 2 v ts.length (treesCells ts nvs) ∧
  ∀ (j : Nat) (t : Tr) (nv : Value), ts[j]? = some t → nvs[j]? = some nv → RNodes w (fun b => X b ∧ b < w.heap.size ∧ v.ownBlock ≠ some b ∧ Soft w b) nv t.nodes ∧ -9223372036854775808 ≤ t.root ∧ t.root ≤ 9223372036854775807
theorem OL.nil_ (w : World) (base : Nat) (X : Nat → Prop) : OL w base X (.slice none 0 0) [] := ⟨[], rfl, World.ownsRow_nil _ _ _ _, fun j t nv h => by simp at h⟩
theorem OL.list {w : World} {base lo : Nat} {v : Value} {ts : List Tr} (h : OL w base (fun b => lo ≤ b) v ts) : OwnList w base lo v ts := h
theorem OL.weaken {w : World} {base : Nat} {X Y : Nat → Prop} {v : Value} {ts : List Tr} (h : OL w base X v ts) (hX : ∀ b, X b → Y b) : OL w base Y v ts := by
  obtain ⟨nvs, hl, hr, hn⟩ := h
  exact ⟨nvs, hl, hr, fun j t nv h1 h2 => ⟨(hn j t nv h1 h2).1.more fun b h => ⟨hX _ h.1, h.2⟩, (hn j t nv h1 h2).2⟩⟩
theorem OL.below {w w' : World} {base : Nat} {X : Nat → Prop} {v : Value} {ts : List Tr} (h : OL w base X v ts) (hb : Below w.heap.size w w') : OL w' base X v ts := by
  obtain ⟨nvs, hl, hr, hn⟩ := h
  refine ⟨nvs, hl, hr.kept (only_of_below hb none) ?_, fun j t nv h1 h2 => ⟨((hn j t nv h1 h2).1.below hb fun _ h => h.2.1).more fun b h => ⟨h.1, Nat.lt_of_lt_of_le h.2.1 hb.size, h.2.2.1, h.2.2.2.below hb h.2.1⟩, (hn j t nv h1 h2).2⟩⟩
  cases hv : v.ownBlock with
  | none => exact .inl rfl
  | some g => exact .inr (by simp)
theorem OL.frame {w w' : World} {base g : Nat} {X : Nat → Prop} {v : Value} {ts : List Tr} (h : OL w base X v ts) (hg : w.grownBy w' (some g)) (hv : v.ownBlock ≠ some g) (hX : ¬ X g) : OL w' base X v ts := by
  obtain ⟨nvs, hl, hr, hn⟩ := h
  exact ⟨nvs, hl, hr.kept hg (.inr hv), fun j t nv h1 h2 => ⟨((hn j t nv h1 h2).1.grown hg fun b h => ⟨h.2.1, fun e => hX (by injection e with e; exact e ▸ h.1)⟩).more fun b h => ⟨h.1, Nat.lt_of_lt_of_le h.2.1 hg.size, h.2.2.1, h.2.2.2.grown hg h.2.1 fun e => hX (by injection e with e; exact e ▸ h.1)⟩, (hn j t nv h1 h2).2⟩⟩
theorem OL.lt {w : World} {base : Nat} {X : Nat → Prop} {v : Value} {ts : List Tr} (h : OL w base X v ts) {g : Nat} (hg : v.ownBlock = some g) : base ≤ g ∧ g < w.heap.size := by
  obtain ⟨nvs, hl, hr, hn⟩ := h
  exact own_blk_lt hr hg
theorem OL.slice {w : World} {base : Nat} {X : Nat → Prop} {v : Value} {ts : List Tr} (h : OL w base X v ts) : ∃ A c, v = .slice A ts.length c := by
  obtain ⟨nvs, hl, hr, hn⟩ := h
  obtain ⟨A, c, rfl, _⟩ := own_slice hr
  exact ⟨A, c, rfl⟩
/-- A row that grows by others. -/
theorem OL.append {w w' : World} {base : Nat} {X : Nat → Prop} {v v' : Value} {ts us : List Tr} {nvs mvs : List Value} {S : Nat → Prop} (hl : nvs.length = ts.length)
    (hn : ∀ (j : Nat) (t : Tr) (nv : Value), ts[j]? = some t → nvs[j]? = some nv → RNodes w (fun b => X b ∧ b < w.heap.size ∧ v.ownBlock ≠ some b ∧ Soft w b) nv t.nodes ∧ -9223372036854775808 ≤ t.root ∧ t.root ≤ 9223372036854775807)
    (hl2 : mvs.length = us.length) (hn2 : ∀ (j : Nat) (t : Tr) (nv : Value), us[j]? = some t → mvs[j]? = some nv → RNodes w S nv t.nodes ∧ -9223372036854775808 ≤ t.root ∧ t.root ≤ 9223372036854775807)
    (hS : ∀ b, S b → X b ∧ b < w.heap.size ∧ v.ownBlock ≠ some b ∧ Soft w b)
    (hr : w'.ownsRow base 34 2 v' (ts.length + us.length) (treesCells ts nvs ++ treesCells us mvs)) (hg : w.grownBy w' v.ownBlock) (hat : v'.ownBlock = v.ownBlock ∨ ∀ g, v'.ownBlock = some g → w.heap.size ≤ g) : OL w' base X v' (ts ++ us) := by
  have hne : ∀ b, X b ∧ b < w.heap.size ∧ v.ownBlock ≠ some b ∧ Soft w b → X b ∧ b < w'.heap.size ∧ v'.ownBlock ≠ some b ∧ Soft w' b := fun b hb => by
    refine ⟨hb.1, Nat.lt_of_lt_of_le hb.2.1 hg.size, fun e => ?_, hb.2.2.2.grown hg hb.2.1 fun e => hb.2.2.1 e.symm⟩
    rcases hat with h | h
    · exact hb.2.2.1 (h ▸ e)
    · have := h b e; have := hb.2.1; omega
  have hcells : ∀ (xs : List Tr) (bs : List Value), bs.length = xs.length → treesCells (xs ++ us) (bs ++ mvs) = treesCells xs bs ++ treesCells us mvs := fun xs bs h => by
    unfold treesCells
    rw [List.zipWith_append h.symm, List.flatten_append]
  refine ⟨nvs ++ mvs, by simp [hl, hl2], ?_, fun j u mv hj hm => ?_⟩
  · rw [hcells ts nvs hl, List.length_append]; exact hr
  · rcases Nat.lt_or_ge j ts.length with hjl | hjl
    · rw [List.getElem?_append_left hjl] at hj
      rw [List.getElem?_append_left (by omega)] at hm
      obtain ⟨ha, hb⟩ := hn j u mv hj hm
      exact ⟨(ha.grown hg fun b h => ⟨h.2.1, fun e => h.2.2.1 e⟩).more hne, hb⟩
    · rw [List.getElem?_append_right hjl] at hj
      rw [List.getElem?_append_right (by omega), hl] at hm
      obtain ⟨ha, hb⟩ := hn2 _ u mv hj hm
      exact ⟨((ha.more hS).grown hg fun b h => ⟨h.2.1, fun e => h.2.2.1 e⟩).more hne, hb⟩
theorem OL.push {w w' : World} {base : Nat} {X : Nat → Prop} {v v' nv : Value} {ts : List Tr} {t : Tr} {nvs : List Value} {S : Nat → Prop} (hl : nvs.length = ts.length)
    (hn : ∀ (j : Nat) (t : Tr) (nv : Value), ts[j]? = some t → nvs[j]? = some nv → RNodes w (fun b => X b ∧ b < w.heap.size ∧ v.ownBlock ≠ some b ∧ Soft w b) nv t.nodes ∧ -9223372036854775808 ≤ t.root ∧ t.root ≤ 9223372036854775807)
    (ht : RNodes w S nv t.nodes) (h1 : -9223372036854775808 ≤ t.root) (h2 : t.root ≤ 9223372036854775807) (hS : ∀ b, S b → X b ∧ b < w.heap.size ∧ v.ownBlock ≠ some b ∧ Soft w b)
    (hr : w'.ownsRow base 34 2 v' (ts.length + 1) (treesCells ts nvs ++ [nv, .int .i64 t.root])) (hg : w.grownBy w' v.ownBlock) (hat : v'.ownBlock = v.ownBlock ∨ ∀ g, v'.ownBlock = some g → w.heap.size ≤ g) : OL w' base X v' (ts ++ [t]) :=
  OL.append (us := [t]) (mvs := [nv]) hl hn rfl (fun j t' nv' a b => by
    rcases j with _ | j
    · simp at a b; subst a; subst b; exact ⟨ht, h1, h2⟩
    · simp at a) hS (by simpa [treesCells] using hr) hg hat
theorem cells_one {w : World} {S : Nat → Prop} : ∀ (us : List Tr) (mvs : List Value), mvs.length = us.length → (∀ (j : Nat) (t : Tr) (nv : Value), us[j]? = some t → mvs[j]? = some nv → RNodes w S nv t.nodes) → ∀ u ∈ treesCells us mvs, u.oneCell' = true
  | [], _, _, _ => fun u hu => by simp [treesCells] at hu
  | t :: us, [], h, _ => by simp at h
  | t :: us, v :: mvs, h, hn => fun u hu => by
    unfold treesCells at hu
    simp only [List.zipWith_cons_cons, List.flatten_cons, List.mem_append, List.mem_cons, List.not_mem_nil, or_false] at hu
    rcases hu with (rfl | rfl) | hu
    · obtain ⟨A, c, rfl, _⟩ := (hn 0 t u rfl rfl).at_
      rfl
    · rfl
    · exact cells_one us mvs (by simpa using h) (fun j t' nv h1 h2 => hn (j + 1) t' nv h1 h2) u hu
theorem rights_flat (L : List T) (h : ∀ x ∈ L, FitT x) : ∀ t ∈ L.map flatT, RightT t := fun t ht => by
  obtain ⟨x, hx, rfl⟩ := List.mem_map.1 ht
  exact right_flat (h x hx)
theorem kids_flat_of (x : T) (h : FitT x) : kidsOfT (flatT x) = x.kids.map flatT := by
  unfold kidsOfT
  rw [if_pos (right_flat h), treeOf_flat]
theorem root_flat_of (x : T) (h : FitT x) : rootOf (flatT x) = ⟨x.d, []⟩ := by
  unfold rootOf
  rw [if_pos (right_flat h), treeOf_flat]

theorem field_kind (k : Int) (c1 c2 c3 c4 c5 c6 c7 c8 : Value) (W : World) : (Instr.field 65 (.agg #[.int .u8 k, c1, c2, c3, c4, c5, c6, c7, c8]) 0).run Tryd.prog W = .ok (.int .u8 k) W := by kernel_rfl
/-- Stages of a region that reads, then appends, then stores. -/
def SE (s s' : Nat × World) : Prop := s.1 ≤ s'.1 ∧ (s.1 = 0 → s'.1 = 0 → Below s.2.heap.size s.2 s'.2) ∧ (s.1 = 1 → s'.1 = 1 → s'.2 = s.2) ∧ (2 ≤ s.1 → s' = s)
theorem SE.refl (s : Nat × World) : SE s s := ⟨Nat.le_refl _, fun _ _ => Below.refl _ _, fun _ _ => rfl, fun _ => rfl⟩
theorem SE.trans (a b c : Nat × World) (h : SE a b) (k : SE b c) : SE a c := by
  refine ⟨Nat.le_trans h.1 k.1, fun h1 h2 => ?_, fun h1 h2 => ?_, fun h1 => ?_⟩
  · have hb : b.1 = 0 := by have := k.1; omega
    exact Below.trans (h.2.1 h1 hb) (Below.mono (k.2.1 hb h2) (h.2.1 h1 hb).size)
  · have hb : b.1 = 1 := by have := k.1; have := h.1; omega
    exact (k.2.2.1 hb h2).trans (h.2.2.1 h1 hb)
  · have e := h.2.2.2 h1
    subst e
    exact k.2.2.2 h1
theorem SE.call {w w' : World} (h : Below w.heap.size w w') : SE (0, w) (0, w') := ⟨Nat.le_refl _, fun _ _ => h, fun h => absurd h (by simp), fun h => absurd h (by simp)⟩
theorem SE.one (w w' : World) : SE (0, w) (1, w') := ⟨Nat.zero_le _, fun _ h => absurd h (by simp), fun h => absurd h (by simp), fun h => absurd h (by simp)⟩
theorem SE.two (w w' : World) : SE (1, w) (2, w') := ⟨by simp, fun h => absurd h (by simp), fun _ h => absurd h (by simp), fun h => absurd h (by simp)⟩
theorem SE.read {w w' : World} {g : Nat} (h : SE (0, w.drew) (g, w')) (hg : g = 0) : Below w.heap.size w w' := by
  have h1 : Below w.drew.heap.size w.drew w' := h.2.1 rfl hg
  exact ⟨h1.os, h1.tape, h1.output, h1.size, h1.block⟩

/-- The closure's boxes: the node, the row, what is dropped. -/
structure AddIn (w : World) (gN gO gD base : Nat) (X : Nat → Prop) (k z : Int) (vo : Value) (outs : List T) : Prop where
  nbox : w.cell? ⟨gN, 0, none⟩ = some (.int .u8 k)
  obox : Blk w gO 48 #[vo]
  dbox : Blk w gD 5 #[.int .u8 z]
  out : OL w base X vo (outs.map flatT)
def AddPost (gN gO gD base : Nat) (X : Nat → Prop) (k z : Int) (outs : List T) (x : T) (w : World) (e : Ending) (w' : World) : Prop := e = .returned (.tuple #[]) ∧ ∃ vo', AddIn w' gN gO gD base X k z vo' (outs ++ openK k z [x]) ∧ Below gO w w'
end Go.Proofs.YtclfpjfjebheoaaDoor
/- Small laws on clean trees, and on rows of three trees. -/
namespace Go.Proofs.YtclfpjfjebheoaaDoor
open Go.RowKit
open Classical

theorem RTrees.three {w : World} {S : Nat → Prop} {g : Nat} {ty : TypeId} {t u s : Tr} {nv mv lv : Value} (hb : Blk w g ty #[nv, .int .i64 t.root, mv, .int .i64 u.root, lv, .int .i64 s.root]) (hS : S g)
    (h : RTree w S (.agg #[nv, .int .i64 t.root]) t) (h' : RTree w S (.agg #[mv, .int .i64 u.root]) u) (h'' : RTree w S (.agg #[lv, .int .i64 s.root]) s) : RTrees w S (.slice (some ⟨g, 0, none⟩) 3 3) [t, u, s] := by
  obtain ⟨nv', hv, h1⟩ := h
  obtain ⟨mv', hv', h1'⟩ := h'
  obtain ⟨lv', hv'', h1''⟩ := h''
  have e : nv = nv' := by simpa using hv
  subst e
  have e : mv = mv' := by simpa using hv'
  subst e
  have e : lv = lv' := by simpa using hv''
  subst e
  exact RTrees.of_blk (ts := [t, u, s]) (nvs := [nv, mv, lv]) rfl hb hS (by simp [maxLen]) fun j t' nv' h2 h3 => by
    rcases j with _ | _ | _ | j
    · simp at h2 h3; subst h2; subst h3; exact h1
    · simp at h2 h3; subst h2; subst h3; exact h1'
    · simp at h2 h3; subst h2; subst h3; exact h1''
    · simp at h2
theorem clean_root {t : Tr} (h : t.nodes.length ≤ 500000) : -9223372036854775808 ≤ (cleanOf t).root ∧ (cleanOf t).root ≤ 9223372036854775807 := by
  unfold cleanOf
  split
  · rename_i hr
    simp only [flatT]
    rw [hr.size]; omega
  · simp [zeroT]

theorem clean_small {t : Tr} (h : t.nodes.length ≤ 4000) : (cleanOf t).nodes.length ≤ 500000 := by
  unfold cleanOf
  split
  · rename_i hr
    rw [flatT_len, hr.size]; omega
  · simp [zeroT]
theorem not_right_zero : ¬ RightT zeroT := fun h => by have := h.shape.root_lt; simp [zeroT] at this
theorem right_clean (t : Tr) : RightT (cleanOf t) ↔ RightT t := by
  unfold cleanOf
  by_cases h : RightT t
  · rw [if_pos h]; exact ⟨fun _ => h, fun _ => right_flat h.fitT⟩
  · rw [if_neg h]; exact ⟨fun h' => absurd h' not_right_zero, fun h' => absurd h' h⟩
theorem decide_right_clean (t : Tr) : decide (RightT (cleanOf t)) = decide (RightT t) := by
  by_cases h : RightT t
  · rw [decide_eq_true h, decide_eq_true ((right_clean t).2 h)]
  · rw [decide_eq_false h, decide_eq_false (fun h' => h ((right_clean t).1 h'))]

theorem treeOf_clean {t : Tr} (h : RightT t) : treeOf (cleanOf t) = treeOf t := by rw [cleanOf, if_pos h, treeOf_flat]
theorem clean_clean (t : Tr) : cleanOf (cleanOf t) = cleanOf t := by
  by_cases h : RightT t
  · have h2 := (right_clean t).2 h
    rw [cleanOf, if_pos h2, treeOf_clean h, cleanOf, if_pos h]
  · have h2 : ¬ RightT (cleanOf t) := fun h' => h ((right_clean t).1 h')
    rw [cleanOf, if_neg h2, cleanOf, if_neg h]
theorem same_clean (t : Tr) : decide (SameT t (cleanOf t)) = decide (RightT t) := by
  by_cases h : RightT t
  · rw [decide_eq_true h]; exact decide_eq_true ⟨h, (right_clean t).2 h, (treeOf_clean h).symm⟩
  · rw [decide_eq_false h]; exact decide_eq_false fun h' => h h'.1

theorem same_symm (a b : Tr) : decide (SameT a b) = decide (SameT b a) := by
  by_cases h : SameT b a
  · rw [decide_eq_true h]; exact decide_eq_true ⟨h.2.1, h.1, h.2.2.symm⟩
  · rw [decide_eq_false h]; exact decide_eq_false fun h' => h ⟨h'.2.1, h'.1, h'.2.2.symm⟩
theorem same_self (a : Tr) : decide (SameT a a) = decide (RightT a) := by
  by_cases h : RightT a
  · rw [decide_eq_true h]; exact decide_eq_true ⟨h, h, rfl⟩
  · rw [decide_eq_false h]; exact decide_eq_false fun h' => h h'.1
theorem exact_clean {a b : Tr} (ha : RightT a) (hb : RightT b) : decide (cleanOf a = cleanOf b) = decide (SameT a b) := by
  by_cases h : SameT a b
  · rw [decide_eq_true h]; exact decide_eq_true (by rw [cleanOf, cleanOf, if_pos ha, if_pos hb, h.2.2])
  · rw [decide_eq_false h]; exact decide_eq_false fun h' => h ⟨ha, hb, by rw [← treeOf_clean ha, h', treeOf_clean hb]⟩
end Go.Proofs.YtclfpjfjebheoaaDoor
/- Plain words beside a tree's root and its kids; a tree of one node in a block. -/
namespace Go.Proofs.YtclfpjfjebheoaaDoor
set_option linter.unusedSimpArgs false
open Go.RowKit
open Classical

def nodeC (d : Dt) (kv : Value) : Array Value := #[.int .u8 d.kind, .int .u64 d.s0, .int .u64 d.s1, .int .u64 d.s2, .int .u64 d.s3, .string ⟨d.text.toArray⟩, .int .i64 d.min, .int .i64 d.max, kv]
noncomputable def fitsTo (d : Dt) (ts : List Tr) (j : Nat) : Bool := fits d ts.length && (ts.take j).all fun t => decide (RightT t)
noncomputable def sizeTo (ts : List Tr) (j : Nat) : Nat := 1 + ((ts.take j).map sizeT).sum
noncomputable def deepTo (ts : List Tr) (j : Nat) : Nat := (ts.take j).foldl (fun m t => max m (depthT t)) 0
theorem fitsTo_next {d : Dt} {ts : List Tr} {j : Nat} {t : Tr} (h : ts[j]? = some t) : fitsTo d ts (j + 1) = (fitsTo d ts j && decide (RightT t)) := by
  unfold fitsTo
  rw [List.take_add_one, h]
  simp [Bool.and_assoc]
theorem sizeTo_next {ts : List Tr} {j : Nat} {t : Tr} (h : ts[j]? = some t) : sizeTo ts (j + 1) = sizeTo ts j + sizeT t := by
  unfold sizeTo
  rw [List.take_add_one, h]
  simp; omega
theorem deepTo_next {ts : List Tr} {j : Nat} {t : Tr} (h : ts[j]? = some t) : deepTo ts (j + 1) = max (deepTo ts j) (depthT t) := by
  unfold deepTo
  rw [List.take_add_one, h]
  simp
theorem sizeT_le (t : Tr) : sizeT t ≤ t.nodes.length := by unfold sizeT; split <;> omega
theorem depthT_le (t : Tr) : depthT t ≤ t.nodes.length := by
  unfold depthT
  split
  · rename_i h
    have := depth_le h.shape.low t.root.toNat h.shape.root_lt
    have := h.shape.root_lt
    unfold treeOf; omega
  · omega
theorem sizeTo_le (ts : List Tr) (j : Nat) : sizeTo ts j ≤ 1 + nodesSum ts := by
  have h : ∀ (l : List Tr), (l.map sizeT).sum ≤ nodesSum l := by
    intro l
    induction l with
    | nil => simp [nodesSum]
    | cons t l ih => have := sizeT_le t; unfold nodesSum at ih ⊢; simp; omega
  have h2 : nodesSum (ts.take j) ≤ nodesSum ts := by
    have : nodesSum ts = nodesSum (ts.take j) + nodesSum (ts.drop j) := by unfold nodesSum; rw [← List.sum_append, ← List.map_append, List.take_append_drop]
    omega
  have := h (ts.take j)
  unfold sizeTo; omega
theorem deepTo_le (ts : List Tr) (j b : Nat) (h : ∀ t ∈ ts, t.nodes.length ≤ b) : deepTo ts j ≤ b := by
  unfold deepTo
  have key : ∀ (l : List Tr) (m : Nat), m ≤ b → (∀ t ∈ l, t.nodes.length ≤ b) → l.foldl (fun m t => max m (depthT t)) m ≤ b := by
    intro l
    induction l with
    | nil => intro m hm _; exact hm
    | cons t l ih =>
      intro m hm hl
      simp only [List.foldl_cons]
      refine ih _ ?_ fun t ht => hl t (by simp [ht])
      have := depthT_le t
      have := hl t (by simp)
      omega
  exact key _ _ (Nat.zero_le _) fun t ht => h t (List.mem_of_mem_take ht)

theorem nodesSum_mem {ts : List Tr} {t : Tr} (h : t ∈ ts) : t.nodes.length ≤ nodesSum ts := by
  obtain ⟨a, b, rfl⟩ := List.append_of_mem h
  unfold nodesSum
  simp; omega
theorem IsOf.root_ok {d : Dt} {ts : List Tr} {x : Tr} {is : Bool} {v : Value} {S : Nat → Prop} {w : World} (h : IsOf d ts x is) (_hg : GivenL ts v S w) (hs : (ts.map (·.nodes.length)).sum ≤ 500000) : -9223372036854775808 ≤ x.root ∧ x.root ≤ 9223372036854775807 := by
  by_cases hh : fits d ts.length = true ∧ ∀ t ∈ ts, RightT t
  · obtain ⟨_, rfl⟩ := h.yes hh.1 hh.2
    simp only [flatT, T.size]
    have := sizes_take_le ts hh.2 ts.length
    rw [List.take_length] at this
    omega
  · obtain ⟨_, rfl⟩ := h.no hh
    simp [zeroT]
theorem kids_sizes : ∀ (l : List T), nodesSum (l.map flatT) = sizes l
  | [] => rfl
  | t :: l => by
    have := kids_sizes l
    unfold nodesSum at this ⊢
    simp only [List.map_cons, List.sum_cons, sizes, this, flatT_len]
theorem kids_small {t : Tr} (h : t.nodes.length ≤ 4000) : nodesSum (kidsOfT t) ≤ 4000 := by
  unfold kidsOfT
  split
  · rename_i hr
    rw [kids_sizes]
    have := hr.size
    rw [(treeOf t).eta] at this
    simp only [T.size, T.kids] at this ⊢
    omega
  · simp [nodesSum]
theorem sizes_len (l : List T) : l.length ≤ sizes l := by
  induction l with
  | nil => simp [sizes]
  | cons t l ih => have := t.size_pos; simp [sizes]; omega
theorem kids_few {t : Tr} (h : t.nodes.length ≤ 4000) : (kidsOfT t).length ≤ 4000 := by
  have h1 := kids_small h
  unfold kidsOfT at h1 ⊢
  split
  · rename_i hr
    rw [if_pos hr, kids_sizes] at h1
    have := sizes_len (treeOf t).kids
    rw [List.length_map]; omega
  · simp
theorem of_root {d : Dt} {ts : List Tr} (h : nodesSum ts ≤ 4000) : -9223372036854775808 ≤ (ofT d ts).root ∧ (ofT d ts).root ≤ 9223372036854775807 := by
  unfold ofT
  split
  · rename_i hh
    simp only [flatT, T.size]
    have := sizes_take_le ts hh.2 ts.length
    rw [List.take_length] at this
    unfold nodesSum at h
    omega
  · simp [zeroT]
theorem RTree.ok {w : World} {S : Nat → Prop} {v : Value} {t : Tr} (h : RTree w S v t) : ∀ n ∈ t.nodes, n.d.Ok := by
  obtain ⟨nv, _, ⟨kvs, hl, _, he⟩, _⟩ := h
  intro n hn
  obtain ⟨j, hj⟩ := List.getElem?_of_mem hn
  have hjl : j < t.nodes.length := (List.getElem?_eq_some_iff.1 hj).1
  exact (he j n _ hj (List.getElem?_eq_getElem (by omega : j < kvs.length))).2
theorem root_ok {w : World} {S : Nat → Prop} {v : Value} {t : Tr} (h : RTree w S v t) : (rootOf t).d.Ok := by
  unfold rootOf
  split
  · rename_i hr
    have hN := List.getElem?_eq_getElem hr.shape.root_lt
    have : (treeOf t).d = (t.nodes[t.root.toNat]'hr.shape.root_lt).d := by unfold treeOf; rw [D_eq hr.shape.low hN]; rfl
    show (treeOf t).d.Ok
    rw [this]
    exact h.ok _ (List.getElem_mem _)
  · exact ⟨by decide, by decide, by decide, by decide, by decide⟩
theorem of_back {t : Tr} (hr : RightT t) : ofB (rootOf t).d (kidsOfT t) = true ∧ ofT (rootOf t).d (kidsOfT t) = flatT (treeOf t) := by
  have hf := hr.fitT
  have hk : kidsOfT t = (treeOf t).kids.map flatT := if_pos hr
  have hd : (rootOf t).d = (treeOf t).d := by rw [rootOf, if_pos hr]
  rw [hk, hd]
  generalize treeOf t = u at hf
  obtain ⟨d, ks, h1, h2⟩ := hf
  have hc : fits (T.node d ks).d (((T.node d ks).kids.map flatT).length : Int) = true ∧ ∀ x ∈ (T.node d ks).kids.map flatT, RightT x := by
    refine ⟨by simpa [T.d, T.kids] using h1, fun x hx => ?_⟩
    obtain ⟨k, hk, rfl⟩ := List.mem_map.1 hx
    exact right_flat (h2 k hk)
  unfold ofB ofT
  rw [if_pos hc, decide_eq_true hc]
  refine ⟨rfl, ?_⟩
  simp only [T.d, T.kids, List.map_map]
  have : ks.map (treeOf ∘ flatT) = ks := by
    conv => rhs; rw [← List.map_id ks]
    exact List.map_congr_left fun k _ => treeOf_flat k
  rw [this]
/-- A tree that reads above a block. -/
def MidT (lo : Nat) (w : World) (v : Value) (t : Tr) : Prop := RTree w (fun b => lo < b ∧ b < w.heap.size) v t
theorem MidT.below {lo : Nat} {w w' : World} {v : Value} {t : Tr} (h : MidT lo w v t) (hb : Below w.heap.size w w') : MidT lo w' v t := (RTree.below h hb fun _ h => h.2).more fun _ h => ⟨h.1, Nat.lt_of_lt_of_le h.2 hb.size⟩
theorem MidT.has {lo : Nat} {w : World} {v : Value} {t : Tr} (h : MidT lo w v t) : HasT w v t := h.more fun _ h => h.2
theorem MidT.set_ {lo : Nat} {w : World} {v : Value} {t : Tr} (h : MidT lo w v t) (i : Nat) (u : Value) : MidT lo (w.setCell ⟨lo, i, none⟩ u) v t :=
  (RTree.keep h fun p hp => World.cell?_of_block ((grown_set1 w lo i u).block p.block hp.2 fun e => by injection e with e; have := hp.1; omega)).more fun b h => ⟨h.1, by have := (grown_set1 w lo i u).size; omega⟩
theorem flat_facts {d : Dt} {ts : List Tr} (hf : fits d ts.length = true) (hr : ∀ t ∈ ts, RightT t) : RightT (flatT (.node d (ts.map treeOf))) ∧ rootOf (flatT (.node d (ts.map treeOf))) = ⟨d, []⟩ ∧ kidsOfT (flatT (.node d (ts.map treeOf))) = ts.map (fun t => flatT (treeOf t)) ∧
    sizeT (flatT (.node d (ts.map treeOf))) = sizeTo ts ts.length ∧ depthT (flatT (.node d (ts.map treeOf))) = deepTo ts ts.length + 1 ∧ cleanOf (flatT (.node d (ts.map treeOf))) = flatT (.node d (ts.map treeOf)) := by
  have hR : RightT (flatT (.node d (ts.map treeOf))) := right_flat ⟨d, _, by simpa using hf, fun k hk => by
    obtain ⟨t, ht, rfl⟩ := List.mem_map.1 hk
    exact (hr t ht).fitT⟩
  refine ⟨hR, ?_, ?_, ?_, ?_, ?_⟩
  · rw [rootOf, if_pos hR, treeOf_flat]; rfl
  · rw [kidsOfT, if_pos hR, treeOf_flat]; simp [T.kids, List.map_map, Function.comp_def]
  · rw [sizeT, if_pos hR, flatT_len]
    simp only [T.size, sizeTo, List.take_length]
    congr 1
    clear hf hR
    induction ts with
    | nil => simp [sizes]
    | cons t ts ih =>
      have h1 := hr t (by simp)
      simp only [List.map_cons, sizes, List.sum_cons, ih fun t ht => hr t (by simp [ht])]
      rw [sizeT, if_pos h1, h1.size]
  · rw [depthT, if_pos hR, treeOf_flat]
    simp only [T.depth, deepTo, List.take_length]
    rw [Nat.add_comm]
    congr 1
    clear hf hR
    have key : ∀ (l : List Tr) (m : Nat), (∀ t ∈ l, RightT t) → l.foldl (fun m t => max m (depthT t)) m = max m (depths (l.map treeOf)) := by
      intro l
      induction l with
      | nil => intro m _; simp [depths]
      | cons t l ih =>
        intro m h
        have h1 := h t (by simp)
        simp only [List.foldl_cons, List.map_cons, depths]
        rw [ih _ fun t ht => h t (by simp [ht]), depthT, if_pos h1]
        simp only [Nat.max_def]
        split <;> split <;> (try split) <;> omega
    rw [key ts 0 hr]; simp
  · rw [cleanOf, if_pos hR, treeOf_flat]
/-- A tree of one node, just as it is. -/
theorem node_tree {wx : World} {S : Nat → Prop} {g : Nat} {N : Nd} {kv : Value} (hb : Blk wx g 65 (nodeC N.d kv)) (hk : RInts wx S kv N.kids) (hd : N.d.Ok) (hS : S g) : RTree wx S (.agg #[.slice (some ⟨g, 0, none⟩) 1 1, .int .i64 0]) ⟨[N], 0⟩ :=
  ⟨_, rfl, RNodes.of_blk (ns := [N]) (kvs := [kv]) rfl hb hS (by simp [maxLen]) fun j n k h1 h2 => by
    rcases j with _ | j
    · simp at h1 h2; subst h1; subst h2; exact ⟨hk, hd⟩
    · simp at h2, by simp, by simp⟩

end Go.Proofs.YtclfpjfjebheoaaDoor
/- The contract of the function in expr.some that adds a part. -/
namespace Go.Proofs.YtclfpjfjebheoaaDoor
set_option linter.unusedSimpArgs false
open Go.RowKit
open Classical

theorem kind_in {d : Dt} (h : d.Ok) : 0 ≤ d.kind ∧ d.kind ≤ 255 := h.kind
theorem AddIn.below {w w' : World} {gN gO gD base : Nat} {X : Nat → Prop} {k z : Int} {vo : Value} {outs : List T} (h : AddIn w gN gO gD base X k z vo outs) (hb : Below w.heap.size w w') : AddIn w' gN gO gD base X k z vo outs :=
  ⟨(hb.cell (cell_lt h.nbox)).trans h.nbox, h.obox.below hb h.obox.lt, h.dbox.below hb h.dbox.lt, h.out.below hb⟩

set_option maxRecDepth 20000 in
set_option maxHeartbeats 8000000 in
theorem add_g {w : World} {gN gO gD base : Nat} {X : Nat → Prop} {k z : Int} {vo : Value} {outs : List T} {x : T} {v : Value} (hA : AddIn w gN gO gD base X k z vo outs) (hNO : gN < gO) (hDO : gD < gO) (hbase : gO < base) (hbw : base ≤ w.heap.size) (hXO : ¬ X gO) (hXN : ∀ b, w.heap.size ≤ b → X b)
    (hx : RTree w (fun b => X b ∧ b < gO ∧ Soft w b) v (flatT x)) (hxf : FitT x) (hk : KTab w) (hs : x.size ≤ 100000) (hos : outs.length ≤ 100000) :
    Calls Tryd.prog 129 #[v, .pointer (some ⟨gN, 0, none⟩), .pointer (some ⟨gO, 0, none⟩), .pointer (some ⟨gD, 0, none⟩)] w (AddPost gN gO gD base X k z outs x w) := by
  obtain ⟨A, c, rfl⟩ : ∃ A c, v = .agg #[.slice A (flatT x).nodes.length c, .int .i64 (flatT x).root] := by
    obtain ⟨nv, rfl, hn, _⟩ := hx
    obtain ⟨A, c, rfl, _⟩ := hn.at_
    exact ⟨A, c, rfl⟩
  have hxh : HasT w (.agg #[.slice A (flatT x).nodes.length c, .int .i64 (flatT x).root]) (flatT x) := hx.more fun b hb => by have := hb.2.1; omega
  have HSZ := Lib.hid (flatT_len x)
  obtain ⟨wb, hwb⟩ : ∃ wb, wb = w.alloc (.cells #[.slice A (flatT x).nodes.length c, .int .i64 (flatT x).root] 34) := ⟨_, rfl⟩
  have hbb : Below w.heap.size w wb := by rw [hwb]; exact (Below.refl _ _).alloc (Nat.le_refl _) _
  have hB : Blk wb w.heap.size 34 #[.slice A (flatT x).nodes.length c, .int .i64 (flatT x).root] := by rw [hwb]; exact Blk.new _ _ _
  have HG := Lib.hid (fun (wx : World) (hb : Below wb.heap.size wb wx) => (hxh.below (hbb.trans (hb.mono hbb.size))).given (hk.below (hbb.trans (hb.mono hbb.size))) (by have := HSZ.out; omega : (flatT x).nodes.length ≤ 500000))
  have hRt := fun (wx : World) (hb : Below wb.heap.size wb wx) => Root_g (HG.out wx hb)
  rw [root_flat_of x hxf] at hRt
  have HR := Lib.hid (show ∀ wx, Below wb.heap.size wb wx → Calls Tryd.prog 41 #[.agg #[.slice A (flatT x).nodes.length c, .int .i64 (flatT x).root]] wx fun e w' => e = .returned (.agg #[.int .u8 x.d.kind, .int .u64 x.d.s0, .int .u64 x.d.s1, .int .u64 x.d.s2, .int .u64 x.d.s3, .string ⟨x.d.text.toArray⟩, .int .i64 x.d.min, .int .i64 x.d.max, .slice none 0 0]) ∧ Below wx.heap.size wx w' from fun wx hb =>
    (hRt wx hb).mono fun e w' h => by
      obtain ⟨⟨N0, he, hN0⟩, hbb⟩ := h
      exact ⟨by rw [he, hN0]; rfl, hbb⟩)
  have HAD := Lib.hid (hA.below hbb)
  have HB := Lib.hid hB
  have Hbb := Lib.hid hbb
  have HXO := Lib.hid hx
  have HXF := Lib.hid hxf
  have HOW := Lib.hid (show gO ≤ w.heap.size by omega)
  clear hx hxh hxf hk hRt hA hB hbb
  have hfn := field_kind
  go_enter Tryd.func129, Tryd.ntmps129
  go_wp2_with fail
  rw [← hwb]
  have hb0 : Below wb.heap.size wb wb := Below.refl _ _
  refine (HR.out wb hb0).mono ?_
  rintro e w2 ⟨rfl, hb2⟩
  have HAD2 := Lib.hid (HAD.out.below hb2)
  have hB2 := HB.out.below hb2 HB.out.lt
  have n0 := HAD2.out.nbox
  have o0 : w2.cell? ⟨gO, 0, none⟩ = some vo := HAD2.out.obox.cell 0
  have z0 : w2.cell? ⟨gD, 0, none⟩ = some (.int .u8 z) := HAD2.out.dbox.cell 0
  have b0 : w2.cell? ⟨w.heap.size, 0, none⟩ = some (.slice A (flatT x).nodes.length c) := hB2.cell 0
  have b1 : w2.cell? ⟨w.heap.size, 1, none⟩ = some (.int .i64 (flatT x).root) := hB2.cell 1
  have fo := HAD2.out.obox.frozen 0
  have HB2 := Lib.hid hB2
  have Hb2 := Lib.hid hb2
  clear hB2 hb2 hb0
  by_cases h1 : x.d.kind = k
  · subst h1
    have HO := Lib.hid (show openK x.d.kind z [x] = x.kids by simp [openK])
    obtain ⟨nvs, hnl, hrow, hns⟩ := HAD2.out.out
    have hol : (outs.map flatT).length = outs.length := List.length_map ..
    have hrow2 := hrow
    rw [hol] at hrow2
    obtain ⟨Ao, co, hvo, -⟩ := own_slice hrow2
    subst hvo
    have HNL := Lib.hid hnl
    have HOL := Lib.hid hol
    have hbw2 : base ≤ w2.heap.size := Nat.le_trans hbw (Nat.le_trans Hbb.out.size Hb2.out.size)
    obtain ⟨i0, hi0, hz0, hz1, hz2⟩ := info_parts tree_info
    have hkl : x.kids.length ≤ 100000 := by
      have h3 := sizes_len x.kids
      have h4 : x.size = 1 + sizes x.kids := by conv => lhs; rw [T.eta x]
                                                simp only [T.size]
      omega
    have hKd := fun (wx : World) (hb : Below w2.heap.size w2 wx) => Kids_g (HG.out wx (Hb2.out.trans (hb.mono Hb2.out.size)))
    rw [kids_flat_of x HXF.out] at hKd
    have HKd := Lib.hid (show ∀ wx, Below w2.heap.size w2 wx → Calls Tryd.prog 61 #[.agg #[.slice A (flatT x).nodes.length c, .int .i64 (flatT x).root]] wx fun e w' => (∃ u, e = .returned u ∧ OwnList w' w2.heap.size w2.heap.size u (x.kids.map flatT)) ∧ Below wx.heap.size wx w' from fun wx hb => (hKd wx hb).mono fun e w' h => by
      obtain ⟨u, he, ho, hbb⟩ := h
      exact ⟨⟨u, he, (ho.base_ hb.size).lo_ hb.size⟩, hbb⟩)
    clear hnl hrow hrow2 hns hol hKd
    go_wp2_with fail
    refine wp_region_inv2 (G := Nat) 0 SE (fun j γ => if j = 4 then γ ≤ 1 else if j < 4 then γ = 0 else True) [[], [], [1], [0, 1, 2], [0, 1, 2, 3]]
      [fun v _ => v = .slice Ao outs.length co, fun v _ => v = .agg #[.slice A (flatT x).nodes.length c, .int .i64 (flatT x).root],
        fun v s => s.1 = 0 → OwnList s.2 w2.heap.size w2.heap.size v (x.kids.map flatT),
        fun v s => 1 ≤ s.1 ∧ (∃ A4 c4, v = .slice A4 (outs.length + x.kids.length) c4) ∧ (s.1 = 1 → OL s.2 base X v ((outs ++ x.kids).map flatT) ∧ Blk s.2 gO 48 #[.slice Ao outs.length co] ∧ Blk s.2 gD 5 #[.int .u8 z] ∧ s.2.cell? ⟨gN, 0, none⟩ = some (.int .u8 x.d.kind) ∧ Below gO w s.2),
        fun _ s => AddPost gN gO gD base X x.d.kind z outs x w (.returned (.tuple #[])) s.2 ∧ 2 ≤ s.1]
      (by kernel_rfl) SE.trans (SE.refl _) (by kernel_rfl) (by kernel_rfl) (by kernel_rfl) (fun i => by simp) ?rst ?rsteps ?rfin
    case rst =>
      intro R hR v s s' _ h hr
      simp only [List.mem_cons, List.not_mem_nil, or_false] at hR
      rcases hR with rfl | rfl | rfl | rfl | rfl
      · exact hr
      · exact hr
      · intro h0
        have hs0 : s.1 = 0 := by have := h.1; omega
        exact (hr hs0).below (h.2.1 hs0 h0)
      · refine ⟨Nat.le_trans hr.1 h.1, hr.2.1, fun h1 => ?_⟩
        have hs1 : s.1 = 1 := by have := h.1; have := hr.1; omega
        rw [h.2.2.1 hs1 h1]
        exact hr.2.2 hs1
      · rw [h.2.2.2 hr.2]; exact hr
    case rsteps =>
      refine ⟨?_, ?_, ?_, ?_, ?_, trivial⟩
      · intro a γ wx hB hE hN hW K hK
        simp at hN
        subst hN
        have hw := hE.read rfl
        have h2 : a.tmps[2]? = some (.pointer (some ⟨gO, 0, none⟩)) := (hB.at_ 2 (of_decide_eq_true (by kernel_rfl))).trans rfl
        have hc : wx.cell? ⟨gO, 0, none⟩ = some (.slice Ao outs.length co) := (hw.cell (p := ⟨gO, 0, none⟩) HAD2.out.obox.lt).trans o0
        clear hB hE
        go_simp
        exact hK _ 0 _ (SE.refl _) (fun j h1 h2 h => h) rfl
      · intro a γ wx hB hE hN hW K hK
        simp at hN
        subst hN
        have hw := hE.read rfl
        have h4 : a.tmps[4]? = some (.pointer (some ⟨w.heap.size, 0, none⟩)) := (hB.at_ 4 (of_decide_eq_true (by kernel_rfl))).trans rfl
        have hB3 := HB2.out.below hw HB2.out.lt
        have hc0 : wx.cell? ⟨w.heap.size, 0, none⟩ = some (.slice A (flatT x).nodes.length c) := hB3.cell 0
        have hc1 : wx.cell? ⟨w.heap.size, 1, none⟩ = some (.int .i64 (flatT x).root) := hB3.cell 1
        clear hB hE hB3
        go_simp
        exact hK _ 0 _ (SE.refl _) (fun j h1 h2 h => h) rfl
      · intro a γ wx hB hE hN hW K hK
        simp at hN
        subst hN
        have hw := hE.read rfl
        obtain ⟨⟨_, h19, rfl⟩, -⟩ := hW
        clear hB hE
        go_simp
        refine (HKd.out _ hw).mono ?_
        rintro e w' ⟨⟨u, rfl, hu⟩, hbb⟩
        exact hK _ 0 _ (SE.call hbb) (fun j h1 h2 h => h) (fun _ => hu)
      · intro a γ wx hB hE hN hW K hK
        simp at hN
        subst hN
        have hw := hE.read rfl
        obtain ⟨⟨_, h18, rfl⟩, ⟨u, h20, hu⟩, -⟩ := hW
        have hu := hu rfl
        have hAD := HAD2.out.below hw
        obtain ⟨nvs, hnl, hrow, hns⟩ := hAD.out
        rw [HOL.out] at hrow
        obtain ⟨mvs, hml, hmr, hmn⟩ := hu
        have hul := own_small hmr
        obtain ⟨Au, cu, rfl, -⟩ := own_slice hmr
        have hlen : (x.kids.map flatT).length = x.kids.length := List.length_map ..
        have hrd : Reads wx wx.heap.size 2 Au (x.kids.map flatT).length (treesCells (x.kids.map flatT) mvs) := Reads.of_own hmr
        rw [hlen] at hrd h20
        have hone := cells_one _ _ hml fun j t nv h1 h2 => (hmn j t nv h1 h2).1
        have hbx : base ≤ wx.heap.size := Nat.le_trans hbw2 hw.size
        refine step_append_any wx rfl (.tmp 18) (.tmp 20) _ rfl base 34 i0 _ 2 32 Tryd.underlying48 hi0 hz0 hz1 hz2 rfl (by omega) (.slice Ao outs.length co) outs.length (treesCells (outs.map flatT) nvs) (by simp [go_sem, h18]) hrow wx.heap.size Au x.kids.length cu (treesCells (x.kids.map flatT) mvs) (by simp [go_sem, h20]) hrd hone (by unfold maxLen; omega) (by omega) hbx ?_
        intro v4 w4 hown4 hg4 hat4
        obtain ⟨A4, c4, rfl, -⟩ := own_slice hown4
        have hrb : ∀ r, (Value.slice Ao outs.length co).ownBlock = some r → base ≤ r ∧ r < wx.heap.size := fun r hr => own_blk_lt hrow hr
        have hrb2 : ∀ r, (Value.slice Ao outs.length co).ownBlock = some r → r < w2.heap.size := fun r hr => (HAD2.out.out.lt (by simpa [List.length_map] using hr)).2
        refine hK _ 1 _ (SE.one _ _) (fun j h1 h2 h => ?_) ⟨Nat.le_refl _, ⟨A4, c4, rfl⟩, fun _ => ⟨?_, ?_, ?_, ?_, ?_⟩⟩
        · match j, h1, h2 with
          | 0, _, h2 => simp at h2
          | 1, _, h2 => simp at h2
          | 2, _, h2 => simp at h2
          | 3, h1, _ => exact absurd rfl h1
          | 4, _, _ => simp
          | j + 5, _, _ => simp
        · rw [List.map_append]
          refine OL.append hnl hns hml hmn (fun b hb => ⟨hXN b (by have := hb.1; have := Nat.le_trans Hbb.out.size Hb2.out.size; omega), hb.2.1, fun e => by have := hrb2 b (by simpa [List.length_map] using e); have := hb.1; omega, hb.2.2.2⟩) (by rw [HOL.out, hlen]; exact hown4) (by simpa [List.length_map] using hg4) ?_
          rcases hat4 with h | h
          · exact .inl (by simpa [List.length_map] using h)
          · exact .inr fun g hg => by rw [h] at hg; injection hg; omega
        · exact hAD.obox.grown hg4 (fun e => by have := (hrb _ e.symm).1; omega)
        · exact hAD.dbox.grown hg4 (fun e => by have := (hrb _ e.symm).1; omega)
        · exact hg4.cell hAD.nbox (fun e => by have := (hrb _ e.symm).1; simp only at this; omega)
        · exact ((Hbb.out.trans (Hb2.out.mono Hbb.out.size)).trans (hw.mono (Nat.le_trans Hbb.out.size Hb2.out.size))).mono HOW.out |>.trans (below_of_grown hg4 (by have := HOW.out; have := Nat.le_trans Hbb.out.size Hb2.out.size; have := hw.size; omega) fun g e => by have := (hrb g e).1; omega)
      · intro a γ wx hB hE hN hW K hK
        obtain ⟨⟨v, h21, hv⟩, -⟩ := hW
        have hg1 : γ = 1 := by have := hv.1; simp at hN; simp only at this; omega
        subst hg1
        obtain ⟨-, ⟨A4, c4, rfl⟩, hv⟩ := hv
        obtain ⟨hol, hob, hod, hnb, hbl⟩ := hv rfl
        have h2 : a.tmps[2]? = some (.pointer (some ⟨gO, 0, none⟩)) := (hB.at_ 2 (of_decide_eq_true (by kernel_rfl))).trans rfl
        have c0 : wx.cell? ⟨gO, 0, none⟩ = some (.slice Ao outs.length co) := hob.cell 0
        have f0 := hob.frozen 0
        clear hB hE
        go_simp
        refine hK undef 2 _ (SE.two _ _) (fun j h1 h2 h => ?_) ⟨⟨rfl, .slice A4 (outs.length + x.kids.length) c4, ⟨?_, ?_, ?_, ?_⟩, ?_⟩, Nat.le_refl _⟩
        · match j, h1, h2 with
          | 0, _, h2 => simp at h2
          | 1, _, h2 => simp at h2
          | 2, _, h2 => simp at h2
          | 3, _, h2 => simp at h2
          | 4, h1, _ => exact absurd rfl h1
          | j + 5, _, _ => simp
        · rw [World.cell?_setCell_other _ _ _ _ (by intro e; injection e; omega)]
          exact hnb
        · have := hob.set_ 0 (.slice A4 (outs.length + x.kids.length) c4)
          simpa using this
        · exact hod.far (by show gD ≠ gO; omega) _
        · rw [HO.out]
          exact hol.frame (g := gO) (only_setCell (p := ⟨gO, 0, none⟩) (grown_refl _ _) (.inl rfl) _) (fun e => by have := (hol.lt e).1; omega) hXO
        · exact hbl.setCell (Nat.le_refl _) _
    case rfin =>
      intro a' γ wx hB hE hK
      obtain ⟨_, h18, rfl⟩ := hK 0 (of_decide_eq_true (by kernel_rfl))
      obtain ⟨_, h19, rfl⟩ := hK 1 (of_decide_eq_true (by kernel_rfl))
      obtain ⟨v20, h20, -⟩ := hK 2 (of_decide_eq_true (by kernel_rfl))
      obtain ⟨v21, h21, -⟩ := hK 3 (of_decide_eq_true (by kernel_rfl))
      obtain ⟨_, hP, -⟩ := hK 4 (of_decide_eq_true (by kernel_rfl))
      have ha := hB.eq [(18, .slice Ao outs.length co), (19, .agg #[.slice A (flatT x).nodes.length c, .int .i64 (flatT x).root]), (20, v20), (21, v21)] rfl (by kernel_rfl) ⟨h18, h19, h20, h21, trivial⟩
      subst ha
      have HP := Lib.hid hP
      clear hK hB hE h18 h19 h20 h21 hP
      simp only [putAll, List.foldl_cons, List.foldl_nil, List.setIfInBounds_toArray, List.set_cons_succ, List.set_cons_zero]
      go_wp2_with fail
      go_end0
      exact HP.out
  · have e1 : (x.d.kind == k) = false := beq_eq_false_iff_ne.2 h1
    by_cases h2 : x.d.kind = z
    · subst h2
      have HO := Lib.hid (show openK k x.d.kind [x] = [] by simp [openK, h1])
      go_wp2_with fail
      go_end0
      refine ⟨rfl, vo, ?_, ?_⟩
      · rw [HO.out, List.append_nil]; exact HAD2.out
      · exact (Hbb.out.trans (Hb2.out.mono Hbb.out.size)).mono HOW.out
    · have e2 : (x.d.kind == z) = false := beq_eq_false_iff_ne.2 h2
      have HO := Lib.hid (show openK k z [x] = [x] by simp [openK, h1, h2])
      obtain ⟨nvs, hnl, hrow, hns⟩ := HAD2.out.out
      have hol : (outs.map flatT).length = outs.length := List.length_map ..
      have hrow2 := hrow
      rw [hol] at hrow2
      obtain ⟨Ao, co, hvo, -⟩ := own_slice hrow2
      subst hvo
      have HROW := Lib.hid hrow2
      have HNS := Lib.hid hns
      have HNL := Lib.hid hnl
      have HOL := Lib.hid hol
      have hbw2 : base ≤ w2.heap.size := Nat.le_trans hbw (Nat.le_trans Hbb.out.size Hb2.out.size)
      obtain ⟨i0, hi0, hz0, hz1, hz2⟩ := info_parts tree_info
      clear hnl hrow hrow2 hns hol
      go_wp2_with (at_builtin
                   go_loud (refine wpList_append1 w2 rfl (.tmp 10) (.tmp 12) _ rfl base 34 i0 _ 2 32 Tryd.underlying48 hi0 hz0 hz1 hz2 rfl (by omega) (.slice Ao outs.length co) outs.length (treesCells (outs.map flatT) nvs) rfl HROW.out [_, _] rfl rfl (by simp [Value.oneCell']) (by unfold maxLen; omega) (by omega) hbw2 ?_)
                   intro v4 w4 hown4 hg4 hat4
                   obtain ⟨A4, c4, rfl, _, _, _⟩ := own_slice hown4
                   have hob4 := HAD2.out.obox.grown hg4 (fun e => by have := (own_blk_lt HROW.out e.symm).1; omega)
                   have o4 : w4.cell? ⟨gO, 0, none⟩ = some (.slice Ao outs.length co) := hob4.cell 0
                   have f4 := hob4.frozen 0
                   have HOB4 := Lib.hid hob4
                   have HOW4 := Lib.hid hown4
                   have HG4 := Lib.hid hg4
                   have HAT4 := Lib.hid hat4
                   clear hown4 hg4 hat4 hob4)
      go_end0
      have hbw0 := Hbb.out.trans (Hb2.out.mono Hbb.out.size)
      obtain ⟨nv, hv, hn1, hn2, hn3⟩ := HXO.out
      have ev : nv = .slice A (flatT x).nodes.length c := by simp at hv; exact hv.symm
      subst ev
      have hlt2 : gO < w2.heap.size := HAD2.out.obox.lt
      have hpush := OL.push HNL.out HNS.out (hn1.below hbw0 fun b hb => by have := hb.2.1; have := HOW.out; omega) hn2 hn3 (fun b hb => ⟨hb.1, by have := hb.2.1; omega, fun e => by have := (own_blk_lt HROW.out e).1; have := hb.2.1; omega, hb.2.2.below hbw0 (by have := hb.2.1; have := HOW.out; omega)⟩)
        (by rw [HOL.out]; exact HOW4.out) HG4.out (by
          rcases HAT4.out with h | h
          · exact .inl h
          · exact .inr fun g hg => by rw [h] at hg; injection hg; omega)
      refine ⟨rfl, .slice A4 (outs.length + 1) c4, ⟨?_, ?_, ?_, ?_⟩, ?_⟩
      · rw [World.cell?_setCell_other _ _ _ _ (by intro e; injection e; omega)]
        exact HG4.out.cell n0 (fun e => by have := (own_blk_lt HROW.out e.symm).1; simp only at this; omega)
      · have := HOB4.out.set_ 0 (.slice A4 (outs.length + 1) c4)
        simpa using this
      · exact (HAD2.out.dbox.grown HG4.out (fun e => by have := (own_blk_lt HROW.out e.symm).1; omega)).far (by show gD ≠ gO; omega) _
      · rw [HO.out, List.map_append]
        exact hpush.frame (g := gO) (only_setCell (p := ⟨gO, 0, none⟩) (grown_refl _ _) (.inl rfl) _) (fun e => by have := (own_blk_lt HOW4.out e).1; omega) hXO
      · exact ((hbw0.mono HOW.out).trans (below_of_grown HG4.out (by omega) fun g e => by have := (own_blk_lt HROW.out e).1; omega)).setCell (Nat.le_refl _) _
end Go.Proofs.YtclfpjfjebheoaaDoor
/- The contract of expr.some. -/
namespace Go.Proofs.YtclfpjfjebheoaaDoor
set_option linter.unusedSimpArgs false
open Go.RowKit
open Classical

theorem sizes_open (k z : Int) (L : List T) : sizes (openK k z L) ≤ sizes L := by
  induction L with
  | nil => simp [openK, sizes]
  | cons t L ih =>
    rw [openK_cons, sizes_append]
    have h1 : t.size = 1 + sizes t.kids := by conv => lhs; rw [T.eta t]
                                              simp only [T.size]
    have h2 : sizes (openK k z [t]) ≤ t.size := by
      simp only [openK, List.flatMap_cons, List.flatMap_nil, List.append_nil]
      split
      · omega
      · split
        · simp [sizes]
        · simp [sizes]
    simp only [sizes]
    omega
theorem sum_flat (L : List T) : ((L.map flatT).map (·.nodes.length)).sum = sizes L := by
  induction L with
  | nil => rfl
  | cons t L ih => simp only [List.map_cons, List.sum_cons, ih, sizes, flatT_len]
theorem treeOf_map (L : List T) : (L.map flatT).map treeOf = L := by
  rw [List.map_map]
  conv => rhs; rw [← List.map_id L]
  exact List.map_congr_left fun x _ => treeOf_flat x
theorem size_mem {L : List T} {x : T} (h : x ∈ L) : x.size ≤ sizes L := by
  induction L with
  | nil => cases h
  | cons t L ih =>
    simp only [sizes]
    rcases List.mem_cons.1 h with rfl | h
    · omega
    · have := ih h; omega
theorem openK_take {k z : Int} {L : List T} {j : Nat} {x : T} (h : L[j]? = some x) : openK k z (L.take (j + 1)) = openK k z (L.take j) ++ openK k z [x] := by
  rw [List.take_add_one, h, openK_append]; rfl
theorem OL.reads {w : World} {base : Nat} {X : Nat → Prop} {v : Value} {ts : List Tr} (h : OL w base X v ts) (hX : ∀ b, base ≤ b → X b) : RTrees w (fun b => X b ∧ b < w.heap.size ∧ Soft w b) v ts := by
  obtain ⟨nvs, hl, hr, hn⟩ := h
  exact ⟨nvs, hl, Row.of_own hr (fun g hg => ⟨hX g (own_blk_lt hr hg).1, (own_blk_lt hr hg).2, own_soft hr hg⟩) (own_small hr), fun j t nv h1 h2 => ⟨(hn j t nv h1 h2).1.more fun b h => ⟨h.1, h.2.1, h.2.2.2⟩, (hn j t nv h1 h2).2⟩⟩
theorem Blk.newN {w : World} {g : Nat} {t : TypeId} {cs : Array Value} (h : w.heap.size = g) : Blk (w.alloc (.cells cs t)) g t cs := h ▸ Blk.new w t cs
/-- What stands in expr.some's loop. -/
structure SomeRel (w : World) (nc : Array Value) (e0 e1 : Value) (B : Nat) (X : Nat → Prop) (k z : Int) (outs : List T) (vo : Value) (wr : World) : Prop where
  add : AddIn wr B (B + 4) (B + 1) (B + 5) X k z vo outs
  nbox : Blk wr B 65 nc
  none_ : Blk wr (B + 2) 34 #[e0, e1]
  res : Blk wr (B + 3) 34 #[.slice none 0 0, .int .i64 0]
  below : Below B w wr
/-- What some of parts come to, and that they do. -/
def SomePost (X : Nat → Prop) (w : World) (x : T) (e : Ending) (w' : World) : Prop := ∃ u, e = .returned (.tuple #[u, .bool true]) ∧ XTree w' (fun b => (X b ∧ b < w.heap.size) ∨ w.heap.size ≤ b) u (flatT x) ∧ Below w.heap.size w w'

set_option maxRecDepth 20000 in
set_option maxHeartbeats 8000000 in
theorem some_g {d ed : Dt} {kv vl vn : Value} {L : List T} {z : Int} {X : Nat → Prop} {w : World} (hd : d.Ok) (hfd : ∀ n : Nat, 2 ≤ n → fits d n = true)
    (hL : RTrees w (fun b => X b ∧ b < w.heap.size ∧ Soft w b) vl (L.map flatT)) (hLf : ∀ x ∈ L, FitT x) (hn : XTree w X vn (flatT (.node ed []))) (hk : KTab w) (hs : sizes L ≤ 100000) (hl : L.length ≤ 100000) :
    Calls Tryd.prog 127 #[.agg (nodeCells ⟨d, []⟩ kv).toArray, vl, .int .u8 z, vn] w (SomePost X w (coll d ed (openK d.kind z L))) := by
  obtain ⟨An, cn, rfl⟩ := hn.agg
  have hnn : (flatT (.node ed [])).nodes.length = 1 := by rw [flatT_len]; rfl
  have hnr : (flatT (.node ed [])).root = 0 := rfl
  rw [hnn, hnr] at hn ⊢
  obtain ⟨Al, cl, rfl, hc1, hm, _⟩ := hL.at_
  have hll : (L.map flatT).length = L.length := List.length_map ..
  rw [hll] at hm hc1 hL ⊢
  unfold maxLen at hm
  have hmf : ∀ (fn : Fn) (first cap : Array Value) (w : World), (Instr.makeFunc fn first cap).run Tryd.prog w = .ok (.func fn first cap) w := fun _ _ _ _ => rfl
  have HL := Lib.hid hL
  have HLF := Lib.hid hLf
  have HN := Lib.hid hn
  have HK := Lib.hid hk
  have HFD := Lib.hid hfd
  have HD := Lib.hid hd
  have HSL := Lib.hid hs
  have hopl : ∀ j, (openK d.kind z (L.take j)).length ≤ 100000 := fun j => by
    have h1 := sizes_open d.kind z (L.take j)
    have h2 : sizes (L.take j) ≤ sizes L := by
      conv => rhs; rw [← List.take_append_drop j L, sizes_append]
      omega
    have h3 := sizes_len (openK d.kind z (L.take j))
    omega
  have HOPL := Lib.hid hopl
  simp only [nodeCells]
  clear hL hLf hn hk hfd hd hnn hnr hll hopl hc1
  obtain ⟨nc, hnc⟩ : ∃ nc : Array Value, nc = #[.int .u8 d.kind, .int .u64 d.s0, .int .u64 d.s1, .int .u64 d.s2, .int .u64 d.s3, .string ⟨d.text.toArray⟩, .int .i64 d.min, .int .i64 d.max, kv] := ⟨_, rfl⟩
  go_enter Tryd.func127, Tryd.ntmps127
  go_wp2_with fail
  obtain ⟨ws, hws⟩ : ∃ ws, ws = ((((w.alloc (.cells #[.int .u8 d.kind, .int .u64 d.s0, .int .u64 d.s1, .int .u64 d.s2, .int .u64 d.s3, .string ⟨d.text.toArray⟩, .int .i64 d.min, .int .i64 d.max, kv] 65)).alloc (.cells #[.int .u8 z] 5)).alloc (.cells #[.slice An 1 cn, .int .i64 0] 34)).alloc (.cells #[.slice none 0 0, .int .i64 0] 34)).alloc (.cells #[.slice none 0 0] 48) := ⟨_, rfl⟩
  rw [← hws]
  have hR0 : SomeRel w nc (.slice An 1 cn) (.int .i64 0) w.heap.size (fun b => (X b ∧ b < w.heap.size) ∨ w.heap.size + 5 ≤ b) d.kind z (openK d.kind z (L.take 0)) (.slice none 0 0) ws := by
    have h0 : Blk ws w.heap.size 65 nc := by rw [hws, hnc]; exact ((((Blk.new w _ _).alloc _).alloc _).alloc _).alloc _
    refine ⟨⟨?_, ?_, ?_, OL.nil_ _ _ _⟩, h0, ?_, ?_, ?_⟩
    · have := h0.cell 0
      rw [hnc] at this
      exact this
    · rw [hws]; exact Blk.newN (by simp)
    · rw [hws]; exact (((Blk.newN (by simp)).alloc _).alloc _).alloc _
    · rw [hws]; exact ((Blk.newN (by simp)).alloc _).alloc _
    · rw [hws]; exact (Blk.newN (by simp)).alloc _
    · rw [hws]; exact (((((Below.refl _ _).alloc (Nat.le_refl _) _).alloc (by simp) _).alloc (by simp; omega) _).alloc (by simp; omega) _).alloc (by simp; omega) _
  have HR0 := Lib.hid hR0
  clear hR0 hws
  go_loopw [17] (fun i wr => ∃ j : Nat, j ≤ L.length ∧ i = .int .i64 j ∧ Hid (∃ vo, SomeRel w nc (.slice An 1 cn) (.int .i64 0) w.heap.size (fun b => (X b ∧ b < w.heap.size) ∨ w.heap.size + 5 ≤ b) d.kind z (openK d.kind z (L.take j)) vo wr)) (fun i _ => L.length - (intOf i).toNat)
  case atStart => exact ⟨0, Nat.zero_le _, rfl, Lib.hid ⟨_, HR0.out⟩⟩
  case round =>
    obtain ⟨wo, rfl⟩ : ∃ wo, wo = wr := ⟨_, rfl⟩
    obtain ⟨j, hj, rfl, HRE⟩ := hrel
    obtain ⟨vo, hR⟩ := HRE.out
    have HR := Lib.hid hR
    clear HRE hR
    by_cases hlt : j < L.length
    · obtain ⟨x, hx⟩ : ∃ x, L[j]? = some x := ⟨_, List.getElem?_eq_getElem hlt⟩
      have hbo := HR.out.below.size
      have hRL := (HL.out.below HR.out.below fun b hb => hb.2.1).more (S' := fun b => (X b ∧ b < w.heap.size) ∧ Soft wo b) fun b hb => ⟨⟨hb.1, hb.2.1⟩, hb.2.2.below HR.out.below hb.2.1⟩
      obtain ⟨b, off, c, A2, e2, hv, hS, ht, c0, c1⟩ := hRL.get j (flatT x) (by rw [List.getElem?_map, hx]; rfl)
      injection hv with hv1 hv2 hv3
      subst hv1 hv3
      have hlt' : (j : Int) < (L.length : Int) := by omega
      have hj0 : (0 : Int) ≤ (j : Int) := by omega
      have hsx : x.size ≤ 100000 := Nat.le_trans (size_mem (List.mem_of_getElem? hx)) HSL.out
      have hbl : b < wo.heap.size := by have := hS.1.2; omega
      have hadd := add_g (w := wo.alloc (.cells #[.slice A2 (flatT x).nodes.length e2, .int .i64 (flatT x).root] 34)) (HR.out.add.below ((Below.refl _ _).alloc (Nat.le_refl _) _)) (by omega) (by omega) (by omega) (by have := HR.out.add.obox.lt; simp; omega) (by omega) (fun b hb => by have := HR.out.add.obox.lt; simp at hb; omega)
        (RTree.more (ht.below ((Below.refl _ _).alloc (Nat.le_refl _) _) fun b hb => by have := hb.1.2; omega) fun b hb => ⟨.inl hb.1, by have := hb.1.2; omega, hb.2.below (B := wo.heap.size) ((Below.refl _ _).alloc (Nat.le_refl _) _) (by have := hb.1.2; omega)⟩) (HLF.out x (List.mem_of_getElem? hx)) ((HK.out.below HR.out.below).below ((Below.refl _ _).alloc (Nat.le_refl _) _)) hsx (HOPL.out j)
      have HADD := Lib.hid hadd
      have HX := Lib.hid hx
      clear hv2 hRL ht hadd hx hS
      go_wp2_with fail
      refine HADD.out.mono ?_
      rintro e w3 ⟨rfl, vo', hA3, hb3⟩
      have HA3 := Lib.hid hA3
      have Hb3 := Lib.hid hb3
      clear hA3 hb3 c0 c1
      go_wp2_with fail
      go_roundw
      case measure => simp [intOf]; omega
      case rel =>
        refine ⟨j + 1, by omega, by go_num, Lib.hid ⟨vo', ?_, ?_, ?_, ?_, ?_⟩⟩
        · rw [openK_take HX.out]; exact HA3.out
        · exact (HR.out.nbox.alloc _).below Hb3.out (by omega)
        · exact (HR.out.none_.alloc _).below Hb3.out (by omega)
        · exact (HR.out.res.alloc _).below Hb3.out (by omega)
        · exact (HR.out.below.alloc hbo _).trans (Hb3.out.mono (by omega))
    · obtain rfl : j = L.length := by omega
      have hR := HR.out
      rw [List.take_length] at hR
      obtain ⟨A, c, rfl⟩ := hR.add.out.slice
      have hol : ((openK d.kind z L).map flatT).length = (openK d.kind z L).length := List.length_map ..
      rw [hol] at hR
      have hopm := HOPL.out L.length
      rw [List.take_length] at hopm
      have hsum := sum_flat (openK d.kind z L)
      have hsz := sizes_open d.kind z L
      have hof := open_fit (k := d.kind) (z := z) HLF.out
      obtain ⟨out, hout⟩ : ∃ out, out = openK d.kind z L := ⟨_, rfl⟩
      rw [← hout] at hR hopm hsum hsz hof ⊢
      have HOUT := Lib.hid hout
      have HS2 := Lib.hid (show sizes out ≤ 100000 by have := HSL.out; omega)
      have HSUM := Lib.hid hsum
      have HOF := Lib.hid hof
      have HR2 := Lib.hid hR
      have o0 : wo.cell? ⟨w.heap.size + 1 + 1 + 1 + 1, 0, none⟩ = some (.slice A out.length c) := hR.add.obox.cell 0
      have r0 : wo.cell? ⟨w.heap.size + 1 + 1 + 1, 0, none⟩ = some (.slice none 0 0) := hR.res.cell 0
      have r1 : wo.cell? ⟨w.heap.size + 1 + 1 + 1, 1, none⟩ = some (.int .i64 0) := hR.res.cell 1
      have f0 := hR.res.frozen 0
      have f1 := hR.res.frozen 1
      have hbo := hR.below.size
      have hR2 := hR.add.out.reads (fun b hb => .inr hb)
      have HRD := Lib.hid hR2
      clear hR hsum hsz hof hol hout HR hR2
      rcases out with _ | ⟨x, _ | ⟨b, r⟩⟩
      case nil =>
        have n0 : wo.cell? ⟨w.heap.size + 1 + 1, 0, none⟩ = some (.slice An 1 cn) := HR2.out.none_.cell 0
        have n1 : wo.cell? ⟨w.heap.size + 1 + 1, 1, none⟩ = some (.int .i64 0) := HR2.out.none_.cell 1
        simp only [List.length_nil] at o0 ⊢
        go_wp2_with fail
        have hB3 := HR2.out.res.set2 (.slice An 1 cn) (.int .i64 0)
        have hbE := (HR2.out.below.setCell (p := ⟨w.heap.size + 1 + 1 + 1, 0, none⟩) (by simp; omega) (.slice An 1 cn)).setCell (p := ⟨w.heap.size + 1 + 1 + 1, 1, none⟩) (by simp; omega) (.int .i64 0)
        refine bodyPost_ret (results_cell2 rfl _ _ (w.heap.size + 1 + 1 + 1) _ _ _ rfl hB3 Tryd.underlying34 rfl tree_size) rfl ?_
        rw [← HOUT.out]
        exact ⟨_, rfl, (RTree.below HN.out hbE fun _ h => h.2.1).more fun b hb => ⟨.inl ⟨hb.1, hb.2.1⟩, Nat.lt_of_lt_of_le hb.2.1 hbE.size, hb.2.2.below hbE hb.2.1⟩, hbE⟩
      case cons.nil =>
        obtain ⟨b, off, c', A2, e2, hv, hS, ht, c0, c1⟩ := HRD.out.get 0 (flatT x) rfl
        injection hv with hv1 hv2 hv3
        subst hv1 hv3
        clear hv2
        simp only [List.length_cons, List.length_nil, Nat.zero_mul, Nat.add_zero, Nat.zero_add] at o0 c0 c1 ⊢
        have HT := Lib.hid ht
        clear ht
        go_wp2_with fail
        have hB3 := HR2.out.res.set2 (.slice A2 (flatT x).nodes.length e2) (.int .i64 (flatT x).root)
        have hbE := (HR2.out.below.setCell (p := ⟨w.heap.size + 1 + 1 + 1, 0, none⟩) (by simp; omega) (.slice A2 (flatT x).nodes.length e2)).setCell (p := ⟨w.heap.size + 1 + 1 + 1, 1, none⟩) (by simp; omega) (.int .i64 (flatT x).root)
        refine bodyPost_ret (results_cell2 rfl _ _ (w.heap.size + 1 + 1 + 1) _ _ _ rfl hB3 Tryd.underlying34 rfl tree_size) rfl ?_
        rw [← HOUT.out]
        refine ⟨_, rfl, (HT.out.keep fun p hp => ?_).more fun b hb => ⟨hb.1.elim .inl (fun h => .inr (by omega)), by simp [World.setCell]; exact hb.2.1, (hb.2.2.setCell _ _).setCell _ _⟩, hbE⟩
        have hne : p.block ≠ w.heap.size + 1 + 1 + 1 := by
          rcases hp.1 with h | h
          · have := h.2; omega
          · omega
        rw [World.cell?_setCell_other _ _ _ _ (by intro e; exact hne (by rw [← e])), World.cell?_setCell_other _ _ _ _ (by intro e; exact hne (by rw [← e]))]
      case cons.cons =>
        obtain ⟨n, hn⟩ : ∃ n, n = (x :: b :: r).length := ⟨_, rfl⟩
        have hn2 : 2 ≤ n := by rw [hn]; simp
        have HNL := Lib.hid hn
        have HO := of_g (N := ⟨d, []⟩) (kv0 := kv) HD.out (ts := (x :: b :: r).map flatT) (v := .slice A (x :: b :: r).length c) (S := fun b => b < wo.heap.size) (w := wo)
          ⟨HRD.out.more fun b hb => hb.2.1, fun _ h => h, HK.out.below HR2.out.below, fun t ht => by
            obtain ⟨y, hy, rfl⟩ := List.mem_map.1 ht
            rw [flatT_len]
            have := size_mem hy
            have := HS2.out
            omega, by rw [List.length_map, ← hn]; omega⟩ (by rw [HSUM.out]; have := HS2.out; omega)
        have hfit : fits d (((x :: b :: r).map flatT).length : Int) = true := by rw [List.length_map, ← hn]; exact HFD.out n hn2
        have HO2 := Lib.hid (show Calls Tryd.prog 78 #[.agg (nodeCells ⟨d, []⟩ kv).toArray, .slice A n c] wo fun e w' => (∃ u, e = .returned (.tuple #[u, .bool true]) ∧ WTree w' wo.heap.size u (flatT (.node d (x :: b :: r)))) ∧ Below wo.heap.size wo w' from by
          rw [← hn] at HO
          refine HO.mono ?_
          rintro e w' ⟨u, x, is, rfl, ho, hi, hb⟩
          obtain ⟨rfl, rfl⟩ := hi.yes hfit (rights_flat _ HOF.out)
          rw [treeOf_map] at ho
          have hr := flat_root (.node d (x :: b :: r)) (by simp only [T.size]; have := HS2.out; omega)
          exact ⟨⟨u, rfl, ho.soft hr.1 hr.2⟩, hb⟩)
        simp only [nodeCells] at HO2
        have hnb := HR2.out.nbox
        rw [hnc] at hnb
        obtain ⟨n0, n1, n2, n3, n4, n5, n6, n7, n8⟩ := hnb.nine
        rw [← hn] at o0
        have b0 : ((n : Int) == 0) = false := by simp; omega
        have b1 : ((n : Int) == 1) = false := by simp; omega
        have HN2 := Lib.hid hn2
        clear HO hfit hnb hn hopm
        go_wp2_with fail
        refine HO2.out.mono ?_
        rintro e w4 ⟨⟨u, rfl, hu⟩, hb4⟩
        obtain ⟨Au, cu, rfl⟩ := hu.agg
        have hres := HR2.out.res.below hb4 HR2.out.res.lt
        have r0 : w4.cell? ⟨w.heap.size + 1 + 1 + 1, 0, none⟩ = some (.slice none 0 0) := hres.cell 0
        have r1 : w4.cell? ⟨w.heap.size + 1 + 1 + 1, 1, none⟩ = some (.int .i64 0) := hres.cell 1
        have f0 := hres.frozen 0
        have f1 := hres.frozen 1
        have HU := Lib.hid hu
        have HRES := Lib.hid hres
        have HB4 := Lib.hid hb4
        have hrl := HR2.out.res.lt
        clear hu hres hb4
        go_wp2_with fail
        have hB3 := HRES.out.set2 (.slice Au (flatT (.node d (x :: b :: r))).nodes.length cu) (.int .i64 (flatT (.node d (x :: b :: r))).root)
        have hbE := ((HR2.out.below.trans (HB4.out.mono hbo)).setCell (p := ⟨w.heap.size + 1 + 1 + 1, 0, none⟩) (by simp; omega) (.slice Au (flatT (.node d (x :: b :: r))).nodes.length cu)).setCell (p := ⟨w.heap.size + 1 + 1 + 1, 1, none⟩) (by simp; omega) (.int .i64 (flatT (.node d (x :: b :: r))).root)
        refine bodyPost_ret (results_cell2 rfl _ _ (w.heap.size + 1 + 1 + 1) _ _ _ rfl hB3 Tryd.underlying34 rfl tree_size) rfl ?_
        rw [← HOUT.out]
        refine ⟨_, rfl, (HU.out.keep fun p hp => ?_).more fun b hb => ⟨.inr (by have := hb.1; omega), by simp [World.setCell]; exact hb.2.1, (hb.2.2.setCell _ _).setCell _ _⟩, hbE⟩
        have hne : p.block ≠ w.heap.size + 1 + 1 + 1 := by have := hp.1; omega
        rw [World.cell?_setCell_other _ _ _ _ (by intro e; exact hne (by rw [← e])), World.cell?_setCell_other _ _ _ _ (by intro e; exact hne (by rw [← e]))]
end Go.Proofs.YtclfpjfjebheoaaDoor
/- The contracts of tree.Set (of nothing) and of the table's two functions of parts. -/
namespace Go.Proofs.YtclfpjfjebheoaaDoor
set_option linter.unusedSimpArgs false
open Go.RowKit
open Classical

set_option maxHeartbeats 2000000 in
theorem Set_g (w : World) :
    Calls Tryd.prog 59 #[.agg #[.int .u64 0, .int .u64 0, .int .u64 0, .int .u64 0]] w fun e w' => ∃ u, e = .returned u ∧ OwnTree w' w.heap.size u ⟨[⟨setD0, []⟩], 0⟩ ∧ Below w.heap.size w w' := by
  have hL := fun (wx : World) => leaf_g (d := setD0) ⟨by decide, by decide, by decide, by decide, by decide⟩ wx
  simp only [nodeCells, setD0] at hL
  have HL := Lib.hid hL
  clear hL
  go_enter Tryd.func59, Tryd.ntmps59
  go_wp2_with fail
  refine (HL.out _).mono ?_
  rintro e w1 ⟨u, rfl, ⟨xv, rfl, kvs, ho0⟩, hb1⟩
  obtain ⟨A2, c2, rfl, _, _, _⟩ := own_slice ho0.row
  have ho : OwnNodes w1 65 _ (fun _ => True) (.slice A2 1 c2) [⟨setD0, []⟩] := ⟨kvs, ho0⟩
  have hb01 : Below w.heap.size w w1 := (((Below.refl _ _).alloc (Nat.le_refl _) _).alloc (by simp) _).trans (hb1.mono (by simp <;> omega))
  have hB1 : Blk w1 (w.heap.size + 1) 34 #[.slice none 0 0, .int .i64 0] := (Blk.new1 _ _ _ _).below hb1 (by simp)
  have e0 : w1.cell? ⟨w.heap.size + 1, 0, none⟩ = some (.slice none 0 0) := hB1.cell 0
  have e1 : w1.cell? ⟨w.heap.size + 1, 1, none⟩ = some (.int .i64 0) := hB1.cell 1
  have f0 := hB1.frozen 0
  have f1 := hB1.frozen 1
  have HB1 := Lib.hid hB1
  have HO := Lib.hid ho
  clear hb1 hB1 ho ho0
  go_wp2_with fail
  have hO1 := HO.out
  simp only [World.size_alloc] at hO1
  have hO2 := hO1.low (g := w.heap.size + 1) (grown_set2 _ _ 0 1 (.slice A2 1 c2) (.int .i64 0)) (by omega)
  have hB2 := HB1.out.set2 (.slice A2 1 c2) (.int .i64 0)
  have hb2 := (hb01.setCell (p := ⟨w.heap.size + 1, 0, none⟩) (by simp) (.slice A2 1 c2)).setCell (p := ⟨w.heap.size + 1, 1, none⟩) (by simp) (.int .i64 0)
  refine bodyPost_ret (results_cell1 rfl _ _ (w.heap.size + 1) _ _ _ rfl hB2 Tryd.underlying34 rfl tree_size) rfl ?_
  exact ⟨_, rfl, ⟨.slice A2 1 c2, rfl, hO2.base_ (by omega)⟩, hb2⟩

/-- What stands behind the store: the box holds the tree. -/
def TogFin (w : World) (X : Nat → Prop) (x : T) (wz : World) : Prop := ∃ A c, Blk wz (w.heap.size + 1) 34 #[.slice A (flatT x).nodes.length c, .int .i64 (flatT x).root] ∧
  XTree wz (fun b => (X b ∧ b < w.heap.size) ∨ w.heap.size + 2 ≤ b) (.agg #[.slice A (flatT x).nodes.length c, .int .i64 (flatT x).root]) (flatT x) ∧ Below w.heap.size w wz
theorem TogFin.mk_ {w ws wx : World} {X : Nat → Prop} {x : T} {A : Option Addr} {c : Nat} (hs : Below w.heap.size w ws) (hw : Below ws.heap.size ws wx) (hB : Blk wx (w.heap.size + 1) 34 #[.slice none 0 0, .int .i64 0])
    (hX : XTree wx (fun b => (X b ∧ b < w.heap.size) ∨ w.heap.size + 2 ≤ b) (.agg #[.slice A (flatT x).nodes.length c, .int .i64 (flatT x).root]) (flatT x)) :
    TogFin w X x ((wx.setCell ⟨w.heap.size + 1, 0, none⟩ (.slice A (flatT x).nodes.length c)).setCell ⟨w.heap.size + 1, 1, none⟩ (.int .i64 (flatT x).root)) :=
  ⟨A, c, hB.set2 _ _, hX.far (grown_set2 _ _ 0 1 _ _) (by omega), ((hs.trans (hw.mono hs.size)).setCell (by simp) _).setCell (by simp) _⟩

set_option maxRecDepth 20000 in
set_option maxHeartbeats 4000000 in
theorem togS_g {kv vl : Value} {L : List T} {X : Nat → Prop} {w : World} (hL : RTrees w (fun b => X b ∧ b < w.heap.size ∧ Soft w b) vl (L.map flatT)) (hLf : ∀ x ∈ L, FitT x) (hk : KTab w) (hs : sizes L ≤ 100000) (hl : L.length ≤ 100000) :
    Calls Tryd.prog 126 #[.agg #[.int .u8 4, .int .u64 0, .int .u64 0, .int .u64 0, .int .u64 0, .string ⟨#[]⟩, .int .i64 0, .int .i64 0, kv], vl] w (SomePost X w (collS (openK 4 0 L))) := by
  obtain ⟨ws, hws⟩ : ∃ ws, ws = (w.alloc (.cells #[.int .u8 4, .int .u64 0, .int .u64 0, .int .u64 0, .int .u64 0, .string ⟨#[]⟩, .int .i64 0, .int .i64 0, kv] 65)).alloc (.cells #[.slice none 0 0, .int .i64 0] 34) := ⟨_, rfl⟩
  have hbs : Below w.heap.size w ws := by rw [hws]; exact ((Below.refl _ _).alloc (Nat.le_refl _) _).alloc (by simp) _
  have hsz : ws.heap.size = w.heap.size + 2 := by rw [hws]; simp
  have hBN : Blk ws w.heap.size 65 #[.int .u8 4, .int .u64 0, .int .u64 0, .int .u64 0, .int .u64 0, .string ⟨#[]⟩, .int .i64 0, .int .i64 0, kv] := by rw [hws]; exact (Blk.new w _ _).alloc _
  have hBR : Blk ws (w.heap.size + 1) 34 #[.slice none 0 0, .int .i64 0] := by rw [hws]; exact Blk.new1 _ _ _ _
  have HCL := Lib.hid (show ∀ wx, Below ws.heap.size ws wx → (wx.cell? ⟨w.heap.size, 0, none⟩ = some (.int .u8 4) ∧ wx.cell? ⟨w.heap.size, 1, none⟩ = some (.int .u64 0) ∧ wx.cell? ⟨w.heap.size, 2, none⟩ = some (.int .u64 0) ∧ wx.cell? ⟨w.heap.size, 3, none⟩ = some (.int .u64 0) ∧ wx.cell? ⟨w.heap.size, 4, none⟩ = some (.int .u64 0) ∧ wx.cell? ⟨w.heap.size, 5, none⟩ = some (.string ⟨#[]⟩) ∧ wx.cell? ⟨w.heap.size, 6, none⟩ = some (.int .i64 0) ∧ wx.cell? ⟨w.heap.size, 7, none⟩ = some (.int .i64 0) ∧ wx.cell? ⟨w.heap.size, 8, none⟩ = some kv) ∧ wx.cell? ⟨w.heap.size + 1, 0, none⟩ = some (.slice none 0 0) ∧ wx.cell? ⟨w.heap.size + 1, 1, none⟩ = some (.int .i64 0) ∧ wx.frozen? ⟨w.heap.size + 1, 0, none⟩ = false ∧ wx.frozen? ⟨w.heap.size + 1, 1, none⟩ = false from fun wx hx =>
    ⟨(hBN.below hx hBN.lt).nine, (hBR.below hx hBR.lt).cell 0, (hBR.below hx hBR.lt).cell 1, (hBR.below hx hBR.lt).frozen 0, (hBR.below hx hBR.lt).frozen 1⟩)
  have HE := Lib.hid (show ∀ wx, Below ws.heap.size ws wx → Calls Tryd.prog 58 #[] wx fun e w' => (∃ u, e = .returned u ∧ XTree w' (fun b => (X b ∧ b < w.heap.size) ∨ w.heap.size + 2 ≤ b) u (flatT (.node default []))) ∧ Below wx.heap.size wx w' from fun wx hx => (Empty_g wx).mono fun e w' h => by
    obtain ⟨u, he, ho, hb⟩ := h
    exact ⟨⟨u, he, (XTree.of_own (t := flatT (.node default [])) ho (by decide) (by decide)).weaken fun b h1 _ => .inr (by have := hx.size; omega)⟩, hb⟩)
  have HS := Lib.hid (show ∀ wx, Below ws.heap.size ws wx → ∀ vn, XTree wx (fun b => (X b ∧ b < w.heap.size) ∨ w.heap.size + 2 ≤ b) vn (flatT (.node default [])) → Calls Tryd.prog 127 #[.agg #[.int .u8 4, .int .u64 0, .int .u64 0, .int .u64 0, .int .u64 0, .string ⟨#[]⟩, .int .i64 0, .int .i64 0, kv], vl, .int .u8 0, vn] wx fun e w' => (∃ u, e = .returned (.tuple #[u, .bool true]) ∧ XTree w' (fun b => (X b ∧ b < w.heap.size) ∨ w.heap.size + 2 ≤ b) u (flatT (collS (openK 4 0 L)))) ∧ Below wx.heap.size wx w' from fun wx hx vn hn => by
    have hbw := hbs.trans (hx.mono hbs.size)
    have h := some_g (d := seqD) (ed := default) (kv := kv) (z := 0) (X := fun b => (X b ∧ b < w.heap.size) ∨ w.heap.size + 2 ≤ b) ⟨by decide, by decide, by decide, by decide, by decide⟩ (fun n hn => fits_seq n hn) ((hL.below hbw fun b hb => hb.2.1).more fun b hb => ⟨.inl ⟨hb.1, hb.2.1⟩, Nat.lt_of_lt_of_le hb.2.1 hbw.size, hb.2.2.below hbw hb.2.1⟩) hLf hn (hk.below hbw) hs hl
    refine h.mono ?_
    rintro e w' ⟨u, he, hu, hb⟩
    exact ⟨⟨u, he, hu.weaken fun b hb _ => hb.elim (fun h => h.1) (fun h => .inr (by have := hx.size; omega))⟩, hb⟩)
  have HWS := Lib.hid hbs
  have HBR := Lib.hid hBR
  clear hL hLf hk hbs hsz hBN hBR
  go_enter Tryd.func126, Tryd.ntmps126
  go_wp2_with fail
  rw [← hws]
  clear hws
  refine wp_region_inv2 (G := Nat) 0 SE (fun j γ => if j ≤ 6 then γ = 0 else True) [[], [], [], [0, 1, 2], [0, 1, 2, 3], [0, 1, 2, 3], [0, 1, 2, 3, 4, 5], [0, 1, 2, 3, 4, 5, 6]]
    [fun v _ => v = .agg #[.int .u8 4, .int .u64 0, .int .u64 0, .int .u64 0, .int .u64 0, .string ⟨#[]⟩, .int .i64 0, .int .i64 0, kv], fun v _ => v = vl, fun v s => s.1 = 0 → (fun v wq => XTree wq (fun b => (X b ∧ b < w.heap.size) ∨ w.heap.size + 2 ≤ b) v (flatT (.node default []))) v s.2, fun v s => s.1 = 0 → (fun v wq => ∃ u, v = .tuple #[u, .bool true] ∧ XTree wq (fun b => (X b ∧ b < w.heap.size) ∨ w.heap.size + 2 ≤ b) u (flatT (collS (openK 4 0 L)))) v s.2, fun v s => s.1 = 0 → (fun v wq => XTree wq (fun b => (X b ∧ b < w.heap.size) ∨ w.heap.size + 2 ≤ b) v (flatT (collS (openK 4 0 L)))) v s.2, fun v _ => v = .bool true, fun _ s => (TogFin w X (collS (openK 4 0 L))) s.2 ∧ 2 ≤ s.1, fun v _ => v = .bool true]
    (by kernel_rfl) SE.trans (SE.refl _) (by kernel_rfl) (by kernel_rfl) (by kernel_rfl) (fun i => by simp) ?rstt4 ?rstepst4 ?rfint4
  case rstt4 =>
    intro R hR v s s' _ h hr
    simp only [List.mem_cons, List.not_mem_nil, or_false] at hR
    rcases hR with rfl | rfl | rfl | rfl | rfl | rfl | rfl | rfl
    · exact hr
    · exact hr
    · intro h0
      have hs0 : s.1 = 0 := by have := h.1; omega
      have hr := hr hs0
      have hb := h.2.1 hs0 h0
      exact XTree.below hr hb
    · intro h0
      have hs0 : s.1 = 0 := by have := h.1; omega
      have hr := hr hs0
      have hb := h.2.1 hs0 h0
      exact hr.imp fun _ h' => ⟨h'.1, h'.2.below hb⟩
    · intro h0
      have hs0 : s.1 = 0 := by have := h.1; omega
      have hr := hr hs0
      have hb := h.2.1 hs0 h0
      exact XTree.below hr hb
    · exact hr
    · rw [h.2.2.2 hr.2]; exact hr
    · exact hr
  case rstepst4 =>
    refine ⟨?_, ?_, ?_, ?_, ?_, ?_, ?_, ?_, trivial⟩
    · intro a γ wx hB hE hN hW K hK
      simp at hN
      subst hN
      have hw := hE.read rfl
      have h2 : a.tmps[2]? = some (.pointer (some ⟨w.heap.size, 0, none⟩)) := (hB.at_ 2 (of_decide_eq_true (by kernel_rfl))).trans rfl
      have hc := HCL.out _ hw
      clear hB hE
      go_simp
      exact hK (.agg #[.int .u8 4, .int .u64 0, .int .u64 0, .int .u64 0, .int .u64 0, .string ⟨#[]⟩, .int .i64 0, .int .i64 0, kv]) _ _ (SE.refl _) (fun j h1 h2 h => h) rfl
    · intro a γ wx hB hE hN hW K hK
      simp at hN
      subst hN
      have hw := hE.read rfl
      have h1 : a.tmps[1]? = some (vl) := (hB.at_ 1 (of_decide_eq_true (by kernel_rfl))).trans rfl
      clear hB hE
      go_simp
      exact hK (vl) _ _ (SE.refl _) (fun j h1 h2 h => h) rfl
    · intro a γ wx hB hE hN hW K hK
      simp at hN
      subst hN
      have hw := hE.read rfl
      clear hB hE
      go_simp
      refine (HE.out _ hw).mono ?_
      rintro e w' ⟨⟨u, rfl, hu⟩, hbb⟩
      exact hK _ 0 _ (SE.call hbb) (fun j h1 h2 h => h) (fun _ => hu)
    · intro a γ wx hB hE hN hW K hK
      simp at hN
      subst hN
      have hw := hE.read rfl
      obtain ⟨⟨_, h6, rfl⟩, ⟨_, h7, rfl⟩, ⟨v8, h8, r8⟩, -⟩ := hW
      have q8 := r8 rfl
      clear r8
      have r8 := q8
      clear q8
      clear hB hE
      go_simp
      refine (HS.out _ hw _ r8).mono ?_
      rintro e w' ⟨⟨u, rfl, hu⟩, hbb⟩
      exact hK _ 0 _ (SE.call hbb) (fun j h1 h2 h => h) (fun _ => ⟨u, rfl, hu⟩)
    · intro a γ wx hB hE hN hW K hK
      simp at hN
      subst hN
      have hw := hE.read rfl
      obtain ⟨⟨v9, h9, r9⟩, -⟩ := hW
      have q9 := r9 rfl
      clear r9
      obtain ⟨u9, rfl, r9⟩ := q9
      clear hB hE
      go_simp
      exact hK (_) _ _ (SE.refl _) (fun j h1 h2 h => h) (fun _ => r9)
    · intro a γ wx hB hE hN hW K hK
      simp at hN
      subst hN
      have hw := hE.read rfl
      obtain ⟨⟨v9, h9, r9⟩, -⟩ := hW
      have q9 := r9 rfl
      clear r9
      obtain ⟨u9, rfl, r9⟩ := q9
      clear hB hE
      go_simp
      exact hK (.bool true) _ _ (SE.refl _) (fun j h1 h2 h => h) rfl
    · intro a γ wx hB hE hN hW K hK
      simp at hN
      subst hN
      have hw := hE.read rfl
      obtain ⟨⟨v10, h10, r10⟩, -⟩ := hW
      have q10 := r10 rfl
      clear r10
      have r10 := q10
      clear q10
      have h4 : a.tmps[4]? = some (.pointer (some ⟨w.heap.size + 1, 0, none⟩)) := (hB.at_ 4 (of_decide_eq_true (by kernel_rfl))).trans rfl
      have hc := HCL.out _ hw
      clear hB hE
      obtain ⟨A, c, rfl⟩ := r10.agg
      go_simp
      refine hK undef 2 _ ⟨by simp, fun _ h => absurd h (by simp), fun h => absurd h (by simp), fun h => absurd h (by simp)⟩ (fun j h1 h2 h => ?_) ⟨?_, Nat.le_refl _⟩
      · rcases Nat.lt_or_ge 6 j with hj | hj
        · rw [if_neg (by omega)]; trivial
        · exfalso; simp at h2; omega
      exact TogFin.mk_ HWS.out hw (HBR.out.below hw HBR.out.lt) r10
    · intro a γ wx hB hE hN hW K hK
      obtain ⟨⟨_, h11, rfl⟩, -⟩ := hW
      clear hB hE hN
      go_simp
      exact hK (.bool true) _ _ (SE.refl _) (fun j h1 h2 h => h) rfl
  case rfint4 =>
    intro a' γ wz hB hE hK
    obtain ⟨_, h6, rfl⟩ := hK 0 (of_decide_eq_true (by kernel_rfl))
    obtain ⟨v7, h7, e7⟩ := hK 1 (of_decide_eq_true (by kernel_rfl))
    rw [show v7 = vl from e7] at h7
    clear e7
    obtain ⟨v8, h8, -⟩ := hK 2 (of_decide_eq_true (by kernel_rfl))
    obtain ⟨v9, h9, -⟩ := hK 3 (of_decide_eq_true (by kernel_rfl))
    obtain ⟨v10, h10, -⟩ := hK 4 (of_decide_eq_true (by kernel_rfl))
    obtain ⟨_, h11, rfl⟩ := hK 5 (of_decide_eq_true (by kernel_rfl))
    obtain ⟨_, hP, -⟩ := hK 6 (of_decide_eq_true (by kernel_rfl))
    obtain ⟨_, h5, rfl⟩ := hK 7 (of_decide_eq_true (by kernel_rfl))
    have ha := hB.eq [(6, .agg #[.int .u8 4, .int .u64 0, .int .u64 0, .int .u64 0, .int .u64 0, .string ⟨#[]⟩, .int .i64 0, .int .i64 0, kv]), (7, vl), (8, v8), (9, v9), (10, v10), (11, .bool true), (5, .bool true)] rfl (by kernel_rfl) ⟨h6, h7, h8, h9, h10, h11, h5, trivial⟩
    subst ha
    have HP := Lib.hid hP
    clear hK hB hE hP h6 h7 h8 h9 h10 h11 h5
    simp only [putAll, List.foldl_cons, List.foldl_nil, List.setIfInBounds_toArray, List.set_cons_succ, List.set_cons_zero]
    go_wp2_with fail
    obtain ⟨A, c, hBz, hXz, hbz⟩ := HP.out
    refine bodyPost_ret (results_cell2 rfl _ _ (w.heap.size + 1) _ _ _ rfl hBz Tryd.underlying34 rfl tree_size) rfl ?_
    exact ⟨_, rfl, hXz.weaken fun b hb _ => hb.elim .inl (fun h => .inr (by omega)), hbz⟩

set_option maxRecDepth 20000 in
set_option maxHeartbeats 4000000 in
theorem togC_g {kv vl : Value} {L : List T} {X : Nat → Prop} {w : World} (hL : RTrees w (fun b => X b ∧ b < w.heap.size ∧ Soft w b) vl (L.map flatT)) (hLf : ∀ x ∈ L, FitT x) (hk : KTab w) (hs : sizes L ≤ 100000) (hl : L.length ≤ 100000) :
    Calls Tryd.prog 128 #[.agg #[.int .u8 5, .int .u64 0, .int .u64 0, .int .u64 0, .int .u64 0, .string ⟨#[]⟩, .int .i64 0, .int .i64 0, kv], vl] w (SomePost X w (collC (openK 5 5 L))) := by
  obtain ⟨ws, hws⟩ : ∃ ws, ws = (w.alloc (.cells #[.int .u8 5, .int .u64 0, .int .u64 0, .int .u64 0, .int .u64 0, .string ⟨#[]⟩, .int .i64 0, .int .i64 0, kv] 65)).alloc (.cells #[.slice none 0 0, .int .i64 0] 34) := ⟨_, rfl⟩
  have hbs : Below w.heap.size w ws := by rw [hws]; exact ((Below.refl _ _).alloc (Nat.le_refl _) _).alloc (by simp) _
  have hsz : ws.heap.size = w.heap.size + 2 := by rw [hws]; simp
  have hBN : Blk ws w.heap.size 65 #[.int .u8 5, .int .u64 0, .int .u64 0, .int .u64 0, .int .u64 0, .string ⟨#[]⟩, .int .i64 0, .int .i64 0, kv] := by rw [hws]; exact (Blk.new w _ _).alloc _
  have hBR : Blk ws (w.heap.size + 1) 34 #[.slice none 0 0, .int .i64 0] := by rw [hws]; exact Blk.new1 _ _ _ _
  have HCL := Lib.hid (show ∀ wx, Below ws.heap.size ws wx → (wx.cell? ⟨w.heap.size, 0, none⟩ = some (.int .u8 5) ∧ wx.cell? ⟨w.heap.size, 1, none⟩ = some (.int .u64 0) ∧ wx.cell? ⟨w.heap.size, 2, none⟩ = some (.int .u64 0) ∧ wx.cell? ⟨w.heap.size, 3, none⟩ = some (.int .u64 0) ∧ wx.cell? ⟨w.heap.size, 4, none⟩ = some (.int .u64 0) ∧ wx.cell? ⟨w.heap.size, 5, none⟩ = some (.string ⟨#[]⟩) ∧ wx.cell? ⟨w.heap.size, 6, none⟩ = some (.int .i64 0) ∧ wx.cell? ⟨w.heap.size, 7, none⟩ = some (.int .i64 0) ∧ wx.cell? ⟨w.heap.size, 8, none⟩ = some kv) ∧ wx.cell? ⟨w.heap.size + 1, 0, none⟩ = some (.slice none 0 0) ∧ wx.cell? ⟨w.heap.size + 1, 1, none⟩ = some (.int .i64 0) ∧ wx.frozen? ⟨w.heap.size + 1, 0, none⟩ = false ∧ wx.frozen? ⟨w.heap.size + 1, 1, none⟩ = false from fun wx hx =>
    ⟨(hBN.below hx hBN.lt).nine, (hBR.below hx hBR.lt).cell 0, (hBR.below hx hBR.lt).cell 1, (hBR.below hx hBR.lt).frozen 0, (hBR.below hx hBR.lt).frozen 1⟩)
  have HE := Lib.hid (show ∀ wx, Below ws.heap.size ws wx → Calls Tryd.prog 59 #[.agg #[.int .u64 0, .int .u64 0, .int .u64 0, .int .u64 0]] wx fun e w' => (∃ u, e = .returned u ∧ XTree w' (fun b => (X b ∧ b < w.heap.size) ∨ w.heap.size + 2 ≤ b) u (flatT (.node setD0 []))) ∧ Below wx.heap.size wx w' from fun wx hx => (Set_g wx).mono fun e w' h => by
    obtain ⟨u, he, ho, hb⟩ := h
    exact ⟨⟨u, he, (XTree.of_own (t := flatT (.node setD0 [])) ho (by decide) (by decide)).weaken fun b h1 _ => .inr (by have := hx.size; omega)⟩, hb⟩)
  have HS := Lib.hid (show ∀ wx, Below ws.heap.size ws wx → ∀ vn, XTree wx (fun b => (X b ∧ b < w.heap.size) ∨ w.heap.size + 2 ≤ b) vn (flatT (.node setD0 [])) → Calls Tryd.prog 127 #[.agg #[.int .u8 5, .int .u64 0, .int .u64 0, .int .u64 0, .int .u64 0, .string ⟨#[]⟩, .int .i64 0, .int .i64 0, kv], vl, .int .u8 5, vn] wx fun e w' => (∃ u, e = .returned (.tuple #[u, .bool true]) ∧ XTree w' (fun b => (X b ∧ b < w.heap.size) ∨ w.heap.size + 2 ≤ b) u (flatT (collC (openK 5 5 L)))) ∧ Below wx.heap.size wx w' from fun wx hx vn hn => by
    have hbw := hbs.trans (hx.mono hbs.size)
    have h := some_g (d := choiceD) (ed := setD0) (kv := kv) (z := 5) (X := fun b => (X b ∧ b < w.heap.size) ∨ w.heap.size + 2 ≤ b) ⟨by decide, by decide, by decide, by decide, by decide⟩ (fun n hn => fits_choice n hn) ((hL.below hbw fun b hb => hb.2.1).more fun b hb => ⟨.inl ⟨hb.1, hb.2.1⟩, Nat.lt_of_lt_of_le hb.2.1 hbw.size, hb.2.2.below hbw hb.2.1⟩) hLf hn (hk.below hbw) hs hl
    refine h.mono ?_
    rintro e w' ⟨u, he, hu, hb⟩
    exact ⟨⟨u, he, hu.weaken fun b hb _ => hb.elim (fun h => h.1) (fun h => .inr (by have := hx.size; omega))⟩, hb⟩)
  have HWS := Lib.hid hbs
  have HBR := Lib.hid hBR
  clear hL hLf hk hbs hsz hBN hBR
  go_enter Tryd.func128, Tryd.ntmps128
  go_wp2_with fail
  rw [← hws]
  clear hws
  refine wp_region_inv2 (G := Nat) 0 SE (fun j γ => if j ≤ 7 then γ = 0 else True) [[], [], [], [2], [0, 1, 2, 3], [0, 1, 2, 3, 4], [0, 1, 2, 3, 4], [0, 1, 2, 3, 4, 5, 6], [0, 1, 2, 3, 4, 5, 6, 7]]
    [fun v _ => v = .agg #[.int .u8 5, .int .u64 0, .int .u64 0, .int .u64 0, .int .u64 0, .string ⟨#[]⟩, .int .i64 0, .int .i64 0, kv], fun v _ => v = vl, fun v _ => v = .agg #[.int .u64 0, .int .u64 0, .int .u64 0, .int .u64 0], fun v s => s.1 = 0 → (fun v wq => XTree wq (fun b => (X b ∧ b < w.heap.size) ∨ w.heap.size + 2 ≤ b) v (flatT (.node setD0 []))) v s.2, fun v s => s.1 = 0 → (fun v wq => ∃ u, v = .tuple #[u, .bool true] ∧ XTree wq (fun b => (X b ∧ b < w.heap.size) ∨ w.heap.size + 2 ≤ b) u (flatT (collC (openK 5 5 L)))) v s.2, fun v s => s.1 = 0 → (fun v wq => XTree wq (fun b => (X b ∧ b < w.heap.size) ∨ w.heap.size + 2 ≤ b) v (flatT (collC (openK 5 5 L)))) v s.2, fun v _ => v = .bool true, fun _ s => (TogFin w X (collC (openK 5 5 L))) s.2 ∧ 2 ≤ s.1, fun v _ => v = .bool true]
    (by kernel_rfl) SE.trans (SE.refl _) (by kernel_rfl) (by kernel_rfl) (by kernel_rfl) (fun i => by simp) ?rstt5 ?rstepst5 ?rfint5
  case rstt5 =>
    intro R hR v s s' _ h hr
    simp only [List.mem_cons, List.not_mem_nil, or_false] at hR
    rcases hR with rfl | rfl | rfl | rfl | rfl | rfl | rfl | rfl | rfl
    · exact hr
    · exact hr
    · exact hr
    · intro h0
      have hs0 : s.1 = 0 := by have := h.1; omega
      have hr := hr hs0
      have hb := h.2.1 hs0 h0
      exact XTree.below hr hb
    · intro h0
      have hs0 : s.1 = 0 := by have := h.1; omega
      have hr := hr hs0
      have hb := h.2.1 hs0 h0
      exact hr.imp fun _ h' => ⟨h'.1, h'.2.below hb⟩
    · intro h0
      have hs0 : s.1 = 0 := by have := h.1; omega
      have hr := hr hs0
      have hb := h.2.1 hs0 h0
      exact XTree.below hr hb
    · exact hr
    · rw [h.2.2.2 hr.2]; exact hr
    · exact hr
  case rstepst5 =>
    refine ⟨?_, ?_, ?_, ?_, ?_, ?_, ?_, ?_, ?_, trivial⟩
    · intro a γ wx hB hE hN hW K hK
      simp at hN
      subst hN
      have hw := hE.read rfl
      have h2 : a.tmps[2]? = some (.pointer (some ⟨w.heap.size, 0, none⟩)) := (hB.at_ 2 (of_decide_eq_true (by kernel_rfl))).trans rfl
      have hc := HCL.out _ hw
      clear hB hE
      go_simp
      exact hK (.agg #[.int .u8 5, .int .u64 0, .int .u64 0, .int .u64 0, .int .u64 0, .string ⟨#[]⟩, .int .i64 0, .int .i64 0, kv]) _ _ (SE.refl _) (fun j h1 h2 h => h) rfl
    · intro a γ wx hB hE hN hW K hK
      simp at hN
      subst hN
      have hw := hE.read rfl
      have h1 : a.tmps[1]? = some (vl) := (hB.at_ 1 (of_decide_eq_true (by kernel_rfl))).trans rfl
      clear hB hE
      go_simp
      exact hK (vl) _ _ (SE.refl _) (fun j h1 h2 h => h) rfl
    · intro a γ wx hB hE hN hW K hK
      simp at hN
      subst hN
      have hw := hE.read rfl
      clear hB hE
      go_simp
      exact hK (.agg #[.int .u64 0, .int .u64 0, .int .u64 0, .int .u64 0]) _ _ (SE.refl _) (fun j h1 h2 h => h) rfl
    · intro a γ wx hB hE hN hW K hK
      simp at hN
      subst hN
      have hw := hE.read rfl
      obtain ⟨⟨_, h8, rfl⟩, -⟩ := hW
      clear hB hE
      go_simp
      refine (HE.out _ hw).mono ?_
      rintro e w' ⟨⟨u, rfl, hu⟩, hbb⟩
      exact hK _ 0 _ (SE.call hbb) (fun j h1 h2 h => h) (fun _ => hu)
    · intro a γ wx hB hE hN hW K hK
      simp at hN
      subst hN
      have hw := hE.read rfl
      obtain ⟨⟨_, h6, rfl⟩, ⟨_, h7, rfl⟩, ⟨v9, h9, r9⟩, -⟩ := hW
      have q9 := r9 rfl
      clear r9
      have r9 := q9
      clear q9
      clear hB hE
      go_simp
      refine (HS.out _ hw _ r9).mono ?_
      rintro e w' ⟨⟨u, rfl, hu⟩, hbb⟩
      exact hK _ 0 _ (SE.call hbb) (fun j h1 h2 h => h) (fun _ => ⟨u, rfl, hu⟩)
    · intro a γ wx hB hE hN hW K hK
      simp at hN
      subst hN
      have hw := hE.read rfl
      obtain ⟨⟨v10, h10, r10⟩, -⟩ := hW
      have q10 := r10 rfl
      clear r10
      obtain ⟨u10, rfl, r10⟩ := q10
      clear hB hE
      go_simp
      exact hK (_) _ _ (SE.refl _) (fun j h1 h2 h => h) (fun _ => r10)
    · intro a γ wx hB hE hN hW K hK
      simp at hN
      subst hN
      have hw := hE.read rfl
      obtain ⟨⟨v10, h10, r10⟩, -⟩ := hW
      have q10 := r10 rfl
      clear r10
      obtain ⟨u10, rfl, r10⟩ := q10
      clear hB hE
      go_simp
      exact hK (.bool true) _ _ (SE.refl _) (fun j h1 h2 h => h) rfl
    · intro a γ wx hB hE hN hW K hK
      simp at hN
      subst hN
      have hw := hE.read rfl
      obtain ⟨⟨v11, h11, r11⟩, -⟩ := hW
      have q11 := r11 rfl
      clear r11
      have r11 := q11
      clear q11
      have h4 : a.tmps[4]? = some (.pointer (some ⟨w.heap.size + 1, 0, none⟩)) := (hB.at_ 4 (of_decide_eq_true (by kernel_rfl))).trans rfl
      have hc := HCL.out _ hw
      clear hB hE
      obtain ⟨A, c, rfl⟩ := r11.agg
      go_simp
      refine hK undef 2 _ ⟨by simp, fun _ h => absurd h (by simp), fun h => absurd h (by simp), fun h => absurd h (by simp)⟩ (fun j h1 h2 h => ?_) ⟨?_, Nat.le_refl _⟩
      · rcases Nat.lt_or_ge 7 j with hj | hj
        · rw [if_neg (by omega)]; trivial
        · exfalso; simp at h2; omega
      exact TogFin.mk_ HWS.out hw (HBR.out.below hw HBR.out.lt) r11
    · intro a γ wx hB hE hN hW K hK
      obtain ⟨⟨_, h12, rfl⟩, -⟩ := hW
      clear hB hE hN
      go_simp
      exact hK (.bool true) _ _ (SE.refl _) (fun j h1 h2 h => h) rfl
  case rfint5 =>
    intro a' γ wz hB hE hK
    obtain ⟨_, h6, rfl⟩ := hK 0 (of_decide_eq_true (by kernel_rfl))
    obtain ⟨v7, h7, e7⟩ := hK 1 (of_decide_eq_true (by kernel_rfl))
    rw [show v7 = vl from e7] at h7
    clear e7
    obtain ⟨_, h8, rfl⟩ := hK 2 (of_decide_eq_true (by kernel_rfl))
    obtain ⟨v9, h9, -⟩ := hK 3 (of_decide_eq_true (by kernel_rfl))
    obtain ⟨v10, h10, -⟩ := hK 4 (of_decide_eq_true (by kernel_rfl))
    obtain ⟨v11, h11, -⟩ := hK 5 (of_decide_eq_true (by kernel_rfl))
    obtain ⟨_, h12, rfl⟩ := hK 6 (of_decide_eq_true (by kernel_rfl))
    obtain ⟨_, hP, -⟩ := hK 7 (of_decide_eq_true (by kernel_rfl))
    obtain ⟨_, h5, rfl⟩ := hK 8 (of_decide_eq_true (by kernel_rfl))
    have ha := hB.eq [(6, .agg #[.int .u8 5, .int .u64 0, .int .u64 0, .int .u64 0, .int .u64 0, .string ⟨#[]⟩, .int .i64 0, .int .i64 0, kv]), (7, vl), (8, .agg #[.int .u64 0, .int .u64 0, .int .u64 0, .int .u64 0]), (9, v9), (10, v10), (11, v11), (12, .bool true), (5, .bool true)] rfl (by kernel_rfl) ⟨h6, h7, h8, h9, h10, h11, h12, h5, trivial⟩
    subst ha
    have HP := Lib.hid hP
    clear hK hB hE hP h6 h7 h8 h9 h10 h11 h12 h5
    simp only [putAll, List.foldl_cons, List.foldl_nil, List.setIfInBounds_toArray, List.set_cons_succ, List.set_cons_zero]
    go_wp2_with fail
    obtain ⟨A, c, hBz, hXz, hbz⟩ := HP.out
    refine bodyPost_ret (results_cell2 rfl _ _ (w.heap.size + 1) _ _ _ rfl hBz Tryd.underlying34 rfl tree_size) rfl ?_
    exact ⟨_, rfl, hXz.weaken fun b hb _ => hb.elim .inl (fun h => .inr (by omega)), hbz⟩
end Go.Proofs.YtclfpjfjebheoaaDoor
/- The contract of expr.all, given expr.Make's for the trees at hand. -/
namespace Go.Proofs.YtclfpjfjebheoaaDoor
set_option linter.unusedSimpArgs false
open Go.RowKit
open Classical

theorem gTog : Tryd.prog.globalNamed "bonsai/expr.together" = some 2 := by kernel_rfl
/-- The table of functions that put parts together, as its text lays it. -/
def togFns : List Nat := [78, 78, 78, 78, 126, 128, 78, 78, 78, 78]
def TogTab (W : World) : Prop := W.var? Tryd.prog "bonsai/expr.together" = some (togFns.map fun f => Value.func (.func f) #[] #[]).toArray
theorem TogTab.cell {W : World} (h : TogTab W) (i : Nat) (hi : i < 10) : W.cell? ⟨2, i, none⟩ = some (.func (.func (togFns.getD i 0)) #[] #[]) := by
  have := World.var?_cell gTog h i
  have hl : togFns.length = 10 := rfl
  simpa [List.getD, hl, hi] using this
theorem TogTab.lt {W : World} (h : TogTab W) : 2 < W.heap.size := var_lt gTog h
theorem TogTab.below {W W' : World} (h : TogTab W) (hb : Below W.heap.size W W') : TogTab W' := by
  unfold TogTab at h ⊢
  rw [← h]
  unfold World.var?
  rw [gTog]
  simp only [Option.bind_some]
  rw [hb.block _ (TogTab.lt h)]
/-- What Make makes of a tree. -/
noncomputable def nfTr (t : Tr) : Tr := if RightT t then flatT (nf (treeOf t)) else zeroT
def MakePost (t : Tr) (w : World) (e : Ending) (w' : World) : Prop := ∃ u, e = .returned (.tuple #[u, .bool (decide (RightT t))]) ∧ XTree w' (fun b => w.heap.size ≤ b) u (nfTr t) ∧ Below w.heap.size w w'
/-- What expr's functions ask. -/
structure GivenE (t : Tr) (v : Value) (S : Nat → Prop) (w : World) : Prop where
  given : Given t v S w
  tog : TogTab w
  less : t.nodes.length ≤ 100000
theorem GivenE.below {t : Tr} {v : Value} {S : Nat → Prop} {w w' : World} (h : GivenE t v S w) (hb : Below w.heap.size w w') : GivenE t v S w' := ⟨h.given.below hb, h.tog.below hb, h.less⟩
def MakeC (t : Tr) : Prop := ∀ (v : Value) (S : Nat → Prop) (w : World), GivenE t v S w → Calls Tryd.prog 23 #[v] w (MakePost t w)
structure GivenEL (ts : List Tr) (v : Value) (S : Nat → Prop) (w : World) : Prop where
  read : RTrees w S v ts
  old : ∀ b, S b → b < w.heap.size
  tab : KTab w
  tog : TogTab w
  sum : (ts.map (·.nodes.length)).sum ≤ 100000
  few : ts.length ≤ 100000
theorem GivenEL.below {ts : List Tr} {v : Value} {S : Nat → Prop} {w w' : World} (h : GivenEL ts v S w) (hb : Below w.heap.size w w') : GivenEL ts v S w' :=
  ⟨h.read.below hb h.old, fun b hs => Nat.lt_of_lt_of_le (h.old b hs) hb.size, h.tab.below hb, h.tog.below hb, h.sum, h.few⟩
theorem sum_mem {ts : List Tr} {t : Tr} (h : t ∈ ts) : t.nodes.length ≤ (ts.map (·.nodes.length)).sum := by
  induction ts with
  | nil => cases h
  | cons a ts ih =>
    rw [List.map_cons, List.sum_cons]
    rcases List.mem_cons.1 h with rfl | h
    · omega
    · have := ih h; omega
theorem nf_size (t : T) : (nf t).size ≤ t.size := by
  have hm : ∀ L : List T, (∀ x ∈ L, (nf x).size ≤ x.size) → sizes (L.map nf) ≤ sizes L := by
    intro L
    induction L with
    | nil => intro _; simp [sizes]
    | cons a L ih =>
      intro h
      simp only [List.map_cons, sizes]
      have := h a (by simp)
      have := ih fun x hx => h x (by simp [hx])
      omega
  have hc : ∀ (d e : Dt) (L : List T), (coll d e L).size ≤ 1 + sizes L := by
    intro d e L
    match L with
    | [] => simp [coll, T.size, sizes]
    | [x] => simp [coll, sizes]
    | a :: b :: L => simp [coll, T.size]
  induction t using T.ind with
  | h d ks ih =>
    have h1 := hm ks ih
    rw [nf_node, tog]
    have h0 : (T.node d ks).size = 1 + sizes ks := by simp only [T.size]
    split
    · show (coll seqD default (openK 4 0 (ks.map nf))).size ≤ _
      have := hc seqD default (openK 4 0 (ks.map nf))
      have := sizes_open 4 0 (ks.map nf)
      omega
    · split
      · show (coll choiceD setD0 (openK 5 5 (ks.map nf))).size ≤ _
        have := hc choiceD setD0 (openK 5 5 (ks.map nf))
        have := sizes_open 5 5 (ks.map nf)
        omega
      · simp only [T.size]; omega
theorem nfTr_right {t : Tr} (h : RightT t) : RightT (nfTr t) := by
  unfold nfTr; rw [if_pos h]; exact right_flat (nf_fit _ h.fitT)
theorem nfTr_len (t : Tr) : (nfTr t).nodes.length ≤ t.nodes.length := by
  unfold nfTr
  by_cases h : RightT t
  · rw [if_pos h, flatT_len]
    have := nf_size (treeOf t)
    have := h.size
    omega
  · rw [if_neg h]; exact Nat.zero_le _
theorem nfTr_root (t : Tr) (h : t.nodes.length ≤ 100000) : -9223372036854775808 ≤ (nfTr t).root ∧ (nfTr t).root ≤ 9223372036854775807 := by
  unfold nfTr
  by_cases hr : RightT t
  · rw [if_pos hr]
    have := nf_size (treeOf t)
    have := hr.size
    exact flat_root _ (by omega)
  · rw [if_neg hr]; exact ⟨by simp [zeroT], by simp [zeroT]⟩
def AllPost (ts : List Tr) (w : World) (e : Ending) (w' : World) : Prop := ∃ u, e = .returned (.tuple #[u, .bool (decide (∀ t ∈ ts, RightT t))]) ∧ OL w' w.heap.size (fun b => w.heap.size ≤ b) u (if ∀ t ∈ ts, RightT t then ts.map nfTr else []) ∧ Below w.heap.size w w'

set_option maxRecDepth 20000 in
set_option maxHeartbeats 4000000 in
theorem all_g {ts : List Tr} {v : Value} {S : Nat → Prop} {w : World} (h : GivenEL ts v S w) (hM : ∀ t ∈ ts, MakeC t) :
    Calls Tryd.prog 80 #[v] w (AllPost ts w) := by
  have HG := Lib.hid h
  obtain ⟨A, c, rfl, hc, hm, _⟩ := h.read.at_
  unfold maxLen at hm
  obtain ⟨n, hn⟩ : ∃ n, n = ts.length := ⟨_, rfl⟩
  have HN := Lib.hid hn
  have HM := Lib.hid hM
  have hfew := h.few
  have hS := h.old
  obtain ⟨i0, hi0, hz0, hz1, hz2⟩ := info_parts tree_info
  rw [← hn] at HG hm hc hfew ⊢
  clear h hn hM
  go_enter Tryd.func80, Tryd.ntmps80
  go_wp2_with fail
  go_loopw [4, 11] (fun vo i wr => ∃ (j : Nat) (Ao : Option Addr) (co : Nat), j ≤ n ∧ i = .int .i64 j ∧ vo = .slice Ao j co ∧ Hid (∀ t ∈ ts.take j, RightT t) ∧ Hid (OL wr w.heap.size (fun b => w.heap.size ≤ b) (.slice Ao j co) ((ts.take j).map nfTr)) ∧ Hid (Below w.heap.size w wr)) (fun _ i _ => n - (intOf i).toNat)
  case atStart => exact ⟨0, none, 0, Nat.zero_le _, rfl, rfl, Lib.hid (by simp), Lib.hid (OL.nil_ _ _ _), Lib.hid (Below.refl _ _)⟩
  case round =>
    obtain ⟨wo, rfl⟩ : ∃ wo, wo = wr := ⟨_, rfl⟩
    obtain ⟨j, Ao, co, hj, rfl, rfl, HT, HO, HW⟩ := hrel
    by_cases hlt : j < n
    · obtain ⟨t, ht⟩ : ∃ t, ts[j]? = some t := ⟨_, List.getElem?_eq_getElem (by rw [← HN.out]; exact hlt)⟩
      have hsw := HW.out.size
      obtain ⟨b, off, c', A2, e2, hv, hSb, htr, c0, c1⟩ := (HG.out.read.below HW.out hS).get j t ht
      injection hv with hv1 hv2 hv3
      subst hv1 hv3
      have htm := List.mem_of_getElem? ht
      have hlt' : (j : Int) < (n : Int) := by omega
      have hj0 : (0 : Int) ≤ (j : Int) := by omega
      have hbl := hS b hSb
      have hlen : t.nodes.length ≤ 100000 := Nat.le_trans (sum_mem htm) HG.out.sum
      obtain ⟨w1, hw1⟩ : ∃ w1, w1 = wo.alloc (.cells #[.slice A2 t.nodes.length e2, .int .i64 t.root] 34) := ⟨_, rfl⟩
      have hb1 : Below wo.heap.size wo w1 := by rw [hw1]; exact (Below.refl _ _).alloc (Nat.le_refl _) _
      have hmk := HM.out t htm (.agg #[.slice A2 t.nodes.length e2, .int .i64 t.root]) S w1 ⟨⟨htr.below hb1 fun b hb => by have := hS b hb; omega, fun b hb => by have := hS b hb; have := hb1.size; omega, (HG.out.tab.below HW.out).below hb1, by omega⟩, (HG.out.tog.below HW.out).below hb1, hlen⟩
      have HMK := Lib.hid hmk
      have Hb1 := Lib.hid hb1
      have HTJ := Lib.hid ht
      clear hv2 htr ht htm hb1 hmk
      by_cases hr : RightT t
      · have HR := Lib.hid hr
        have hpost := HMK.out
        unfold MakePost at hpost
        rw [decide_eq_true hr] at hpost
        have HMK2 := Lib.hid hpost
        clear hr hpost
        go_wp2_with fail
        rw [← hw1]
        refine HMK2.out.mono ?_
        rintro e w2 ⟨u, rfl, hu, hb2⟩
        obtain ⟨Au, cu, rfl⟩ := hu.agg
        obtain ⟨wy, hwy⟩ : ∃ wy, wy = w2.alloc (.cells #[.slice Au (nfTr t).nodes.length cu, .int .i64 (nfTr t).root] 34) := ⟨_, rfl⟩
        have hby : Below wo.heap.size wo wy := by rw [hwy]; exact (Hb1.out.trans (hb2.mono Hb1.out.size)).alloc (Nat.le_trans Hb1.out.size hb2.size) _
        have hOy := HO.out.below hby
        have huy := XTree.below hu (by rw [hwy]; exact (Below.refl _ _).alloc (Nat.le_refl _) _ : Below w2.heap.size w2 wy)
        obtain ⟨nvs, hnl, hrow, hns⟩ := id hOy
        have htl : ((ts.take j).map nfTr).length = j := by have := HN.out; simp; omega
        rw [htl] at hrow
        have HROW := Lib.hid hrow
        have HNL := Lib.hid hnl
        have HNS := Lib.hid hns
        have HTL := Lib.hid htl
        have HUY := Lib.hid huy
        have HBY := Lib.hid hby
        have hby2 : w.heap.size ≤ wy.heap.size := Nat.le_trans hsw hby.size
        have HWY := Lib.hid hwy
        rw [HWY.out] at HROW hby2
        have hrow2 := HROW
        clear hu hb2 hwy hby hOy huy hrow hnl hns htl c0 c1 hw1
        go_wp2_with (at_builtin
                     go_loud (refine wpList_append1N (w2.alloc (.cells #[.slice Au (nfTr t).nodes.length cu, .int .i64 (nfTr t).root] 34)) (w2.heap.size + 1) (by simp) rfl (.tmp 22) (.tmp 24) _ rfl w.heap.size 34 i0 _ 2 32 Tryd.underlying48 hi0 hz0 hz1 hz2 rfl (by omega) (.slice Ao j co) j (treesCells ((ts.take j).map nfTr) nvs) rfl HROW.out [_, _] rfl rfl (by simp [Value.oneCell']) (by unfold maxLen; omega) (by omega) hby2 ?_)
                     rw [← HWY.out]
                     intro v4 w4 hown4 hg4 hat4
                     obtain ⟨A4, c4, rfl, _, _, _⟩ := own_slice hown4
                     have HOW4 := Lib.hid hown4
                     have HG4 := Lib.hid hg4
                     have HAT4 := Lib.hid hat4
                     clear hown4 hg4 hat4)
        go_roundw
        case measure => simp [intOf]; omega
        case rel =>
          obtain ⟨nv, hv, hn1, hn2, hn3⟩ := HUY.out
          have ev : nv = .slice Au (nfTr t).nodes.length cu := by simp at hv; exact hv.symm
          subst ev
          have hrb : ∀ r, (Value.slice Ao j co).ownBlock = some r → w.heap.size ≤ r ∧ r < wo.heap.size := fun r hr => HO.out.lt hr
          have e1 : (ts.take (j + 1)).map nfTr = (ts.take j).map nfTr ++ [nfTr t] := by rw [List.take_add_one, HTJ.out]; simp
          refine ⟨j + 1, A4, c4, by omega, by go_num, rfl, Lib.hid fun x hx => ?_, Lib.hid ?_, Lib.hid ((HW.out.trans (HBY.out.mono hsw)).trans (below_of_grown HG4.out (Nat.le_trans hsw HBY.out.size) fun r hr => (hrb r hr).1))⟩
          · rw [List.take_add_one, HTJ.out] at hx
            rcases List.mem_append.1 hx with hx | hx
            · exact HT.out x hx
            · simp at hx; subst hx; exact HR.out
          · rw [e1]
            refine OL.push HNL.out HNS.out hn1 hn2 hn3 (fun b hb => ⟨by have := hb.1; have := Hb1.out.size; omega, hb.2.1, fun e => by have := (hrb b e).2; have := hb.1; have := Hb1.out.size; omega, hb.2.2⟩) (by rw [HTL.out]; exact HOW4.out) HG4.out ?_
            rcases HAT4.out with h | h
            · exact .inl h
            · exact .inr fun g hg => by rw [h] at hg; injection hg; omega
      · have hpost := HMK.out
        unfold MakePost at hpost
        rw [decide_eq_false hr] at hpost
        have HMK2 := Lib.hid hpost
        have HNA := Lib.hid (show ¬ ∀ t ∈ ts, RightT t from fun h => hr (h t (List.mem_of_getElem? HTJ.out)))
        clear hr hpost
        go_wp2_with fail
        rw [← hw1]
        refine HMK2.out.mono ?_
        rintro e w2 ⟨u, rfl, hu, hb2⟩
        obtain ⟨Au, cu, rfl⟩ := hu.agg
        have hbz := HW.out.trans ((Hb1.out.trans (hb2.mono Hb1.out.size)).mono hsw)
        clear hu hb2 c0 c1
        go_wp2_with fail
        go_ret2
        refine (show AllPost ts w _ _ from ⟨.slice none 0 0, by rw [decide_eq_false HNA.out]; rfl, by rw [if_neg HNA.out]; exact OL.nil_ _ _ _, hbz.alloc (hbz.size) _⟩)
    · obtain rfl : j = n := by omega
      have hall : ∀ t ∈ ts, RightT t := by
        have := HT.out
        rwa [List.take_of_length_le (by rw [HN.out]; exact Nat.le_refl _)] at this
      have HALL := Lib.hid hall
      clear hall
      go_wp2_with fail
      go_ret2
      refine (show AllPost ts w _ _ from ⟨_, by rw [decide_eq_true HALL.out]; rfl, ?_, HW.out⟩)
      rw [if_pos HALL.out]
      have := HO.out
      rwa [List.take_of_length_le (by rw [HN.out]; exact Nat.le_refl _)] at this
end Go.Proofs.YtclfpjfjebheoaaDoor
/- The listed table of functions that put parts together, laid: it reads as the walk's premise. -/
namespace Go.Proofs.YtclfpjfjebheoaaDoor
open Go.ChangeShapes Go.WideShapes Go.ChangeAt Go.RowKit Go.ChangeMaps Go.WideElems Go.Deep

theorem undTogs : Tryd.prog.underlying 109 = some (.array 10 91) := by kernel_rfl
theorem cellsTog : Tryd.prog.cellsOf 91 = 1 := by kernel_rfl
theorem cellsTogs : Tryd.prog.cellsOf 109 = 10 := by kernel_rfl
theorem tog_type : (Tryd.prog.globals[2]?).map (·.type) = some 109 := by kernel_rfl
set_option maxRecDepth 10000 in
theorem tog_of {W : World} {l : List (String × DataW Unit)} (h : laidMetH Tryd.prog l W) (hx : ("bonsai/expr.together", Rows.laid_bonsai_expr_together) ∈ l) : TogTab W := by
  obtain ⟨g, t, cs, fuel, p, hg, ht, hv, hd⟩ := h.funcs hx
  obtain rfl := Option.some.inj (gTog.symm.trans hg)
  obtain rfl := Option.some.inj (tog_type.symm.trans ht)
  obtain ⟨xs, m, _, hxx, hl, hxl, hf⟩ := DataW.trod_array undTogs hd
  rw [cellsTogs] at hl
  simp only [DataW.funcsOut, DataW.funcsOutAll] at hxx
  unfold TogTab
  rw [hv]
  have e : cs.toList = togFns.map fun f => Value.func (.func f) #[] #[] := by
    match xs, hxl with
    | [x0, x1, x2, x3, x4, x5, x6, x7, x8, x9], _ =>
      generalize cs.toList = cl at hl hf
      match cl, hl with
      | [c0, c1, c2, c3, c4, c5, c6, c7, c8, c9], _ =>
        have f0 := hf 0 (by omega)
        have f1 := hf 1 (by omega)
        have f2 := hf 2 (by omega)
        have f3 := hf 3 (by omega)
        have f4 := hf 4 (by omega)
        have f5 := hf 5 (by omega)
        have f6 := hf 6 (by omega)
        have f7 := hf 7 (by omega)
        have f8 := hf 8 (by omega)
        have f9 := hf 9 (by omega)
        simp only [cellsTog, Nat.zero_mul, Nat.one_mul, Nat.reduceMul, List.drop_zero, List.take_succ_cons, List.take_zero, List.drop_succ_cons, List.getElem?_cons_zero, List.getElem?_cons_succ] at f0 f1 f2 f3 f4 f5 f6 f7 f8 f9
        obtain ⟨y0, q0⟩ := x0
        obtain ⟨y1, q1⟩ := x1
        obtain ⟨y2, q2⟩ := x2
        obtain ⟨y3, q3⟩ := x3
        obtain ⟨y4, q4⟩ := x4
        obtain ⟨y5, q5⟩ := x5
        obtain ⟨y6, q6⟩ := x6
        obtain ⟨y7, q7⟩ := x7
        obtain ⟨y8, q8⟩ := x8
        obtain ⟨y9, q9⟩ := x9
        simp only [List.map_cons, List.map_nil, List.cons.injEq, and_true, beq_self_eq_true, if_true, Prod.mk.injEq, DataW.agg.injEq] at hxx
        obtain ⟨⟨a0, a1, a2, a3, a4, a5, a6, a7, a8, a9⟩, -⟩ := hxx
        subst a0
        subst a1
        subst a2
        subst a3
        subst a4
        subst a5
        subst a6
        subst a7
        subst a8
        subst a9
        obtain rfl := func_of_trod (f0 := 78) Tryd.underlying91 (by kernel_rfl) f0
        obtain rfl := func_of_trod (f0 := 78) Tryd.underlying91 (by kernel_rfl) f1
        obtain rfl := func_of_trod (f0 := 78) Tryd.underlying91 (by kernel_rfl) f2
        obtain rfl := func_of_trod (f0 := 78) Tryd.underlying91 (by kernel_rfl) f3
        obtain rfl := func_of_trod (f0 := 126) Tryd.underlying91 (by kernel_rfl) f4
        obtain rfl := func_of_trod (f0 := 128) Tryd.underlying91 (by kernel_rfl) f5
        obtain rfl := func_of_trod (f0 := 78) Tryd.underlying91 (by kernel_rfl) f6
        obtain rfl := func_of_trod (f0 := 78) Tryd.underlying91 (by kernel_rfl) f7
        obtain rfl := func_of_trod (f0 := 78) Tryd.underlying91 (by kernel_rfl) f8
        obtain rfl := func_of_trod (f0 := 78) Tryd.underlying91 (by kernel_rfl) f9
        rfl
  rw [← e]
end Go.Proofs.YtclfpjfjebheoaaDoor
/- The contract of expr.of. -/
namespace Go.Proofs.YtclfpjfjebheoaaDoor
set_option linter.unusedSimpArgs false
open Go.RowKit
open Classical

/-- What stands behind the store: the box holds the tree. -/
def EFin (w : World) (x : Tr) (wz : World) : Prop := ∃ A c, Blk wz (w.heap.size + 1) 34 #[.slice A x.nodes.length c, .int .i64 x.root] ∧
  XTree wz (fun b => w.heap.size + 2 ≤ b) (.agg #[.slice A x.nodes.length c, .int .i64 x.root]) x ∧ Below w.heap.size w wz
theorem EFin.mk_ {w ws wx : World} {x : Tr} {A : Option Addr} {c : Nat} (hs : Below w.heap.size w ws) (hw : Below ws.heap.size ws wx) (hB : Blk wx (w.heap.size + 1) 34 #[.slice none 0 0, .int .i64 0])
    (hX : XTree wx (fun b => w.heap.size + 2 ≤ b) (.agg #[.slice A x.nodes.length c, .int .i64 x.root]) x) :
    EFin w x ((wx.setCell ⟨w.heap.size + 1, 0, none⟩ (.slice A x.nodes.length c)).setCell ⟨w.heap.size + 1, 1, none⟩ (.int .i64 x.root)) :=
  ⟨A, c, hB.set2 _ _, hX.far (grown_set2 _ _ 0 1 _ _) (by omega), ((hs.trans (hw.mono hs.size)).setCell (by simp) _).setCell (by simp) _⟩
noncomputable def ofEB (d : Dt) (ts : List Tr) : Bool := decide ((∀ t ∈ ts, RightT t) ∧ (d.kind = 4 ∨ d.kind = 5 ∨ fits d ts.length = true))
noncomputable def ofET (d : Dt) (ts : List Tr) : Tr := if (∀ t ∈ ts, RightT t) ∧ (d.kind = 4 ∨ d.kind = 5 ∨ fits d ts.length = true) then flatT (tog d (ts.map fun t => nf (treeOf t))) else zeroT
def OfPost (d : Dt) (ts : List Tr) (w : World) (e : Ending) (w' : World) : Prop := ∃ u, e = .returned (.tuple #[u, .bool (ofEB d ts)]) ∧ XTree w' (fun b => w.heap.size ≤ b) u (ofET d ts) ∧ Below w.heap.size w w'
theorem nfTr_map {ts : List Tr} (h : ∀ t ∈ ts, RightT t) : ts.map nfTr = (ts.map fun t => nf (treeOf t)).map flatT := by
  rw [List.map_map]
  exact List.map_congr_left fun t ht => if_pos (h t ht)
theorem nf_fits {ts : List Tr} (h : ∀ t ∈ ts, RightT t) : ∀ x ∈ ts.map fun t => nf (treeOf t), FitT x := fun x hx => by
  obtain ⟨t, ht, rfl⟩ := List.mem_map.1 hx
  exact nf_fit _ (h t ht).fitT
theorem nf_sum {ts : List Tr} (h : ∀ t ∈ ts, RightT t) : sizes (ts.map fun t => nf (treeOf t)) ≤ (ts.map (·.nodes.length)).sum := by
  induction ts with
  | nil => simp [sizes]
  | cons t ts ih =>
    simp only [List.map_cons, sizes, List.sum_cons]
    have h1 := nf_size (treeOf t)
    have h2 := (h t (by simp)).size
    have h3 := ih fun x hx => h x (by simp [hx])
    omega
theorem fits_kind {d : Dt} {k : Int} (h : fits d k = true) : d.kind ≤ 9 := by
  obtain ⟨h1, _⟩ : fitsD d ∧ fitsK d.kind k := of_decide_eq_true h
  unfold fitsD at h1
  omega
theorem XTree.zero (w : World) (X : Nat → Prop) : XTree w X (.agg #[.slice none 0 0, .int .i64 0]) zeroT := ⟨_, rfl, ⟨[], rfl, Row.nil_ _ _ _, fun j n kv h => by simp [zeroT] at h⟩, by simp [zeroT], by simp [zeroT]⟩

/-- What the rest of expr.of answers, of a world and a list. -/
def Rest (FN : Nat) (d : Dt) (kk : Nat) (kv : Value) (ts : List Tr) (lo : Nat) : Prop := ∀ wx vl, RTrees wx (fun b => lo ≤ b ∧ b < wx.heap.size ∧ Soft wx b) vl ((ts.map fun t => nf (treeOf t)).map flatT) → lo ≤ wx.heap.size → KTab wx →
  Calls Tryd.prog FN #[.agg #[.int .u8 (kk : Int), .int .u64 d.s0, .int .u64 d.s1, .int .u64 d.s2, .int .u64 d.s3, .string ⟨d.text.toArray⟩, .int .i64 d.min, .int .i64 d.max, kv], vl] wx fun e w' => (∃ u, e = .returned (.tuple #[u, .bool (ofEB d ts)]) ∧ XTree w' (fun b => lo ≤ b) u (ofET d ts)) ∧ Below wx.heap.size wx w'
theorem rest_4 {d : Dt} {kv : Value} {ts : List Tr} {lo : Nat} (h4 : d = seqD) (hr : ∀ t ∈ ts, RightT t) (hs : (ts.map (·.nodes.length)).sum ≤ 100000) (hf : ts.length ≤ 100000) : Rest 126 d 4 kv ts lo := by
  intro wx vl hv hlo hk
  subst h4
  refine (togS_g (X := fun b => lo ≤ b) hv (nf_fits hr) hk (Nat.le_trans (nf_sum hr) hs) (by simpa using hf)).mono ?_
  rintro e w' ⟨u, rfl, hu, hb⟩
  have hB : ofEB seqD ts = true := decide_eq_true ⟨hr, .inl rfl⟩
  have hT : ofET seqD ts = flatT (collS (openK 4 0 (ts.map fun t => nf (treeOf t)))) := by
    rw [ofET, if_pos ⟨hr, .inl rfl⟩]
    exact congrArg flatT (if_pos (show seqD.kind = 4 from rfl))
  exact ⟨⟨u, by rw [hB], by rw [hT]; exact hu.weaken fun b hb _ => by rcases hb with h | h; exact h.1; exact Nat.le_trans hlo h⟩, hb⟩
theorem rest_5 {d : Dt} {kv : Value} {ts : List Tr} {lo : Nat} (h4 : d = choiceD) (hr : ∀ t ∈ ts, RightT t) (hs : (ts.map (·.nodes.length)).sum ≤ 100000) (hf : ts.length ≤ 100000) : Rest 128 d 5 kv ts lo := by
  intro wx vl hv hlo hk
  subst h4
  refine (togC_g (X := fun b => lo ≤ b) hv (nf_fits hr) hk (Nat.le_trans (nf_sum hr) hs) (by simpa using hf)).mono ?_
  rintro e w' ⟨u, rfl, hu, hb⟩
  have hB : ofEB choiceD ts = true := decide_eq_true ⟨hr, .inr (.inl rfl)⟩
  have hT : ofET choiceD ts = flatT (collC (openK 5 5 (ts.map fun t => nf (treeOf t)))) := by
    rw [ofET, if_pos ⟨hr, .inr (.inl rfl)⟩]
    exact congrArg flatT ((if_neg (show ¬ choiceD.kind = 4 by decide)).trans (if_pos (show choiceD.kind = 5 from rfl)))
  exact ⟨⟨u, by rw [hB], by rw [hT]; exact hu.weaken fun b hb _ => by rcases hb with h | h; exact h.1; exact Nat.le_trans hlo h⟩, hb⟩
theorem rest_of {d : Dt} {kk : Nat} {kv : Value} {ts : List Tr} {lo : Nat} (hd : d.Ok) (hkk : d.kind = (kk : Int)) (h4 : d.kind ≠ 4) (h5 : d.kind ≠ 5) (hr : ∀ t ∈ ts, RightT t) (hs : (ts.map (·.nodes.length)).sum ≤ 100000) (hf : ts.length ≤ 100000) : Rest 78 d kk kv ts lo := by
  intro wx vl hv hlo hk
  have hfit := nf_fits hr
  have hsz := Nat.le_trans (nf_sum hr) hs
  have hlen : (ts.map fun t => nf (treeOf t)).length = ts.length := by simp
  generalize hL : (ts.map fun t => nf (treeOf t)) = L at *
  have hG : GivenL (L.map flatT) vl (fun b => lo ≤ b ∧ b < wx.heap.size ∧ Soft wx b) wx := ⟨hv, fun b h => h.2.1, hk, fun t ht => by
    obtain ⟨x, hx, rfl⟩ := List.mem_map.1 ht
    rw [flatT_len]
    have := size_mem hx
    omega, by rw [List.length_map, hlen]; omega⟩
  have ho := of_g (N := ⟨d, []⟩) (kv0 := kv) hd hG (by rw [sum_flat]; omega)
  simp only [nodeCells, hkk] at ho
  refine ho.mono ?_
  rintro e w' ⟨u, x, is, rfl, hu, hi, hb⟩
  have hroot := hi.root_ok hG (by rw [sum_flat]; omega)
  obtain ⟨h1, h2⟩ := hi.eq
  have hlm : (L.map flatT).length = ts.length := by rw [List.length_map, hlen]
  have hB : is = ofEB d ts := by
    rw [h1]; unfold ofB ofEB
    rw [hlm]
    exact decide_eq_decide.2 ⟨fun h => ⟨hr, .inr (.inr h.1)⟩, fun h => ⟨by rcases h.2 with h | h | h; exact absurd h h4; exact absurd h h5; exact h, rights_flat L hfit⟩⟩
  have hT : x = ofET d ts := by
    rw [h2]; unfold ofT ofET
    rw [hlm, treeOf_map, hL]
    by_cases hh : fits d ts.length = true
    · rw [if_pos ⟨hh, rights_flat L hfit⟩, if_pos ⟨hr, .inr (.inr hh)⟩, tog, if_neg h4, if_neg h5]
    · rw [if_neg (fun h => hh h.1), if_neg (fun h => by rcases h.2 with h | h | h; exact h4 h; exact h5 h; exact hh h)]
  exact ⟨⟨u, by rw [hB], by rw [← hT]; exact (XTree.of_own hu hroot.1 hroot.2).weaken fun b hb _ => Nat.le_trans hlo hb⟩, hb⟩
set_option maxRecDepth 20000 in
set_option maxHeartbeats 8000000 in
theorem ofE_walk4 {d : Dt} {kk : Nat} {kv v : Value} {ts : List Tr} {S : Nat → Prop} {w : World} (hkk : d.kind = (kk : Int)) (hk10 : kk < 10) (hFN : togFns.getD kk 0 = 126) (hP : Rest 126 d kk kv ts (w.heap.size + 2)) (hr : ∀ t ∈ ts, RightT t) (h : GivenEL ts v S w) (hM : ∀ t ∈ ts, MakeC t) :
    Calls Tryd.prog 60 #[.agg #[.int .u8 (kk : Int), .int .u64 d.s0, .int .u64 d.s1, .int .u64 d.s2, .int .u64 d.s3, .string ⟨d.text.toArray⟩, .int .i64 d.min, .int .i64 d.max, kv], v] w (OfPost d ts w) := by
  obtain ⟨Av, cv, rfl, -⟩ := h.read.at_
  obtain ⟨ws, hws⟩ : ∃ ws, ws = (w.alloc (.cells #[.int .u8 (kk : Int), .int .u64 d.s0, .int .u64 d.s1, .int .u64 d.s2, .int .u64 d.s3, .string ⟨d.text.toArray⟩, .int .i64 d.min, .int .i64 d.max, kv] 65)).alloc (.cells #[.slice none 0 0, .int .i64 0] 34) := ⟨_, rfl⟩
  have hbs : Below w.heap.size w ws := by rw [hws]; exact ((Below.refl _ _).alloc (Nat.le_refl _) _).alloc (by simp) _
  have hsz : ws.heap.size = w.heap.size + 2 := by rw [hws]; simp
  have hBN : Blk ws w.heap.size 65 #[.int .u8 (kk : Int), .int .u64 d.s0, .int .u64 d.s1, .int .u64 d.s2, .int .u64 d.s3, .string ⟨d.text.toArray⟩, .int .i64 d.min, .int .i64 d.max, kv] := by rw [hws]; exact (Blk.new w _ _).alloc _
  have hBR0 : Blk ws (w.heap.size + 1) 34 #[.slice none 0 0, .int .i64 0] := by rw [hws]; exact Blk.new1 _ _ _ _
  have hall := all_g (h.below hbs) hM
  have hk10' : (kk : Int) < 10 := by omega
  have hge : decide ((10 : Int) ≤ (kk : Int)) = false := by simp; omega
  have hp := hall
  unfold AllPost at hp
  rw [decide_eq_true hr, if_pos hr, nfTr_map hr] at hp
  obtain ⟨L, hL⟩ : ∃ L, L = ts.map fun t => nf (treeOf t) := ⟨_, rfl⟩
  rw [← hL] at hp
  have hfew := h.few
  have hLL : L.length = ts.length := by rw [hL, List.length_map]
  have HLL := Lib.hid hLL
  have HL := Lib.hid hL
  have HA := Lib.hid hp
  have HG := Lib.hid h
  have HSZ := Lib.hid hsz
  have HBS := Lib.hid hbs
  have HBN := Lib.hid hBN
  have HBR0 := Lib.hid hBR0
  have HP0 := Lib.hid hP
  have HFN := Lib.hid hFN
  clear hbs hsz hBN hBR0 hall h hM hkk hP hr hp hL hFN hLL
  go_enter Tryd.func60, Tryd.ntmps60
  go_wp2_with fail
  rw [← hws]
  clear hws
  refine HA.out.mono ?_
  rintro e w2 ⟨u, rfl, hu, hb2⟩
  obtain ⟨ln, hln⟩ : ∃ ln, ln = (L.map flatT).length := ⟨_, rfl⟩
  obtain ⟨Al, cl, rfl⟩ := hu.slice
  have HU := Lib.hid hu
  rw [← hln] at HU ⊢
  have HLN := Lib.hid hln
  have hBN2 := HBN.out.below hb2 HBN.out.lt
  have hBR2 := HBR0.out.below hb2 HBR0.out.lt
  have HW2 := Lib.hid (HBS.out.trans (hb2.mono HBS.out.size))
  have htg := (HG.out.tog.below HW2.out).cell kk hk10
  rw [HFN.out] at htg
  have hs2 : w.heap.size + 2 ≤ w2.heap.size := by have := hb2.size; have := HSZ.out; omega
  have HT := Lib.hid (HG.out.tog.below HW2.out)
  have HC0 := Lib.hid htg
  have HBN2 := Lib.hid hBN2
  have HBR := Lib.hid hBR2
  obtain ⟨n0, n1, n2, n3, n4, n5, n6, n7, n8⟩ := HBN2.out.nine
  have HCL := Lib.hid (show ∀ wx, Below w2.heap.size w2 wx → (wx.cell? ⟨w.heap.size, 0, none⟩ = some (.int .u8 (kk : Int)) ∧ wx.cell? ⟨w.heap.size, 1, none⟩ = some (.int .u64 d.s0) ∧ wx.cell? ⟨w.heap.size, 2, none⟩ = some (.int .u64 d.s1) ∧ wx.cell? ⟨w.heap.size, 3, none⟩ = some (.int .u64 d.s2) ∧ wx.cell? ⟨w.heap.size, 4, none⟩ = some (.int .u64 d.s3) ∧ wx.cell? ⟨w.heap.size, 5, none⟩ = some (.string ⟨d.text.toArray⟩) ∧ wx.cell? ⟨w.heap.size, 6, none⟩ = some (.int .i64 d.min) ∧ wx.cell? ⟨w.heap.size, 7, none⟩ = some (.int .i64 d.max) ∧ wx.cell? ⟨w.heap.size, 8, none⟩ = some kv) ∧
    (wx.cell? ⟨w.heap.size + 1, 0, none⟩ = some (.slice none 0 0) ∧ wx.cell? ⟨w.heap.size + 1, 1, none⟩ = some (.int .i64 0) ∧ wx.frozen? ⟨w.heap.size + 1, 0, none⟩ = false ∧ wx.frozen? ⟨w.heap.size + 1, 1, none⟩ = false) ∧ wx.cell? ⟨2, kk, none⟩ = some (.func (.func 126) #[] #[]) from fun wx hx =>
    ⟨(HBN2.out.below hx HBN2.out.lt).nine, ⟨(HBR.out.below hx HBR.out.lt).cell 0, (HBR.out.below hx HBR.out.lt).cell 1, (HBR.out.below hx HBR.out.lt).frozen 0, (HBR.out.below hx HBR.out.lt).frozen 1⟩, (hx.cell (p := ⟨2, kk, none⟩) HT.out.lt).trans HC0.out⟩)
  have hRL : ∀ wx, Below w2.heap.size w2 wx → RTrees wx (fun b => w.heap.size + 2 ≤ b ∧ b < wx.heap.size ∧ Soft wx b) (.slice Al ln cl) (L.map flatT) := fun wx hx => (OL.reads (HU.out.below hx) fun b h => h).more fun b hb => ⟨by have := hb.1; have := HSZ.out; omega, hb.2⟩
  have HRL := Lib.hid hRL
  have hpost : ∃ (bb : Bool) (x0 : Tr), (bb = ofEB d ts ∧ x0 = ofET d ts) ∧ ∀ wx, Below w2.heap.size w2 wx → Calls Tryd.prog 126 #[.agg #[.int .u8 (kk : Int), .int .u64 d.s0, .int .u64 d.s1, .int .u64 d.s2, .int .u64 d.s3, .string ⟨d.text.toArray⟩, .int .i64 d.min, .int .i64 d.max, kv], .slice Al ln cl] wx fun e w' => (∃ u, e = .returned (.tuple #[u, .bool bb]) ∧ XTree w' (fun b => w.heap.size + 2 ≤ b) u x0) ∧ Below wx.heap.size wx w' :=
    ⟨_, _, ⟨rfl, rfl⟩, fun wx hx => HP0.out wx _ (by have := HRL.out wx hx; rw [HL.out] at this; exact this) (Nat.le_trans hs2 hx.size) (HG.out.tab.below (HW2.out.trans (hx.mono HW2.out.size)))⟩
  obtain ⟨bb, x0, hbx, hC⟩ := hpost
  have HBX := Lib.hid hbx
  have HC := Lib.hid hC
  clear hu hb2 hBN2 hBR2 htg hRL hln hbx hC
  go_wp2_with fail
  refine wp_region_inv2 (G := Nat) 0 SE (fun j γ => if j ≤ 9 then γ = 0 else True) [[], [0], [0, 1], [0, 1, 2], [], [], [0, 1, 2, 3, 4, 5], [0, 1, 2, 3, 4, 5, 6], [0, 1, 2, 3, 4, 5, 6], [0, 1, 2, 3, 4, 5, 6, 7, 8], [0, 1, 2, 3, 4, 5, 6, 7, 8, 9]]
    [fun v _ => v = .pointer (some ⟨w.heap.size, 0, none⟩), fun v _ => v = .int .u8 (kk : Int), fun v _ => v = .pointer (some ⟨2, kk, none⟩), fun v _ => v = .func (.func 126) #[] #[], fun v _ => v = .agg #[.int .u8 (kk : Int), .int .u64 d.s0, .int .u64 d.s1, .int .u64 d.s2, .int .u64 d.s3, .string ⟨d.text.toArray⟩, .int .i64 d.min, .int .i64 d.max, kv], fun v _ => v = .slice Al ln cl, fun v s => s.1 = 0 → (fun v wq => ∃ u, v = .tuple #[u, .bool bb] ∧ XTree wq (fun b => w.heap.size + 2 ≤ b) u x0) v s.2, fun v s => s.1 = 0 → (fun v wq => XTree wq (fun b => w.heap.size + 2 ≤ b) v x0) v s.2, fun v _ => v = .bool bb, fun _ s => (EFin w x0) s.2 ∧ 2 ≤ s.1, fun v _ => v = .bool bb]
    (by kernel_rfl) SE.trans (SE.refl _) (by kernel_rfl) (by kernel_rfl) (by kernel_rfl) (fun i => by simp) ?rste4 ?rstepse4 ?rfine4
  case rste4 =>
    intro R hR v s s' _ h hr
    simp only [List.mem_cons, List.not_mem_nil, or_false] at hR
    rcases hR with rfl | rfl | rfl | rfl | rfl | rfl | rfl | rfl | rfl | rfl | rfl
    · exact hr
    · exact hr
    · exact hr
    · exact hr
    · exact hr
    · exact hr
    · intro h0
      have hs0 : s.1 = 0 := by have := h.1; omega
      have hr := hr hs0
      have hb := h.2.1 hs0 h0
      exact hr.imp fun _ h' => ⟨h'.1, h'.2.below hb⟩
    · intro h0
      have hs0 : s.1 = 0 := by have := h.1; omega
      have hr := hr hs0
      have hb := h.2.1 hs0 h0
      exact XTree.below hr hb
    · exact hr
    · rw [h.2.2.2 hr.2]; exact hr
    · exact hr
  case rstepse4 =>
    refine ⟨?_, ?_, ?_, ?_, ?_, ?_, ?_, ?_, ?_, ?_, ?_, trivial⟩
    · intro a γ wx hB hE hN hW K hK
      simp at hN
      subst hN
      have hw := hE.read rfl
      have h2 : a.tmps[2]? = some (.pointer (some ⟨w.heap.size, 0, none⟩)) := (hB.at_ 2 (of_decide_eq_true (by kernel_rfl))).trans rfl
      clear hB hE
      go_simp
      exact hK (.pointer (some ⟨w.heap.size, 0, none⟩)) _ _ (SE.refl _) (fun j h1 h2 h => h) rfl
    · intro a γ wx hB hE hN hW K hK
      simp at hN
      subst hN
      have hw := hE.read rfl
      obtain ⟨⟨_, h22, rfl⟩, -⟩ := hW
      have hc := HCL.out _ hw
      clear hB hE
      go_simp
      exact hK (.int .u8 (kk : Int)) _ _ (SE.refl _) (fun j h1 h2 h => h) rfl
    · intro a γ wx hB hE hN hW K hK
      simp at hN
      subst hN
      have hw := hE.read rfl
      obtain ⟨⟨_, h23, rfl⟩, -⟩ := hW
      clear hB hE
      go_simp
      exact hK (.pointer (some ⟨2, kk, none⟩)) _ _ (SE.refl _) (fun j h1 h2 h => h) rfl
    · intro a γ wx hB hE hN hW K hK
      simp at hN
      subst hN
      have hw := hE.read rfl
      obtain ⟨⟨_, h24, rfl⟩, -⟩ := hW
      have hc := HCL.out _ hw
      clear hB hE
      go_simp
      exact hK (.func (.func 126) #[] #[]) _ _ (SE.refl _) (fun j h1 h2 h => h) rfl
    · intro a γ wx hB hE hN hW K hK
      simp at hN
      subst hN
      have hw := hE.read rfl
      have h2 : a.tmps[2]? = some (.pointer (some ⟨w.heap.size, 0, none⟩)) := (hB.at_ 2 (of_decide_eq_true (by kernel_rfl))).trans rfl
      have hc := HCL.out _ hw
      clear hB hE
      go_simp
      exact hK (.agg #[.int .u8 (kk : Int), .int .u64 d.s0, .int .u64 d.s1, .int .u64 d.s2, .int .u64 d.s3, .string ⟨d.text.toArray⟩, .int .i64 d.min, .int .i64 d.max, kv]) _ _ (SE.refl _) (fun j h1 h2 h => h) rfl
    · intro a γ wx hB hE hN hW K hK
      simp at hN
      subst hN
      have hw := hE.read rfl
      have h6 : a.tmps[6]? = some (.slice Al ln cl) := (hB.at_ 6 (of_decide_eq_true (by kernel_rfl))).trans rfl
      clear hB hE
      go_simp
      exact hK (.slice Al ln cl) _ _ (SE.refl _) (fun j h1 h2 h => h) rfl
    · intro a γ wx hB hE hN hW K hK
      simp at hN
      subst hN
      have hw := hE.read rfl
      obtain ⟨⟨_, h25, rfl⟩, ⟨_, h26, rfl⟩, ⟨_, h27, rfl⟩, -⟩ := hW
      clear hB hE
      go_simp
      refine (HC.out _ hw).mono ?_
      rintro e w' ⟨⟨u, rfl, hu⟩, hbb⟩
      exact hK _ 0 _ (SE.call hbb) (fun j h1 h2 h => h) (fun _ => ⟨u, rfl, hu⟩)
    · intro a γ wx hB hE hN hW K hK
      simp at hN
      subst hN
      have hw := hE.read rfl
      obtain ⟨⟨v28, h28, r28⟩, -⟩ := hW
      have q28 := r28 rfl
      clear r28
      obtain ⟨u28, rfl, r28⟩ := q28
      clear hB hE
      go_simp
      exact hK (_) _ _ (SE.refl _) (fun j h1 h2 h => h) (fun _ => r28)
    · intro a γ wx hB hE hN hW K hK
      simp at hN
      subst hN
      have hw := hE.read rfl
      obtain ⟨⟨v28, h28, r28⟩, -⟩ := hW
      have q28 := r28 rfl
      clear r28
      obtain ⟨u28, rfl, r28⟩ := q28
      clear hB hE
      go_simp
      exact hK (.bool bb) _ _ (SE.refl _) (fun j h1 h2 h => h) rfl
    · intro a γ wx hB hE hN hW K hK
      simp at hN
      subst hN
      have hw := hE.read rfl
      obtain ⟨⟨v29, h29, r29⟩, -⟩ := hW
      have q29 := r29 rfl
      clear r29
      have r29 := q29
      clear q29
      have h4 : a.tmps[4]? = some (.pointer (some ⟨w.heap.size + 1, 0, none⟩)) := (hB.at_ 4 (of_decide_eq_true (by kernel_rfl))).trans rfl
      have hc := HCL.out _ hw
      clear hB hE
      obtain ⟨A, c, rfl⟩ := r29.agg
      go_simp
      refine hK undef 2 _ ⟨by simp, fun _ h => absurd h (by simp), fun h => absurd h (by simp), fun h => absurd h (by simp)⟩ (fun j h1 h2 h => ?_) ⟨?_, Nat.le_refl _⟩
      · rcases Nat.lt_or_ge 9 j with hj | hj
        · rw [if_neg (by omega)]; trivial
        · exfalso; simp at h2; omega
      exact EFin.mk_ HW2.out hw (HBR.out.below hw HBR.out.lt) r29
    · intro a γ wx hB hE hN hW K hK
      obtain ⟨⟨_, h30, rfl⟩, -⟩ := hW
      clear hB hE hN
      go_simp
      exact hK (.bool bb) _ _ (SE.refl _) (fun j h1 h2 h => h) rfl
  case rfine4 =>
    intro a' γ wz hB hE hK
    obtain ⟨_, h22, rfl⟩ := hK 0 (of_decide_eq_true (by kernel_rfl))
    obtain ⟨_, h23, rfl⟩ := hK 1 (of_decide_eq_true (by kernel_rfl))
    obtain ⟨_, h24, rfl⟩ := hK 2 (of_decide_eq_true (by kernel_rfl))
    obtain ⟨_, h25, rfl⟩ := hK 3 (of_decide_eq_true (by kernel_rfl))
    obtain ⟨_, h26, rfl⟩ := hK 4 (of_decide_eq_true (by kernel_rfl))
    obtain ⟨_, h27, rfl⟩ := hK 5 (of_decide_eq_true (by kernel_rfl))
    obtain ⟨v28, h28, -⟩ := hK 6 (of_decide_eq_true (by kernel_rfl))
    obtain ⟨v29, h29, -⟩ := hK 7 (of_decide_eq_true (by kernel_rfl))
    obtain ⟨_, h30, rfl⟩ := hK 8 (of_decide_eq_true (by kernel_rfl))
    obtain ⟨_, hP, -⟩ := hK 9 (of_decide_eq_true (by kernel_rfl))
    obtain ⟨_, h5, rfl⟩ := hK 10 (of_decide_eq_true (by kernel_rfl))
    have ha := hB.eq [(22, .pointer (some ⟨w.heap.size, 0, none⟩)), (23, .int .u8 (kk : Int)), (24, .pointer (some ⟨2, kk, none⟩)), (25, .func (.func 126) #[] #[]), (26, .agg #[.int .u8 (kk : Int), .int .u64 d.s0, .int .u64 d.s1, .int .u64 d.s2, .int .u64 d.s3, .string ⟨d.text.toArray⟩, .int .i64 d.min, .int .i64 d.max, kv]), (27, .slice Al ln cl), (28, v28), (29, v29), (30, .bool bb), (5, .bool bb)] rfl (by kernel_rfl) ⟨h22, h23, h24, h25, h26, h27, h28, h29, h30, h5, trivial⟩
    subst ha
    have HP := Lib.hid hP
    clear hK hB hE hP h22 h23 h24 h25 h26 h27 h28 h29 h30 h5
    simp only [putAll, List.foldl_cons, List.foldl_nil, List.setIfInBounds_toArray, List.set_cons_succ, List.set_cons_zero]
    go_wp2_with fail
    obtain ⟨A, c, hBz, hXz, hbz⟩ := HP.out
    refine bodyPost_ret (results_cell2 rfl _ _ (w.heap.size + 1) _ _ _ rfl hBz Tryd.underlying34 rfl tree_size) rfl ?_
    exact (show OfPost d ts w _ _ from ⟨_, by rw [← HBX.out.1]; rfl, by rw [← HBX.out.2]; exact hXz.weaken fun b hb _ => by omega, hbz⟩)
set_option maxRecDepth 20000 in
set_option maxHeartbeats 8000000 in
theorem ofE_walk5 {d : Dt} {kk : Nat} {kv v : Value} {ts : List Tr} {S : Nat → Prop} {w : World} (hkk : d.kind = (kk : Int)) (hk10 : kk < 10) (hFN : togFns.getD kk 0 = 128) (hP : Rest 128 d kk kv ts (w.heap.size + 2)) (hr : ∀ t ∈ ts, RightT t) (h : GivenEL ts v S w) (hM : ∀ t ∈ ts, MakeC t) :
    Calls Tryd.prog 60 #[.agg #[.int .u8 (kk : Int), .int .u64 d.s0, .int .u64 d.s1, .int .u64 d.s2, .int .u64 d.s3, .string ⟨d.text.toArray⟩, .int .i64 d.min, .int .i64 d.max, kv], v] w (OfPost d ts w) := by
  obtain ⟨Av, cv, rfl, -⟩ := h.read.at_
  obtain ⟨ws, hws⟩ : ∃ ws, ws = (w.alloc (.cells #[.int .u8 (kk : Int), .int .u64 d.s0, .int .u64 d.s1, .int .u64 d.s2, .int .u64 d.s3, .string ⟨d.text.toArray⟩, .int .i64 d.min, .int .i64 d.max, kv] 65)).alloc (.cells #[.slice none 0 0, .int .i64 0] 34) := ⟨_, rfl⟩
  have hbs : Below w.heap.size w ws := by rw [hws]; exact ((Below.refl _ _).alloc (Nat.le_refl _) _).alloc (by simp) _
  have hsz : ws.heap.size = w.heap.size + 2 := by rw [hws]; simp
  have hBN : Blk ws w.heap.size 65 #[.int .u8 (kk : Int), .int .u64 d.s0, .int .u64 d.s1, .int .u64 d.s2, .int .u64 d.s3, .string ⟨d.text.toArray⟩, .int .i64 d.min, .int .i64 d.max, kv] := by rw [hws]; exact (Blk.new w _ _).alloc _
  have hBR0 : Blk ws (w.heap.size + 1) 34 #[.slice none 0 0, .int .i64 0] := by rw [hws]; exact Blk.new1 _ _ _ _
  have hall := all_g (h.below hbs) hM
  have hk10' : (kk : Int) < 10 := by omega
  have hge : decide ((10 : Int) ≤ (kk : Int)) = false := by simp; omega
  have hp := hall
  unfold AllPost at hp
  rw [decide_eq_true hr, if_pos hr, nfTr_map hr] at hp
  obtain ⟨L, hL⟩ : ∃ L, L = ts.map fun t => nf (treeOf t) := ⟨_, rfl⟩
  rw [← hL] at hp
  have hfew := h.few
  have hLL : L.length = ts.length := by rw [hL, List.length_map]
  have HLL := Lib.hid hLL
  have HL := Lib.hid hL
  have HA := Lib.hid hp
  have HG := Lib.hid h
  have HSZ := Lib.hid hsz
  have HBS := Lib.hid hbs
  have HBN := Lib.hid hBN
  have HBR0 := Lib.hid hBR0
  have HP0 := Lib.hid hP
  have HFN := Lib.hid hFN
  clear hbs hsz hBN hBR0 hall h hM hkk hP hr hp hL hFN hLL
  go_enter Tryd.func60, Tryd.ntmps60
  go_wp2_with fail
  rw [← hws]
  clear hws
  refine HA.out.mono ?_
  rintro e w2 ⟨u, rfl, hu, hb2⟩
  obtain ⟨ln, hln⟩ : ∃ ln, ln = (L.map flatT).length := ⟨_, rfl⟩
  obtain ⟨Al, cl, rfl⟩ := hu.slice
  have HU := Lib.hid hu
  rw [← hln] at HU ⊢
  have HLN := Lib.hid hln
  have hBN2 := HBN.out.below hb2 HBN.out.lt
  have hBR2 := HBR0.out.below hb2 HBR0.out.lt
  have HW2 := Lib.hid (HBS.out.trans (hb2.mono HBS.out.size))
  have htg := (HG.out.tog.below HW2.out).cell kk hk10
  rw [HFN.out] at htg
  have hs2 : w.heap.size + 2 ≤ w2.heap.size := by have := hb2.size; have := HSZ.out; omega
  have HT := Lib.hid (HG.out.tog.below HW2.out)
  have HC0 := Lib.hid htg
  have HBN2 := Lib.hid hBN2
  have HBR := Lib.hid hBR2
  obtain ⟨n0, n1, n2, n3, n4, n5, n6, n7, n8⟩ := HBN2.out.nine
  have HCL := Lib.hid (show ∀ wx, Below w2.heap.size w2 wx → (wx.cell? ⟨w.heap.size, 0, none⟩ = some (.int .u8 (kk : Int)) ∧ wx.cell? ⟨w.heap.size, 1, none⟩ = some (.int .u64 d.s0) ∧ wx.cell? ⟨w.heap.size, 2, none⟩ = some (.int .u64 d.s1) ∧ wx.cell? ⟨w.heap.size, 3, none⟩ = some (.int .u64 d.s2) ∧ wx.cell? ⟨w.heap.size, 4, none⟩ = some (.int .u64 d.s3) ∧ wx.cell? ⟨w.heap.size, 5, none⟩ = some (.string ⟨d.text.toArray⟩) ∧ wx.cell? ⟨w.heap.size, 6, none⟩ = some (.int .i64 d.min) ∧ wx.cell? ⟨w.heap.size, 7, none⟩ = some (.int .i64 d.max) ∧ wx.cell? ⟨w.heap.size, 8, none⟩ = some kv) ∧
    (wx.cell? ⟨w.heap.size + 1, 0, none⟩ = some (.slice none 0 0) ∧ wx.cell? ⟨w.heap.size + 1, 1, none⟩ = some (.int .i64 0) ∧ wx.frozen? ⟨w.heap.size + 1, 0, none⟩ = false ∧ wx.frozen? ⟨w.heap.size + 1, 1, none⟩ = false) ∧ wx.cell? ⟨2, kk, none⟩ = some (.func (.func 128) #[] #[]) from fun wx hx =>
    ⟨(HBN2.out.below hx HBN2.out.lt).nine, ⟨(HBR.out.below hx HBR.out.lt).cell 0, (HBR.out.below hx HBR.out.lt).cell 1, (HBR.out.below hx HBR.out.lt).frozen 0, (HBR.out.below hx HBR.out.lt).frozen 1⟩, (hx.cell (p := ⟨2, kk, none⟩) HT.out.lt).trans HC0.out⟩)
  have hRL : ∀ wx, Below w2.heap.size w2 wx → RTrees wx (fun b => w.heap.size + 2 ≤ b ∧ b < wx.heap.size ∧ Soft wx b) (.slice Al ln cl) (L.map flatT) := fun wx hx => (OL.reads (HU.out.below hx) fun b h => h).more fun b hb => ⟨by have := hb.1; have := HSZ.out; omega, hb.2⟩
  have HRL := Lib.hid hRL
  have hpost : ∃ (bb : Bool) (x0 : Tr), (bb = ofEB d ts ∧ x0 = ofET d ts) ∧ ∀ wx, Below w2.heap.size w2 wx → Calls Tryd.prog 128 #[.agg #[.int .u8 (kk : Int), .int .u64 d.s0, .int .u64 d.s1, .int .u64 d.s2, .int .u64 d.s3, .string ⟨d.text.toArray⟩, .int .i64 d.min, .int .i64 d.max, kv], .slice Al ln cl] wx fun e w' => (∃ u, e = .returned (.tuple #[u, .bool bb]) ∧ XTree w' (fun b => w.heap.size + 2 ≤ b) u x0) ∧ Below wx.heap.size wx w' :=
    ⟨_, _, ⟨rfl, rfl⟩, fun wx hx => HP0.out wx _ (by have := HRL.out wx hx; rw [HL.out] at this; exact this) (Nat.le_trans hs2 hx.size) (HG.out.tab.below (HW2.out.trans (hx.mono HW2.out.size)))⟩
  obtain ⟨bb, x0, hbx, hC⟩ := hpost
  have HBX := Lib.hid hbx
  have HC := Lib.hid hC
  clear hu hb2 hBN2 hBR2 htg hRL hln hbx hC
  go_wp2_with fail
  refine wp_region_inv2 (G := Nat) 0 SE (fun j γ => if j ≤ 9 then γ = 0 else True) [[], [0], [0, 1], [0, 1, 2], [], [], [0, 1, 2, 3, 4, 5], [0, 1, 2, 3, 4, 5, 6], [0, 1, 2, 3, 4, 5, 6], [0, 1, 2, 3, 4, 5, 6, 7, 8], [0, 1, 2, 3, 4, 5, 6, 7, 8, 9]]
    [fun v _ => v = .pointer (some ⟨w.heap.size, 0, none⟩), fun v _ => v = .int .u8 (kk : Int), fun v _ => v = .pointer (some ⟨2, kk, none⟩), fun v _ => v = .func (.func 128) #[] #[], fun v _ => v = .agg #[.int .u8 (kk : Int), .int .u64 d.s0, .int .u64 d.s1, .int .u64 d.s2, .int .u64 d.s3, .string ⟨d.text.toArray⟩, .int .i64 d.min, .int .i64 d.max, kv], fun v _ => v = .slice Al ln cl, fun v s => s.1 = 0 → (fun v wq => ∃ u, v = .tuple #[u, .bool bb] ∧ XTree wq (fun b => w.heap.size + 2 ≤ b) u x0) v s.2, fun v s => s.1 = 0 → (fun v wq => XTree wq (fun b => w.heap.size + 2 ≤ b) v x0) v s.2, fun v _ => v = .bool bb, fun _ s => (EFin w x0) s.2 ∧ 2 ≤ s.1, fun v _ => v = .bool bb]
    (by kernel_rfl) SE.trans (SE.refl _) (by kernel_rfl) (by kernel_rfl) (by kernel_rfl) (fun i => by simp) ?rste5 ?rstepse5 ?rfine5
  case rste5 =>
    intro R hR v s s' _ h hr
    simp only [List.mem_cons, List.not_mem_nil, or_false] at hR
    rcases hR with rfl | rfl | rfl | rfl | rfl | rfl | rfl | rfl | rfl | rfl | rfl
    · exact hr
    · exact hr
    · exact hr
    · exact hr
    · exact hr
    · exact hr
    · intro h0
      have hs0 : s.1 = 0 := by have := h.1; omega
      have hr := hr hs0
      have hb := h.2.1 hs0 h0
      exact hr.imp fun _ h' => ⟨h'.1, h'.2.below hb⟩
    · intro h0
      have hs0 : s.1 = 0 := by have := h.1; omega
      have hr := hr hs0
      have hb := h.2.1 hs0 h0
      exact XTree.below hr hb
    · exact hr
    · rw [h.2.2.2 hr.2]; exact hr
    · exact hr
  case rstepse5 =>
    refine ⟨?_, ?_, ?_, ?_, ?_, ?_, ?_, ?_, ?_, ?_, ?_, trivial⟩
    · intro a γ wx hB hE hN hW K hK
      simp at hN
      subst hN
      have hw := hE.read rfl
      have h2 : a.tmps[2]? = some (.pointer (some ⟨w.heap.size, 0, none⟩)) := (hB.at_ 2 (of_decide_eq_true (by kernel_rfl))).trans rfl
      clear hB hE
      go_simp
      exact hK (.pointer (some ⟨w.heap.size, 0, none⟩)) _ _ (SE.refl _) (fun j h1 h2 h => h) rfl
    · intro a γ wx hB hE hN hW K hK
      simp at hN
      subst hN
      have hw := hE.read rfl
      obtain ⟨⟨_, h22, rfl⟩, -⟩ := hW
      have hc := HCL.out _ hw
      clear hB hE
      go_simp
      exact hK (.int .u8 (kk : Int)) _ _ (SE.refl _) (fun j h1 h2 h => h) rfl
    · intro a γ wx hB hE hN hW K hK
      simp at hN
      subst hN
      have hw := hE.read rfl
      obtain ⟨⟨_, h23, rfl⟩, -⟩ := hW
      clear hB hE
      go_simp
      exact hK (.pointer (some ⟨2, kk, none⟩)) _ _ (SE.refl _) (fun j h1 h2 h => h) rfl
    · intro a γ wx hB hE hN hW K hK
      simp at hN
      subst hN
      have hw := hE.read rfl
      obtain ⟨⟨_, h24, rfl⟩, -⟩ := hW
      have hc := HCL.out _ hw
      clear hB hE
      go_simp
      exact hK (.func (.func 128) #[] #[]) _ _ (SE.refl _) (fun j h1 h2 h => h) rfl
    · intro a γ wx hB hE hN hW K hK
      simp at hN
      subst hN
      have hw := hE.read rfl
      have h2 : a.tmps[2]? = some (.pointer (some ⟨w.heap.size, 0, none⟩)) := (hB.at_ 2 (of_decide_eq_true (by kernel_rfl))).trans rfl
      have hc := HCL.out _ hw
      clear hB hE
      go_simp
      exact hK (.agg #[.int .u8 (kk : Int), .int .u64 d.s0, .int .u64 d.s1, .int .u64 d.s2, .int .u64 d.s3, .string ⟨d.text.toArray⟩, .int .i64 d.min, .int .i64 d.max, kv]) _ _ (SE.refl _) (fun j h1 h2 h => h) rfl
    · intro a γ wx hB hE hN hW K hK
      simp at hN
      subst hN
      have hw := hE.read rfl
      have h6 : a.tmps[6]? = some (.slice Al ln cl) := (hB.at_ 6 (of_decide_eq_true (by kernel_rfl))).trans rfl
      clear hB hE
      go_simp
      exact hK (.slice Al ln cl) _ _ (SE.refl _) (fun j h1 h2 h => h) rfl
    · intro a γ wx hB hE hN hW K hK
      simp at hN
      subst hN
      have hw := hE.read rfl
      obtain ⟨⟨_, h25, rfl⟩, ⟨_, h26, rfl⟩, ⟨_, h27, rfl⟩, -⟩ := hW
      clear hB hE
      go_simp
      refine (HC.out _ hw).mono ?_
      rintro e w' ⟨⟨u, rfl, hu⟩, hbb⟩
      exact hK _ 0 _ (SE.call hbb) (fun j h1 h2 h => h) (fun _ => ⟨u, rfl, hu⟩)
    · intro a γ wx hB hE hN hW K hK
      simp at hN
      subst hN
      have hw := hE.read rfl
      obtain ⟨⟨v28, h28, r28⟩, -⟩ := hW
      have q28 := r28 rfl
      clear r28
      obtain ⟨u28, rfl, r28⟩ := q28
      clear hB hE
      go_simp
      exact hK (_) _ _ (SE.refl _) (fun j h1 h2 h => h) (fun _ => r28)
    · intro a γ wx hB hE hN hW K hK
      simp at hN
      subst hN
      have hw := hE.read rfl
      obtain ⟨⟨v28, h28, r28⟩, -⟩ := hW
      have q28 := r28 rfl
      clear r28
      obtain ⟨u28, rfl, r28⟩ := q28
      clear hB hE
      go_simp
      exact hK (.bool bb) _ _ (SE.refl _) (fun j h1 h2 h => h) rfl
    · intro a γ wx hB hE hN hW K hK
      simp at hN
      subst hN
      have hw := hE.read rfl
      obtain ⟨⟨v29, h29, r29⟩, -⟩ := hW
      have q29 := r29 rfl
      clear r29
      have r29 := q29
      clear q29
      have h4 : a.tmps[4]? = some (.pointer (some ⟨w.heap.size + 1, 0, none⟩)) := (hB.at_ 4 (of_decide_eq_true (by kernel_rfl))).trans rfl
      have hc := HCL.out _ hw
      clear hB hE
      obtain ⟨A, c, rfl⟩ := r29.agg
      go_simp
      refine hK undef 2 _ ⟨by simp, fun _ h => absurd h (by simp), fun h => absurd h (by simp), fun h => absurd h (by simp)⟩ (fun j h1 h2 h => ?_) ⟨?_, Nat.le_refl _⟩
      · rcases Nat.lt_or_ge 9 j with hj | hj
        · rw [if_neg (by omega)]; trivial
        · exfalso; simp at h2; omega
      exact EFin.mk_ HW2.out hw (HBR.out.below hw HBR.out.lt) r29
    · intro a γ wx hB hE hN hW K hK
      obtain ⟨⟨_, h30, rfl⟩, -⟩ := hW
      clear hB hE hN
      go_simp
      exact hK (.bool bb) _ _ (SE.refl _) (fun j h1 h2 h => h) rfl
  case rfine5 =>
    intro a' γ wz hB hE hK
    obtain ⟨_, h22, rfl⟩ := hK 0 (of_decide_eq_true (by kernel_rfl))
    obtain ⟨_, h23, rfl⟩ := hK 1 (of_decide_eq_true (by kernel_rfl))
    obtain ⟨_, h24, rfl⟩ := hK 2 (of_decide_eq_true (by kernel_rfl))
    obtain ⟨_, h25, rfl⟩ := hK 3 (of_decide_eq_true (by kernel_rfl))
    obtain ⟨_, h26, rfl⟩ := hK 4 (of_decide_eq_true (by kernel_rfl))
    obtain ⟨_, h27, rfl⟩ := hK 5 (of_decide_eq_true (by kernel_rfl))
    obtain ⟨v28, h28, -⟩ := hK 6 (of_decide_eq_true (by kernel_rfl))
    obtain ⟨v29, h29, -⟩ := hK 7 (of_decide_eq_true (by kernel_rfl))
    obtain ⟨_, h30, rfl⟩ := hK 8 (of_decide_eq_true (by kernel_rfl))
    obtain ⟨_, hP, -⟩ := hK 9 (of_decide_eq_true (by kernel_rfl))
    obtain ⟨_, h5, rfl⟩ := hK 10 (of_decide_eq_true (by kernel_rfl))
    have ha := hB.eq [(22, .pointer (some ⟨w.heap.size, 0, none⟩)), (23, .int .u8 (kk : Int)), (24, .pointer (some ⟨2, kk, none⟩)), (25, .func (.func 128) #[] #[]), (26, .agg #[.int .u8 (kk : Int), .int .u64 d.s0, .int .u64 d.s1, .int .u64 d.s2, .int .u64 d.s3, .string ⟨d.text.toArray⟩, .int .i64 d.min, .int .i64 d.max, kv]), (27, .slice Al ln cl), (28, v28), (29, v29), (30, .bool bb), (5, .bool bb)] rfl (by kernel_rfl) ⟨h22, h23, h24, h25, h26, h27, h28, h29, h30, h5, trivial⟩
    subst ha
    have HP := Lib.hid hP
    clear hK hB hE hP h22 h23 h24 h25 h26 h27 h28 h29 h30 h5
    simp only [putAll, List.foldl_cons, List.foldl_nil, List.setIfInBounds_toArray, List.set_cons_succ, List.set_cons_zero]
    go_wp2_with fail
    obtain ⟨A, c, hBz, hXz, hbz⟩ := HP.out
    refine bodyPost_ret (results_cell2 rfl _ _ (w.heap.size + 1) _ _ _ rfl hBz Tryd.underlying34 rfl tree_size) rfl ?_
    exact (show OfPost d ts w _ _ from ⟨_, by rw [← HBX.out.1]; rfl, by rw [← HBX.out.2]; exact hXz.weaken fun b hb _ => by omega, hbz⟩)
set_option maxRecDepth 20000 in
set_option maxHeartbeats 8000000 in
theorem ofE_walkO {d : Dt} {kk : Nat} {kv v : Value} {ts : List Tr} {S : Nat → Prop} {w : World} (hkk : d.kind = (kk : Int)) (hk10 : kk < 10) (hFN : togFns.getD kk 0 = 78) (hP : Rest 78 d kk kv ts (w.heap.size + 2)) (hr : ∀ t ∈ ts, RightT t) (h : GivenEL ts v S w) (hM : ∀ t ∈ ts, MakeC t) :
    Calls Tryd.prog 60 #[.agg #[.int .u8 (kk : Int), .int .u64 d.s0, .int .u64 d.s1, .int .u64 d.s2, .int .u64 d.s3, .string ⟨d.text.toArray⟩, .int .i64 d.min, .int .i64 d.max, kv], v] w (OfPost d ts w) := by
  obtain ⟨Av, cv, rfl, -⟩ := h.read.at_
  obtain ⟨ws, hws⟩ : ∃ ws, ws = (w.alloc (.cells #[.int .u8 (kk : Int), .int .u64 d.s0, .int .u64 d.s1, .int .u64 d.s2, .int .u64 d.s3, .string ⟨d.text.toArray⟩, .int .i64 d.min, .int .i64 d.max, kv] 65)).alloc (.cells #[.slice none 0 0, .int .i64 0] 34) := ⟨_, rfl⟩
  have hbs : Below w.heap.size w ws := by rw [hws]; exact ((Below.refl _ _).alloc (Nat.le_refl _) _).alloc (by simp) _
  have hsz : ws.heap.size = w.heap.size + 2 := by rw [hws]; simp
  have hBN : Blk ws w.heap.size 65 #[.int .u8 (kk : Int), .int .u64 d.s0, .int .u64 d.s1, .int .u64 d.s2, .int .u64 d.s3, .string ⟨d.text.toArray⟩, .int .i64 d.min, .int .i64 d.max, kv] := by rw [hws]; exact (Blk.new w _ _).alloc _
  have hBR0 : Blk ws (w.heap.size + 1) 34 #[.slice none 0 0, .int .i64 0] := by rw [hws]; exact Blk.new1 _ _ _ _
  have hall := all_g (h.below hbs) hM
  have hk10' : (kk : Int) < 10 := by omega
  have hge : decide ((10 : Int) ≤ (kk : Int)) = false := by simp; omega
  have hp := hall
  unfold AllPost at hp
  rw [decide_eq_true hr, if_pos hr, nfTr_map hr] at hp
  obtain ⟨L, hL⟩ : ∃ L, L = ts.map fun t => nf (treeOf t) := ⟨_, rfl⟩
  rw [← hL] at hp
  have hfew := h.few
  have hLL : L.length = ts.length := by rw [hL, List.length_map]
  have HLL := Lib.hid hLL
  have HL := Lib.hid hL
  have HA := Lib.hid hp
  have HG := Lib.hid h
  have HSZ := Lib.hid hsz
  have HBS := Lib.hid hbs
  have HBN := Lib.hid hBN
  have HBR0 := Lib.hid hBR0
  have HP0 := Lib.hid hP
  have HFN := Lib.hid hFN
  clear hbs hsz hBN hBR0 hall h hM hkk hP hr hp hL hFN hLL
  go_enter Tryd.func60, Tryd.ntmps60
  go_wp2_with fail
  rw [← hws]
  clear hws
  refine HA.out.mono ?_
  rintro e w2 ⟨u, rfl, hu, hb2⟩
  obtain ⟨ln, hln⟩ : ∃ ln, ln = (L.map flatT).length := ⟨_, rfl⟩
  obtain ⟨Al, cl, rfl⟩ := hu.slice
  have HU := Lib.hid hu
  rw [← hln] at HU ⊢
  have HLN := Lib.hid hln
  have hBN2 := HBN.out.below hb2 HBN.out.lt
  have hBR2 := HBR0.out.below hb2 HBR0.out.lt
  have HW2 := Lib.hid (HBS.out.trans (hb2.mono HBS.out.size))
  have htg := (HG.out.tog.below HW2.out).cell kk hk10
  rw [HFN.out] at htg
  have hs2 : w.heap.size + 2 ≤ w2.heap.size := by have := hb2.size; have := HSZ.out; omega
  have HT := Lib.hid (HG.out.tog.below HW2.out)
  have HC0 := Lib.hid htg
  have HBN2 := Lib.hid hBN2
  have HBR := Lib.hid hBR2
  obtain ⟨n0, n1, n2, n3, n4, n5, n6, n7, n8⟩ := HBN2.out.nine
  have HCL := Lib.hid (show ∀ wx, Below w2.heap.size w2 wx → (wx.cell? ⟨w.heap.size, 0, none⟩ = some (.int .u8 (kk : Int)) ∧ wx.cell? ⟨w.heap.size, 1, none⟩ = some (.int .u64 d.s0) ∧ wx.cell? ⟨w.heap.size, 2, none⟩ = some (.int .u64 d.s1) ∧ wx.cell? ⟨w.heap.size, 3, none⟩ = some (.int .u64 d.s2) ∧ wx.cell? ⟨w.heap.size, 4, none⟩ = some (.int .u64 d.s3) ∧ wx.cell? ⟨w.heap.size, 5, none⟩ = some (.string ⟨d.text.toArray⟩) ∧ wx.cell? ⟨w.heap.size, 6, none⟩ = some (.int .i64 d.min) ∧ wx.cell? ⟨w.heap.size, 7, none⟩ = some (.int .i64 d.max) ∧ wx.cell? ⟨w.heap.size, 8, none⟩ = some kv) ∧
    (wx.cell? ⟨w.heap.size + 1, 0, none⟩ = some (.slice none 0 0) ∧ wx.cell? ⟨w.heap.size + 1, 1, none⟩ = some (.int .i64 0) ∧ wx.frozen? ⟨w.heap.size + 1, 0, none⟩ = false ∧ wx.frozen? ⟨w.heap.size + 1, 1, none⟩ = false) ∧ wx.cell? ⟨2, kk, none⟩ = some (.func (.func 78) #[] #[]) from fun wx hx =>
    ⟨(HBN2.out.below hx HBN2.out.lt).nine, ⟨(HBR.out.below hx HBR.out.lt).cell 0, (HBR.out.below hx HBR.out.lt).cell 1, (HBR.out.below hx HBR.out.lt).frozen 0, (HBR.out.below hx HBR.out.lt).frozen 1⟩, (hx.cell (p := ⟨2, kk, none⟩) HT.out.lt).trans HC0.out⟩)
  have hRL : ∀ wx, Below w2.heap.size w2 wx → RTrees wx (fun b => w.heap.size + 2 ≤ b ∧ b < wx.heap.size ∧ Soft wx b) (.slice Al ln cl) (L.map flatT) := fun wx hx => (OL.reads (HU.out.below hx) fun b h => h).more fun b hb => ⟨by have := hb.1; have := HSZ.out; omega, hb.2⟩
  have HRL := Lib.hid hRL
  have hpost : ∃ (bb : Bool) (x0 : Tr), (bb = ofEB d ts ∧ x0 = ofET d ts) ∧ ∀ wx, Below w2.heap.size w2 wx → Calls Tryd.prog 78 #[.agg #[.int .u8 (kk : Int), .int .u64 d.s0, .int .u64 d.s1, .int .u64 d.s2, .int .u64 d.s3, .string ⟨d.text.toArray⟩, .int .i64 d.min, .int .i64 d.max, kv], .slice Al ln cl] wx fun e w' => (∃ u, e = .returned (.tuple #[u, .bool bb]) ∧ XTree w' (fun b => w.heap.size + 2 ≤ b) u x0) ∧ Below wx.heap.size wx w' :=
    ⟨_, _, ⟨rfl, rfl⟩, fun wx hx => HP0.out wx _ (by have := HRL.out wx hx; rw [HL.out] at this; exact this) (Nat.le_trans hs2 hx.size) (HG.out.tab.below (HW2.out.trans (hx.mono HW2.out.size)))⟩
  obtain ⟨bb, x0, hbx, hC⟩ := hpost
  have HBX := Lib.hid hbx
  have HC := Lib.hid hC
  clear hu hb2 hBN2 hBR2 htg hRL hln hbx hC
  go_wp2_with fail
  refine wp_region_inv2 (G := Nat) 0 SE (fun j γ => if j ≤ 9 then γ = 0 else True) [[], [0], [0, 1], [0, 1, 2], [], [], [0, 1, 2, 3, 4, 5], [0, 1, 2, 3, 4, 5, 6], [0, 1, 2, 3, 4, 5, 6], [0, 1, 2, 3, 4, 5, 6, 7, 8], [0, 1, 2, 3, 4, 5, 6, 7, 8, 9]]
    [fun v _ => v = .pointer (some ⟨w.heap.size, 0, none⟩), fun v _ => v = .int .u8 (kk : Int), fun v _ => v = .pointer (some ⟨2, kk, none⟩), fun v _ => v = .func (.func 78) #[] #[], fun v _ => v = .agg #[.int .u8 (kk : Int), .int .u64 d.s0, .int .u64 d.s1, .int .u64 d.s2, .int .u64 d.s3, .string ⟨d.text.toArray⟩, .int .i64 d.min, .int .i64 d.max, kv], fun v _ => v = .slice Al ln cl, fun v s => s.1 = 0 → (fun v wq => ∃ u, v = .tuple #[u, .bool bb] ∧ XTree wq (fun b => w.heap.size + 2 ≤ b) u x0) v s.2, fun v s => s.1 = 0 → (fun v wq => XTree wq (fun b => w.heap.size + 2 ≤ b) v x0) v s.2, fun v _ => v = .bool bb, fun _ s => (EFin w x0) s.2 ∧ 2 ≤ s.1, fun v _ => v = .bool bb]
    (by kernel_rfl) SE.trans (SE.refl _) (by kernel_rfl) (by kernel_rfl) (by kernel_rfl) (fun i => by simp) ?rsteO ?rstepseO ?rfineO
  case rsteO =>
    intro R hR v s s' _ h hr
    simp only [List.mem_cons, List.not_mem_nil, or_false] at hR
    rcases hR with rfl | rfl | rfl | rfl | rfl | rfl | rfl | rfl | rfl | rfl | rfl
    · exact hr
    · exact hr
    · exact hr
    · exact hr
    · exact hr
    · exact hr
    · intro h0
      have hs0 : s.1 = 0 := by have := h.1; omega
      have hr := hr hs0
      have hb := h.2.1 hs0 h0
      exact hr.imp fun _ h' => ⟨h'.1, h'.2.below hb⟩
    · intro h0
      have hs0 : s.1 = 0 := by have := h.1; omega
      have hr := hr hs0
      have hb := h.2.1 hs0 h0
      exact XTree.below hr hb
    · exact hr
    · rw [h.2.2.2 hr.2]; exact hr
    · exact hr
  case rstepseO =>
    refine ⟨?_, ?_, ?_, ?_, ?_, ?_, ?_, ?_, ?_, ?_, ?_, trivial⟩
    · intro a γ wx hB hE hN hW K hK
      simp at hN
      subst hN
      have hw := hE.read rfl
      have h2 : a.tmps[2]? = some (.pointer (some ⟨w.heap.size, 0, none⟩)) := (hB.at_ 2 (of_decide_eq_true (by kernel_rfl))).trans rfl
      clear hB hE
      go_simp
      exact hK (.pointer (some ⟨w.heap.size, 0, none⟩)) _ _ (SE.refl _) (fun j h1 h2 h => h) rfl
    · intro a γ wx hB hE hN hW K hK
      simp at hN
      subst hN
      have hw := hE.read rfl
      obtain ⟨⟨_, h22, rfl⟩, -⟩ := hW
      have hc := HCL.out _ hw
      clear hB hE
      go_simp
      exact hK (.int .u8 (kk : Int)) _ _ (SE.refl _) (fun j h1 h2 h => h) rfl
    · intro a γ wx hB hE hN hW K hK
      simp at hN
      subst hN
      have hw := hE.read rfl
      obtain ⟨⟨_, h23, rfl⟩, -⟩ := hW
      clear hB hE
      go_simp
      exact hK (.pointer (some ⟨2, kk, none⟩)) _ _ (SE.refl _) (fun j h1 h2 h => h) rfl
    · intro a γ wx hB hE hN hW K hK
      simp at hN
      subst hN
      have hw := hE.read rfl
      obtain ⟨⟨_, h24, rfl⟩, -⟩ := hW
      have hc := HCL.out _ hw
      clear hB hE
      go_simp
      exact hK (.func (.func 78) #[] #[]) _ _ (SE.refl _) (fun j h1 h2 h => h) rfl
    · intro a γ wx hB hE hN hW K hK
      simp at hN
      subst hN
      have hw := hE.read rfl
      have h2 : a.tmps[2]? = some (.pointer (some ⟨w.heap.size, 0, none⟩)) := (hB.at_ 2 (of_decide_eq_true (by kernel_rfl))).trans rfl
      have hc := HCL.out _ hw
      clear hB hE
      go_simp
      exact hK (.agg #[.int .u8 (kk : Int), .int .u64 d.s0, .int .u64 d.s1, .int .u64 d.s2, .int .u64 d.s3, .string ⟨d.text.toArray⟩, .int .i64 d.min, .int .i64 d.max, kv]) _ _ (SE.refl _) (fun j h1 h2 h => h) rfl
    · intro a γ wx hB hE hN hW K hK
      simp at hN
      subst hN
      have hw := hE.read rfl
      have h6 : a.tmps[6]? = some (.slice Al ln cl) := (hB.at_ 6 (of_decide_eq_true (by kernel_rfl))).trans rfl
      clear hB hE
      go_simp
      exact hK (.slice Al ln cl) _ _ (SE.refl _) (fun j h1 h2 h => h) rfl
    · intro a γ wx hB hE hN hW K hK
      simp at hN
      subst hN
      have hw := hE.read rfl
      obtain ⟨⟨_, h25, rfl⟩, ⟨_, h26, rfl⟩, ⟨_, h27, rfl⟩, -⟩ := hW
      clear hB hE
      go_simp
      refine (HC.out _ hw).mono ?_
      rintro e w' ⟨⟨u, rfl, hu⟩, hbb⟩
      exact hK _ 0 _ (SE.call hbb) (fun j h1 h2 h => h) (fun _ => ⟨u, rfl, hu⟩)
    · intro a γ wx hB hE hN hW K hK
      simp at hN
      subst hN
      have hw := hE.read rfl
      obtain ⟨⟨v28, h28, r28⟩, -⟩ := hW
      have q28 := r28 rfl
      clear r28
      obtain ⟨u28, rfl, r28⟩ := q28
      clear hB hE
      go_simp
      exact hK (_) _ _ (SE.refl _) (fun j h1 h2 h => h) (fun _ => r28)
    · intro a γ wx hB hE hN hW K hK
      simp at hN
      subst hN
      have hw := hE.read rfl
      obtain ⟨⟨v28, h28, r28⟩, -⟩ := hW
      have q28 := r28 rfl
      clear r28
      obtain ⟨u28, rfl, r28⟩ := q28
      clear hB hE
      go_simp
      exact hK (.bool bb) _ _ (SE.refl _) (fun j h1 h2 h => h) rfl
    · intro a γ wx hB hE hN hW K hK
      simp at hN
      subst hN
      have hw := hE.read rfl
      obtain ⟨⟨v29, h29, r29⟩, -⟩ := hW
      have q29 := r29 rfl
      clear r29
      have r29 := q29
      clear q29
      have h4 : a.tmps[4]? = some (.pointer (some ⟨w.heap.size + 1, 0, none⟩)) := (hB.at_ 4 (of_decide_eq_true (by kernel_rfl))).trans rfl
      have hc := HCL.out _ hw
      clear hB hE
      obtain ⟨A, c, rfl⟩ := r29.agg
      go_simp
      refine hK undef 2 _ ⟨by simp, fun _ h => absurd h (by simp), fun h => absurd h (by simp), fun h => absurd h (by simp)⟩ (fun j h1 h2 h => ?_) ⟨?_, Nat.le_refl _⟩
      · rcases Nat.lt_or_ge 9 j with hj | hj
        · rw [if_neg (by omega)]; trivial
        · exfalso; simp at h2; omega
      exact EFin.mk_ HW2.out hw (HBR.out.below hw HBR.out.lt) r29
    · intro a γ wx hB hE hN hW K hK
      obtain ⟨⟨_, h30, rfl⟩, -⟩ := hW
      clear hB hE hN
      go_simp
      exact hK (.bool bb) _ _ (SE.refl _) (fun j h1 h2 h => h) rfl
  case rfineO =>
    intro a' γ wz hB hE hK
    obtain ⟨_, h22, rfl⟩ := hK 0 (of_decide_eq_true (by kernel_rfl))
    obtain ⟨_, h23, rfl⟩ := hK 1 (of_decide_eq_true (by kernel_rfl))
    obtain ⟨_, h24, rfl⟩ := hK 2 (of_decide_eq_true (by kernel_rfl))
    obtain ⟨_, h25, rfl⟩ := hK 3 (of_decide_eq_true (by kernel_rfl))
    obtain ⟨_, h26, rfl⟩ := hK 4 (of_decide_eq_true (by kernel_rfl))
    obtain ⟨_, h27, rfl⟩ := hK 5 (of_decide_eq_true (by kernel_rfl))
    obtain ⟨v28, h28, -⟩ := hK 6 (of_decide_eq_true (by kernel_rfl))
    obtain ⟨v29, h29, -⟩ := hK 7 (of_decide_eq_true (by kernel_rfl))
    obtain ⟨_, h30, rfl⟩ := hK 8 (of_decide_eq_true (by kernel_rfl))
    obtain ⟨_, hP, -⟩ := hK 9 (of_decide_eq_true (by kernel_rfl))
    obtain ⟨_, h5, rfl⟩ := hK 10 (of_decide_eq_true (by kernel_rfl))
    have ha := hB.eq [(22, .pointer (some ⟨w.heap.size, 0, none⟩)), (23, .int .u8 (kk : Int)), (24, .pointer (some ⟨2, kk, none⟩)), (25, .func (.func 78) #[] #[]), (26, .agg #[.int .u8 (kk : Int), .int .u64 d.s0, .int .u64 d.s1, .int .u64 d.s2, .int .u64 d.s3, .string ⟨d.text.toArray⟩, .int .i64 d.min, .int .i64 d.max, kv]), (27, .slice Al ln cl), (28, v28), (29, v29), (30, .bool bb), (5, .bool bb)] rfl (by kernel_rfl) ⟨h22, h23, h24, h25, h26, h27, h28, h29, h30, h5, trivial⟩
    subst ha
    have HP := Lib.hid hP
    clear hK hB hE hP h22 h23 h24 h25 h26 h27 h28 h29 h30 h5
    simp only [putAll, List.foldl_cons, List.foldl_nil, List.setIfInBounds_toArray, List.set_cons_succ, List.set_cons_zero]
    go_wp2_with fail
    obtain ⟨A, c, hBz, hXz, hbz⟩ := HP.out
    refine bodyPost_ret (results_cell2 rfl _ _ (w.heap.size + 1) _ _ _ rfl hBz Tryd.underlying34 rfl tree_size) rfl ?_
    exact (show OfPost d ts w _ _ from ⟨_, by rw [← HBX.out.1]; rfl, by rw [← HBX.out.2]; exact hXz.weaken fun b hb _ => by omega, hbz⟩)
set_option maxRecDepth 20000 in
set_option maxHeartbeats 8000000 in
theorem ofE_no {d : Dt} {kv v : Value} {ts : List Tr} {S : Nat → Prop} {w : World} (hno : ¬ (∀ t ∈ ts, RightT t) ∨ 10 ≤ d.kind) (hd : d.Ok) (h : GivenEL ts v S w) (hM : ∀ t ∈ ts, MakeC t) :
    Calls Tryd.prog 60 #[.agg (nodeCells ⟨d, []⟩ kv).toArray, v] w (OfPost d ts w) := by
  obtain ⟨Av, cv, rfl, -⟩ := h.read.at_
  simp only [nodeCells]
  obtain ⟨ws, hws⟩ : ∃ ws, ws = (w.alloc (.cells #[.int .u8 d.kind, .int .u64 d.s0, .int .u64 d.s1, .int .u64 d.s2, .int .u64 d.s3, .string ⟨d.text.toArray⟩, .int .i64 d.min, .int .i64 d.max, kv] 65)).alloc (.cells #[.slice none 0 0, .int .i64 0] 34) := ⟨_, rfl⟩
  have hbs : Below w.heap.size w ws := by rw [hws]; exact ((Below.refl _ _).alloc (Nat.le_refl _) _).alloc (by simp) _
  have hsz : ws.heap.size = w.heap.size + 2 := by rw [hws]; simp
  have hBN : Blk ws w.heap.size 65 #[.int .u8 d.kind, .int .u64 d.s0, .int .u64 d.s1, .int .u64 d.s2, .int .u64 d.s3, .string ⟨d.text.toArray⟩, .int .i64 d.min, .int .i64 d.max, kv] := by rw [hws]; exact (Blk.new w _ _).alloc _
  have hBR0 : Blk ws (w.heap.size + 1) 34 #[.slice none 0 0, .int .i64 0] := by rw [hws]; exact Blk.new1 _ _ _ _
  have hall := all_g (h.below hbs) hM
  have hB : ofEB d ts = false := decide_eq_false fun hc => by
    rcases hno with h | h
    · exact h hc.1
    · rcases hc.2 with h4 | h4 | h4
      · omega
      · omega
      · have := fits_kind h4; omega
  have hT : ofET d ts = zeroT := if_neg fun hc => by
    rcases hno with h | h
    · exact h hc.1
    · rcases hc.2 with h4 | h4 | h4
      · omega
      · omega
      · have := fits_kind h4; omega
  have HALL := Lib.hid hall
  have HBT := Lib.hid (And.intro hB hT)
  have HSZ := Lib.hid hsz
  have HBS := Lib.hid hbs
  have HBR0 := Lib.hid hBR0
  have HBN := Lib.hid hBN
  have hkd := hd.kind
  clear hbs hsz hBN hBR0 hall h hM hd hB hT
  by_cases hr : ∀ t ∈ ts, RightT t
  · have hk : 10 ≤ d.kind := hno.resolve_left fun h => h hr
    have hge : decide ((10 : Int) ≤ d.kind) = true := by simp; omega
    have hp := HALL.out
    unfold AllPost at hp
    rw [decide_eq_true hr, if_pos hr] at hp
    have HA := Lib.hid hp
    clear hp hno hr
    go_enter Tryd.func60, Tryd.ntmps60
    go_wp2_with fail
    rw [← hws]
    clear hws
    refine HA.out.mono ?_
    rintro e w2 ⟨u, rfl, hu, hb2⟩
    obtain ⟨Al, cl, rfl⟩ := hu.slice
    have hBR2 := HBR0.out.below hb2 HBR0.out.lt
    have HW2 := Lib.hid (HBS.out.trans (hb2.mono HBS.out.size))
    obtain ⟨ln, hln⟩ : ∃ ln, ln = (ts.map nfTr).length := ⟨_, rfl⟩
    rw [← hln]
    have n0 : w2.cell? ⟨w.heap.size, 0, none⟩ = some (.int .u8 d.kind) := (HBN.out.below hb2 HBN.out.lt).cell 0
    have c0 : w2.cell? ⟨w.heap.size + 1, 0, none⟩ = some (.slice none 0 0) := hBR2.cell 0
    have c1 : w2.cell? ⟨w.heap.size + 1, 1, none⟩ = some (.int .i64 0) := hBR2.cell 1
    have f0 : w2.frozen? ⟨w.heap.size + 1, 0, none⟩ = false := hBR2.frozen 0
    have f1 : w2.frozen? ⟨w.heap.size + 1, 1, none⟩ = false := hBR2.frozen 1
    have HBZ := Lib.hid (hBR2.set2 (.slice none 0 0) (.int .i64 0))
    clear hBR2
    clear hu hb2 hln
    go_wp2_with fail
    refine bodyPost_ret (results_cell2 rfl _ _ (w.heap.size + 1) _ _ _ rfl HBZ.out Tryd.underlying34 rfl tree_size) rfl ?_
    exact (show OfPost d ts w _ _ from ⟨_, by rw [HBT.out.1]; rfl, by rw [HBT.out.2]; exact XTree.zero _ _, (HW2.out.setCell (by simp) _).setCell (by simp) _⟩)
  · have hp := HALL.out
    unfold AllPost at hp
    rw [decide_eq_false hr, if_neg hr] at hp
    have HA := Lib.hid hp
    clear hp hno hr
    go_enter Tryd.func60, Tryd.ntmps60
    go_wp2_with fail
    rw [← hws]
    clear hws
    refine HA.out.mono ?_
    rintro e w2 ⟨u, rfl, hu, hb2⟩
    obtain ⟨Al, cl, rfl⟩ := hu.slice
    have hBR2 := HBR0.out.below hb2 HBR0.out.lt
    have HW2 := Lib.hid (HBS.out.trans (hb2.mono HBS.out.size))
    have c0 : w2.cell? ⟨w.heap.size + 1, 0, none⟩ = some (.slice none 0 0) := hBR2.cell 0
    have c1 : w2.cell? ⟨w.heap.size + 1, 1, none⟩ = some (.int .i64 0) := hBR2.cell 1
    have f0 : w2.frozen? ⟨w.heap.size + 1, 0, none⟩ = false := hBR2.frozen 0
    have f1 : w2.frozen? ⟨w.heap.size + 1, 1, none⟩ = false := hBR2.frozen 1
    have HBZ := Lib.hid (hBR2.set2 (.slice none 0 0) (.int .i64 0))
    clear hBR2
    clear hu hb2
    go_wp2_with fail
    refine bodyPost_ret (results_cell2 rfl _ _ (w.heap.size + 1) _ _ _ rfl HBZ.out Tryd.underlying34 rfl tree_size) rfl ?_
    exact (show OfPost d ts w _ _ from ⟨_, by rw [HBT.out.1]; rfl, by rw [HBT.out.2]; exact XTree.zero _ _, (HW2.out.setCell (by simp) _).setCell (by simp) _⟩)
theorem ofE_g {d : Dt} {kv v : Value} {ts : List Tr} {S : Nat → Prop} {w : World} (hd : d.Ok) (h4 : d.kind = 4 → d = seqD) (h5 : d.kind = 5 → d = choiceD) (h : GivenEL ts v S w) (hM : ∀ t ∈ ts, MakeC t) :
    Calls Tryd.prog 60 #[.agg (nodeCells ⟨d, []⟩ kv).toArray, v] w (OfPost d ts w) := by
  by_cases hno : ¬ (∀ t ∈ ts, RightT t) ∨ 10 ≤ d.kind
  · exact ofE_no hno hd h hM
  · have hr : ∀ t ∈ ts, RightT t := Classical.byContradiction fun h => hno (.inl h)
    have hk : d.kind < 10 := by
      have : ¬ 10 ≤ d.kind := fun h => hno (.inr h)
      omega
    have hkd := hd.kind
    obtain ⟨kk, hkk⟩ : ∃ kk : Nat, d.kind = (kk : Int) := ⟨d.kind.toNat, by omega⟩
    simp only [nodeCells]
    rw [hkk]
    by_cases e4 : kk = 4
    · subst e4
      exact ofE_walk4 hkk (by omega) rfl (rest_4 (h4 hkk) hr h.sum h.few) hr h hM
    · by_cases e5 : kk = 5
      · subst e5
        exact ofE_walk5 hkk (by omega) rfl (rest_5 (h5 hkk) hr h.sum h.few) hr h hM
      · refine ofE_walkO hkk (by omega) ?_ (rest_of hd hkk (by omega) (by omega) hr h.sum h.few) hr h hM
        have : kk = 0 ∨ kk = 1 ∨ kk = 2 ∨ kk = 3 ∨ kk = 6 ∨ kk = 7 ∨ kk = 8 ∨ kk = 9 := by omega
        rcases this with rfl | rfl | rfl | rfl | rfl | rfl | rfl | rfl <;> rfl
end Go.Proofs.YtclfpjfjebheoaaDoor
/- The contract of expr.Make. -/
namespace Go.Proofs.YtclfpjfjebheoaaDoor
set_option linter.unusedSimpArgs false
open Go.RowKit
open Classical

/-- A row of trees in soft blocks from lo on. -/
def XL (w : World) (lo : Nat) (v : Value) (ts : List Tr) : Prop := RTrees w (fun b => lo ≤ b ∧ b < w.heap.size ∧ Soft w b) v ts
theorem XL.below {w w' : World} {lo : Nat} {v : Value} {ts : List Tr} (h : XL w lo v ts) (hb : Below w.heap.size w w') : XL w' lo v ts :=
  (RTrees.below h hb fun b h => h.2.1).more fun b h => ⟨h.1, Nat.lt_of_lt_of_le h.2.1 hb.size, h.2.2.below hb h.2.1⟩
theorem XL.lo_ {w : World} {lo lo' : Nat} {v : Value} {ts : List Tr} (h : XL w lo v ts) (hl : lo' ≤ lo) : XL w lo' v ts := RTrees.more h fun b h => ⟨Nat.le_trans hl h.1, h.2⟩
theorem size_kids (t : T) : t.size = 1 + sizes t.kids := by cases t; simp only [T.size, T.kids]
theorem kidsOfT_right {t : Tr} (h : RightT t) : kidsOfT t = (treeOf t).kids.map flatT := if_pos h
theorem kidsOfT_sum {t : Tr} (h : RightT t) : ((kidsOfT t).map (·.nodes.length)).sum + 1 = t.nodes.length := by
  rw [kidsOfT_right h, sum_flat, ← h.size, size_kids (treeOf t)]; omega
theorem kidsOfT_len {t : Tr} (h : RightT t) : (kidsOfT t).length ≤ t.nodes.length := by
  rw [kidsOfT_right h, List.length_map, ← h.size, size_kids (treeOf t)]
  have := sizes_len (treeOf t).kids
  omega
theorem kidsOfT_rights {t : Tr} (h : RightT t) : ∀ k ∈ kidsOfT t, RightT k := by
  rw [kidsOfT_right h]; exact rights_flat _ h.fitT.kids
theorem ofE_make {t : Tr} (h : RightT t) : ofEB (treeOf t).d (kidsOfT t) = true ∧ ofET (treeOf t).d (kidsOfT t) = nfTr t := by
  have hf := h.fitT.fit
  have hk : fits (treeOf t).d (kidsOfT t).length = true := by rw [kidsOfT_right h, List.length_map]; exact hf
  have hc : (∀ k ∈ kidsOfT t, RightT k) ∧ ((treeOf t).d.kind = 4 ∨ (treeOf t).d.kind = 5 ∨ fits (treeOf t).d (kidsOfT t).length = true) := ⟨kidsOfT_rights h, .inr (.inr hk)⟩
  refine ⟨decide_eq_true hc, ?_⟩
  rw [ofET, if_pos hc, nfTr, if_pos h, kidsOfT_right h, List.map_map]
  have : ((fun t => nf (treeOf t)) ∘ flatT) = nf := funext fun x => congrArg nf (treeOf_flat x)
  rw [this, ← nf_node]
  cases treeOf t; rfl
theorem root_of_right {t : Tr} (h : RightT t) : rootOf t = ⟨(treeOf t).d, []⟩ := if_pos h

set_option maxRecDepth 20000 in
set_option maxHeartbeats 8000000 in
theorem Make_step {t : Tr} (hM : ∀ k ∈ kidsOfT t, MakeC k) : MakeC t := by
  intro v S w h
  have hrt := right_g h.given
  obtain ⟨nv, rfl, hns, hr1, hr2⟩ := h.given.read
  obtain ⟨A, c, rfl, hc, hs, _⟩ := hns.at_
  obtain ⟨ws, hws⟩ : ∃ ws, ws = (w.alloc (.cells #[.slice A t.nodes.length c, .int .i64 t.root] 34)).alloc (.cells #[.slice none 0 0, .int .i64 0] 34) := ⟨_, rfl⟩
  have hbs : Below w.heap.size w ws := by rw [hws]; exact ((Below.refl _ _).alloc (Nat.le_refl _) _).alloc (by simp) _
  have hsz : ws.heap.size = w.heap.size + 2 := by rw [hws]; simp
  have hBT : Blk ws w.heap.size 34 #[.slice A t.nodes.length c, .int .i64 t.root] := by rw [hws]; exact (Blk.new w _ _).alloc _
  have hBR0 : Blk ws (w.heap.size + 1) 34 #[.slice none 0 0, .int .i64 0] := by rw [hws]; exact Blk.new1 _ _ _ _
  have hRI := right_g (h.given.below hbs)
  have b0 : ws.cell? ⟨w.heap.size, 0, none⟩ = some (.slice A t.nodes.length c) := hBT.cell 0
  have b1 : ws.cell? ⟨w.heap.size, 1, none⟩ = some (.int .i64 t.root) := hBT.cell 1
  have HRI := Lib.hid hRI
  have HG := Lib.hid h
  have HSZ := Lib.hid hsz
  have HBS := Lib.hid hbs
  have HBT := Lib.hid hBT
  have HBR0 := Lib.hid hBR0
  have HM := Lib.hid hM
  clear hbs hsz hBT hBR0 h hM hRI hns hrt
  by_cases hr : RightT t
  · have hp := HRI.out
    rw [decide_eq_true hr] at hp
    have HA := Lib.hid hp
    have HR := Lib.hid hr
    clear hp hr HRI
    go_enter Tryd.func23, Tryd.ntmps23
    go_wp2_with fail
    rw [← hws]
    clear hws
    go_wp2_with fail
    refine HA.out.mono ?_
    rintro e w2 ⟨rfl, hb2⟩
    have hBT2 := HBT.out.below hb2 HBT.out.lt
    have hBR2 := HBR0.out.below hb2 HBR0.out.lt
    have HW2 := Lib.hid (HBS.out.trans (hb2.mono HBS.out.size))
    have hs2 : w.heap.size + 2 ≤ w2.heap.size := by have := hb2.size; have := HSZ.out; omega
    have HBT2 := Lib.hid hBT2
    have HBR := Lib.hid hBR2
    have HCL := Lib.hid (show ∀ wx, Below w2.heap.size w2 wx → (wx.cell? ⟨w.heap.size, 0, none⟩ = some (.slice A t.nodes.length c) ∧ wx.cell? ⟨w.heap.size, 1, none⟩ = some (.int .i64 t.root)) ∧
      (wx.cell? ⟨w.heap.size + 1, 0, none⟩ = some (.slice none 0 0) ∧ wx.cell? ⟨w.heap.size + 1, 1, none⟩ = some (.int .i64 0) ∧ wx.frozen? ⟨w.heap.size + 1, 0, none⟩ = false ∧ wx.frozen? ⟨w.heap.size + 1, 1, none⟩ = false) from fun wx hx =>
      ⟨⟨(HBT2.out.below hx HBT2.out.lt).cell 0, (HBT2.out.below hx HBT2.out.lt).cell 1⟩, ⟨(HBR.out.below hx HBR.out.lt).cell 0, (HBR.out.below hx HBR.out.lt).cell 1, (HBR.out.below hx HBR.out.lt).frozen 0, (HBR.out.below hx HBR.out.lt).frozen 1⟩⟩)
    obtain ⟨D, hD⟩ : ∃ D, D = (treeOf t).d := ⟨_, rfl⟩
    obtain ⟨x0, hx0⟩ : ∃ x0, x0 = nfTr t := ⟨_, rfl⟩
    have hGX : ∀ wx, Below w2.heap.size w2 wx → GivenE t (.agg #[.slice A t.nodes.length c, .int .i64 t.root]) S wx := fun wx hx => HG.out.below (HW2.out.trans (hx.mono HW2.out.size))
    have HRT := Lib.hid (show ∀ wx, Below w2.heap.size w2 wx → Calls Tryd.prog 41 #[.agg #[.slice A t.nodes.length c, .int .i64 t.root]] wx fun e w' => e = .returned (.agg #[.int .u8 D.kind, .int .u64 D.s0, .int .u64 D.s1, .int .u64 D.s2, .int .u64 D.s3, .string ⟨D.text.toArray⟩, .int .i64 D.min, .int .i64 D.max, .slice none 0 0]) ∧ Below wx.heap.size wx w' from fun wx hx => by
      refine (Root_g (hGX wx hx).given).mono ?_
      rintro e w' ⟨⟨N, rfl, hN⟩, hb⟩
      rw [root_of_right HR.out, ← hD] at hN
      subst hN
      exact ⟨rfl, hb⟩)
    have HKD := Lib.hid (show ∀ wx, Below w2.heap.size w2 wx → Calls Tryd.prog 61 #[.agg #[.slice A t.nodes.length c, .int .i64 t.root]] wx fun e w' => (∃ u, e = .returned u ∧ XL w' (w.heap.size + 2) u (kidsOfT t)) ∧ Below wx.heap.size wx w' from fun wx hx => by
      refine (Kids_g (hGX wx hx).given).mono ?_
      rintro e w' ⟨u, rfl, hu, hb⟩
      exact ⟨⟨u, rfl, XL.lo_ (OwnList.soft hu) (Nat.le_trans hs2 hx.size)⟩, hb⟩)
    have HOF := Lib.hid (show ∀ wx v, Below w2.heap.size w2 wx → XL wx (w.heap.size + 2) v (kidsOfT t) → Calls Tryd.prog 60 #[.agg #[.int .u8 D.kind, .int .u64 D.s0, .int .u64 D.s1, .int .u64 D.s2, .int .u64 D.s3, .string ⟨D.text.toArray⟩, .int .i64 D.min, .int .i64 D.max, .slice none 0 0], v] wx fun e w' => (∃ u, e = .returned (.tuple #[u, .bool true]) ∧ XTree w' (fun b => w.heap.size + 2 ≤ b) u x0) ∧ Below wx.heap.size wx w' from fun wx v hx hv => by
      have hls := HG.out.less
      have hsum := kidsOfT_sum HR.out
      have hlen := kidsOfT_len HR.out
      have ho := ofE_g (d := D) (kv := .slice none 0 0) (by have := root_ok (hGX wx hx).given.read; rw [root_of_right HR.out] at this; rw [hD]; exact this) (fun h4 => by rw [hD] at h4 ⊢; exact (fits_four HR.out.fitT.fit h4).1) (fun h5 => by rw [hD] at h5 ⊢; exact (fits_five HR.out.fitT.fit h5).1)
        (⟨hv, fun b h => h.2.1, (hGX wx hx).given.tab, (hGX wx hx).tog, by omega, by omega⟩ : GivenEL (kidsOfT t) v _ wx) HM.out
      simp only [nodeCells] at ho
      refine ho.mono ?_
      rintro e w' ⟨u, rfl, hu, hb⟩
      obtain ⟨h1, h2⟩ := ofE_make HR.out
      rw [hD, h2, ← hx0] at hu
      rw [hD, h1]
      exact ⟨⟨u, rfl, hu.weaken fun b hb _ => Nat.le_trans (Nat.le_trans hs2 hx.size) hb⟩, hb⟩)
    have HX0 := Lib.hid hx0
    clear hb2 hBT2 hBR2 hGX hD hx0
    go_wp2_with fail
    refine wp_region_inv2 (G := Nat) 0 SE (fun j γ => if j ≤ 7 then γ = 0 else True) [[], [0], [], [0, 1, 2], [0, 1, 2, 3], [0, 1, 2, 3, 4], [0, 1, 2, 3, 4], [0, 1, 2, 3, 4, 5, 6], [0, 1, 2, 3, 4, 5, 6, 7]]
      [fun v _ => v = .agg #[.slice A t.nodes.length c, .int .i64 t.root], fun v _ => v = .agg #[.int .u8 D.kind, .int .u64 D.s0, .int .u64 D.s1, .int .u64 D.s2, .int .u64 D.s3, .string ⟨D.text.toArray⟩, .int .i64 D.min, .int .i64 D.max, .slice none 0 0], fun v _ => v = .agg #[.slice A t.nodes.length c, .int .i64 t.root], fun v s => s.1 = 0 → (fun v wq => XL wq (w.heap.size + 2) v (kidsOfT t)) v s.2, fun v s => s.1 = 0 → (fun v wq => ∃ u, v = .tuple #[u, .bool true] ∧ XTree wq (fun b => w.heap.size + 2 ≤ b) u x0) v s.2, fun v s => s.1 = 0 → (fun v wq => XTree wq (fun b => w.heap.size + 2 ≤ b) v x0) v s.2, fun v _ => v = .bool true, fun _ s => (EFin w x0) s.2 ∧ 2 ≤ s.1, fun v _ => v = .bool true]
      (by kernel_rfl) SE.trans (SE.refl _) (by kernel_rfl) (by kernel_rfl) (by kernel_rfl) (fun i => by simp) ?rstmk ?rstepsmk ?rfinmk
    case rstmk =>
      intro R hR v s s' _ h hr
      simp only [List.mem_cons, List.not_mem_nil, or_false] at hR
      rcases hR with rfl | rfl | rfl | rfl | rfl | rfl | rfl | rfl | rfl
      · exact hr
      · exact hr
      · exact hr
      · intro h0
        have hs0 : s.1 = 0 := by have := h.1; omega
        have hr := hr hs0
        have hb := h.2.1 hs0 h0
        exact XL.below hr hb
      · intro h0
        have hs0 : s.1 = 0 := by have := h.1; omega
        have hr := hr hs0
        have hb := h.2.1 hs0 h0
        exact hr.imp fun _ h' => ⟨h'.1, h'.2.below hb⟩
      · intro h0
        have hs0 : s.1 = 0 := by have := h.1; omega
        have hr := hr hs0
        have hb := h.2.1 hs0 h0
        exact XTree.below hr hb
      · exact hr
      · rw [h.2.2.2 hr.2]; exact hr
      · exact hr
    case rstepsmk =>
      refine ⟨?_, ?_, ?_, ?_, ?_, ?_, ?_, ?_, ?_, trivial⟩
      · intro a γ wx hB hE hN hW K hK
        simp at hN
        subst hN
        have hw := hE.read rfl
        have h1 : a.tmps[1]? = some (.pointer (some ⟨w.heap.size, 0, none⟩)) := (hB.at_ 1 (of_decide_eq_true (by kernel_rfl))).trans rfl
        have hc := HCL.out _ hw
        clear hB hE
        go_simp
        exact hK (.agg #[.slice A t.nodes.length c, .int .i64 t.root]) _ _ (SE.refl _) (fun j h1 h2 h => h) rfl
      · intro a γ wx hB hE hN hW K hK
        simp at hN
        subst hN
        have hw := hE.read rfl
        obtain ⟨⟨_, h8, rfl⟩, -⟩ := hW
        clear hB hE
        go_simp
        refine (HRT.out _ hw).mono ?_
        rintro e w' ⟨rfl, hbb⟩
        exact hK _ 0 _ (SE.call hbb) (fun j h1 h2 h => h) rfl
      · intro a γ wx hB hE hN hW K hK
        simp at hN
        subst hN
        have hw := hE.read rfl
        have h1 : a.tmps[1]? = some (.pointer (some ⟨w.heap.size, 0, none⟩)) := (hB.at_ 1 (of_decide_eq_true (by kernel_rfl))).trans rfl
        have hc := HCL.out _ hw
        clear hB hE
        go_simp
        exact hK (.agg #[.slice A t.nodes.length c, .int .i64 t.root]) _ _ (SE.refl _) (fun j h1 h2 h => h) rfl
      · intro a γ wx hB hE hN hW K hK
        simp at hN
        subst hN
        have hw := hE.read rfl
        obtain ⟨⟨_, h10, rfl⟩, -⟩ := hW
        clear hB hE
        go_simp
        refine (HKD.out _ hw).mono ?_
        rintro e w' ⟨⟨u, rfl, hu⟩, hbb⟩
        exact hK _ 0 _ (SE.call hbb) (fun j h1 h2 h => h) (fun _ => hu)
      · intro a γ wx hB hE hN hW K hK
        simp at hN
        subst hN
        have hw := hE.read rfl
        obtain ⟨⟨_, h9, rfl⟩, ⟨v11, h11, r11⟩, -⟩ := hW
        have q11 := r11 rfl
        clear r11
        have r11 := q11
        clear q11
        clear hB hE
        go_simp
        refine (HOF.out _ _ hw r11).mono ?_
        rintro e w' ⟨⟨u, rfl, hu⟩, hbb⟩
        exact hK _ 0 _ (SE.call hbb) (fun j h1 h2 h => h) (fun _ => ⟨u, rfl, hu⟩)
      · intro a γ wx hB hE hN hW K hK
        simp at hN
        subst hN
        have hw := hE.read rfl
        obtain ⟨⟨v12, h12, r12⟩, -⟩ := hW
        have q12 := r12 rfl
        clear r12
        obtain ⟨u12, rfl, r12⟩ := q12
        clear hB hE
        go_simp
        exact hK (_) _ _ (SE.refl _) (fun j h1 h2 h => h) (fun _ => r12)
      · intro a γ wx hB hE hN hW K hK
        simp at hN
        subst hN
        have hw := hE.read rfl
        obtain ⟨⟨v12, h12, r12⟩, -⟩ := hW
        have q12 := r12 rfl
        clear r12
        obtain ⟨u12, rfl, r12⟩ := q12
        clear hB hE
        go_simp
        exact hK (.bool true) _ _ (SE.refl _) (fun j h1 h2 h => h) rfl
      · intro a γ wx hB hE hN hW K hK
        simp at hN
        subst hN
        have hw := hE.read rfl
        obtain ⟨⟨v13, h13, r13⟩, -⟩ := hW
        have q13 := r13 rfl
        clear r13
        have r13 := q13
        clear q13
        have h2 : a.tmps[2]? = some (.pointer (some ⟨w.heap.size + 1, 0, none⟩)) := (hB.at_ 2 (of_decide_eq_true (by kernel_rfl))).trans rfl
        have hc := HCL.out _ hw
        clear hB hE
        obtain ⟨A2, c2, rfl⟩ := r13.agg
        go_simp
        refine hK undef 2 _ ⟨by simp, fun _ h => absurd h (by simp), fun h => absurd h (by simp), fun h => absurd h (by simp)⟩ (fun j h1 h2 h => ?_) ⟨?_, Nat.le_refl _⟩
        · rcases Nat.lt_or_ge 7 j with hj | hj
          · rw [if_neg (by omega)]; trivial
          · exfalso; simp at h2; omega
        exact EFin.mk_ HW2.out hw (HBR.out.below hw HBR.out.lt) r13
      · intro a γ wx hB hE hN hW K hK
        obtain ⟨⟨_, h14, rfl⟩, -⟩ := hW
        clear hB hE hN
        go_simp
        exact hK (.bool true) _ _ (SE.refl _) (fun j h1 h2 h => h) rfl
    case rfinmk =>
      intro a' γ wz hB hE hK
      obtain ⟨_, h8, rfl⟩ := hK 0 (of_decide_eq_true (by kernel_rfl))
      obtain ⟨_, h9, rfl⟩ := hK 1 (of_decide_eq_true (by kernel_rfl))
      obtain ⟨_, h10, rfl⟩ := hK 2 (of_decide_eq_true (by kernel_rfl))
      obtain ⟨v11, h11, -⟩ := hK 3 (of_decide_eq_true (by kernel_rfl))
      obtain ⟨v12, h12, -⟩ := hK 4 (of_decide_eq_true (by kernel_rfl))
      obtain ⟨v13, h13, -⟩ := hK 5 (of_decide_eq_true (by kernel_rfl))
      obtain ⟨_, h14, rfl⟩ := hK 6 (of_decide_eq_true (by kernel_rfl))
      obtain ⟨_, hP, -⟩ := hK 7 (of_decide_eq_true (by kernel_rfl))
      obtain ⟨_, h3, rfl⟩ := hK 8 (of_decide_eq_true (by kernel_rfl))
      have ha := hB.eq [(8, .agg #[.slice A t.nodes.length c, .int .i64 t.root]), (9, .agg #[.int .u8 D.kind, .int .u64 D.s0, .int .u64 D.s1, .int .u64 D.s2, .int .u64 D.s3, .string ⟨D.text.toArray⟩, .int .i64 D.min, .int .i64 D.max, .slice none 0 0]), (10, .agg #[.slice A t.nodes.length c, .int .i64 t.root]), (11, v11), (12, v12), (13, v13), (14, .bool true), (3, .bool true)] rfl (by kernel_rfl) ⟨h8, h9, h10, h11, h12, h13, h14, h3, trivial⟩
      subst ha
      have HP := Lib.hid hP
      clear hK hB hE hP h8 h9 h10 h11 h12 h13 h14 h3
      simp only [putAll, List.foldl_cons, List.foldl_nil, List.setIfInBounds_toArray, List.set_cons_succ, List.set_cons_zero]
      go_wp2_with fail
      obtain ⟨A2, c2, hBz, hXz, hbz⟩ := HP.out
      refine bodyPost_ret (results_cell2 rfl _ _ (w.heap.size + 1) _ _ _ rfl hBz Tryd.underlying34 rfl tree_size) rfl ?_
      exact (show MakePost t w _ _ from ⟨_, by rw [decide_eq_true HR.out]; rfl, by rw [← HX0.out]; exact hXz.weaken fun b hb _ => by omega, hbz⟩)
  · have hp := HRI.out
    rw [decide_eq_false hr] at hp
    have HA := Lib.hid hp
    have HR := Lib.hid hr
    clear hp hr HRI
    go_enter Tryd.func23, Tryd.ntmps23
    go_wp2_with fail
    rw [← hws]
    clear hws
    go_wp2_with fail
    refine HA.out.mono ?_
    rintro e w2 ⟨rfl, hb2⟩
    have hBR2 := HBR0.out.below hb2 HBR0.out.lt
    have HW2 := Lib.hid (HBS.out.trans (hb2.mono HBS.out.size))
    have c0 : w2.cell? ⟨w.heap.size + 1, 0, none⟩ = some (.slice none 0 0) := hBR2.cell 0
    have c1 : w2.cell? ⟨w.heap.size + 1, 1, none⟩ = some (.int .i64 0) := hBR2.cell 1
    have f0 : w2.frozen? ⟨w.heap.size + 1, 0, none⟩ = false := hBR2.frozen 0
    have f1 : w2.frozen? ⟨w.heap.size + 1, 1, none⟩ = false := hBR2.frozen 1
    have HBZ := Lib.hid (hBR2.set2 (.slice none 0 0) (.int .i64 0))
    clear hBR2 hb2
    go_wp2_with fail
    refine bodyPost_ret (results_cell2 rfl _ _ (w.heap.size + 1) _ _ _ rfl HBZ.out Tryd.underlying34 rfl tree_size) rfl ?_
    exact (show MakePost t w _ _ from ⟨_, by rw [decide_eq_false HR.out]; rfl, by rw [show nfTr t = zeroT from if_neg HR.out]; exact XTree.zero _ _, (HW2.out.setCell (by simp) _).setCell (by simp) _⟩)
theorem Make_g (t : Tr) : MakeC t := by
  have : ∀ (n : Nat) (t : Tr), t.nodes.length < n → MakeC t := by
    intro n
    induction n with
    | zero => intro t h; omega
    | succ n ih =>
      intro t h
      refine Make_step fun k hk => ih k ?_
      by_cases hr : RightT t
      · have h1 := kidsOfT_sum hr
        have h2 := sum_mem hk
        omega
      · rw [show kidsOfT t = [] from if_neg hr] at hk; simp at hk
  exact this (t.nodes.length + 1) t (Nat.lt_succ_self _)
end Go.Proofs.YtclfpjfjebheoaaDoor
/- The contracts of expr.Seq, Choice, Rep, And, Not, Cap. -/
namespace Go.Proofs.YtclfpjfjebheoaaDoor
set_option linter.unusedSimpArgs false
open Go.RowKit
open Classical

theorem end_tree {w w2 : World} {x : Tr} {A : Option Addr} {c g lo : Nat} (hW : Below w.heap.size w w2) (hX : XTree w2 (fun b => lo ≤ b) (.agg #[.slice A x.nodes.length c, .int .i64 x.root]) x) (hg : w.heap.size ≤ g) (hl : g < lo) :
    XTree ((w2.setCell ⟨g, 0, none⟩ (.slice A x.nodes.length c)).setCell ⟨g, 1, none⟩ (.int .i64 x.root)) (fun b => w.heap.size ≤ b) (.agg #[.slice A x.nodes.length c, .int .i64 x.root]) x ∧
    Below w.heap.size w ((w2.setCell ⟨g, 0, none⟩ (.slice A x.nodes.length c)).setCell ⟨g, 1, none⟩ (.int .i64 x.root)) :=
  ⟨(hX.far (grown_set2 _ _ 0 1 _ _) (by omega)).weaken fun b hb _ => by omega, (hW.setCell (by exact hg) _).setCell (by exact hg) _⟩

set_option maxHeartbeats 4000000 in
theorem Seq_g {ts : List Tr} {v : Value} {S : Nat → Prop} {w : World} (h : GivenEL ts v S w) : Calls Tryd.prog 20 #[v] w (OfPost seqD ts w) := by
  obtain ⟨Av, cv, rfl, -⟩ := h.read.at_
  have hO : ∀ wx, Below w.heap.size w wx → Calls Tryd.prog 60 #[.agg #[.int .u8 4, .int .u64 0, .int .u64 0, .int .u64 0, .int .u64 0, .string ⟨#[]⟩, .int .i64 0, .int .i64 0, .slice none 0 0], .slice Av ts.length cv] wx (OfPost seqD ts wx) := fun wx hx =>
    ofE_g (d := seqD) (kv := .slice none 0 0) ⟨by decide, by decide, by decide, by decide, by decide⟩ (fun h => by first | rfl | exact absurd h (by decide)) (fun h => by first | rfl | exact absurd h (by decide)) (h.below hx) (fun t _ => Make_g t)
  have HO := Lib.hid hO
  clear h hO
  go_enter Tryd.func20, Tryd.ntmps20
  go_wp2_with fail
  refine (HO.out _ ((Below.refl _ _).alloc (Nat.le_refl _) _)).mono ?_
  rintro e w2 ⟨u, rfl, hu, hb2⟩
  obtain ⟨bb, hbb⟩ : ∃ bb, bb = ofEB seqD ts := ⟨_, rfl⟩
  obtain ⟨x0, hx0⟩ : ∃ x0, x0 = ofET seqD ts := ⟨_, rfl⟩
  rw [← hx0] at hu
  rw [← hbb]
  obtain ⟨A, c, rfl⟩ := hu.agg
  have hB2 : Blk w2 w.heap.size 34 #[.slice none 0 0, .int .i64 0] := (Blk.new w _ _).below hb2 (by simp)
  have hW2 : Below w.heap.size w w2 := ((Below.refl _ _).alloc (Nat.le_refl _) _).trans (hb2.mono (by simp))
  have c0 : w2.cell? ⟨w.heap.size, 0, none⟩ = some (.slice none 0 0) := hB2.cell 0
  have c1 : w2.cell? ⟨w.heap.size, 1, none⟩ = some (.int .i64 0) := hB2.cell 1
  have f0 : w2.frozen? ⟨w.heap.size, 0, none⟩ = false := hB2.frozen 0
  have f1 : w2.frozen? ⟨w.heap.size, 1, none⟩ = false := hB2.frozen 1
  have HBZ := Lib.hid (hB2.set2 (.slice A x0.nodes.length c) (.int .i64 x0.root))
  have HE := Lib.hid (end_tree hW2 hu (Nat.le_refl _) (by simp))
  have HX := Lib.hid (And.intro hbb hx0)
  clear hB2 hW2 hu hb2 hbb hx0
  go_wp2_with fail
  refine bodyPost_ret (results_cell2 rfl _ _ w.heap.size _ _ _ rfl HBZ.out Tryd.underlying34 rfl tree_size) rfl ?_
  exact (show OfPost seqD ts w _ _ from ⟨_, by rw [← HX.out.1]; rfl, by rw [← HX.out.2]; exact HE.out.1, HE.out.2⟩)

set_option maxHeartbeats 4000000 in
theorem Choice_g {ts : List Tr} {v : Value} {S : Nat → Prop} {w : World} (h : GivenEL ts v S w) : Calls Tryd.prog 22 #[v] w (OfPost choiceD ts w) := by
  obtain ⟨Av, cv, rfl, -⟩ := h.read.at_
  have hO : ∀ wx, Below w.heap.size w wx → Calls Tryd.prog 60 #[.agg #[.int .u8 5, .int .u64 0, .int .u64 0, .int .u64 0, .int .u64 0, .string ⟨#[]⟩, .int .i64 0, .int .i64 0, .slice none 0 0], .slice Av ts.length cv] wx (OfPost choiceD ts wx) := fun wx hx =>
    ofE_g (d := choiceD) (kv := .slice none 0 0) ⟨by decide, by decide, by decide, by decide, by decide⟩ (fun h => by first | rfl | exact absurd h (by decide)) (fun h => by first | rfl | exact absurd h (by decide)) (h.below hx) (fun t _ => Make_g t)
  have HO := Lib.hid hO
  clear h hO
  go_enter Tryd.func22, Tryd.ntmps22
  go_wp2_with fail
  refine (HO.out _ ((Below.refl _ _).alloc (Nat.le_refl _) _)).mono ?_
  rintro e w2 ⟨u, rfl, hu, hb2⟩
  obtain ⟨bb, hbb⟩ : ∃ bb, bb = ofEB choiceD ts := ⟨_, rfl⟩
  obtain ⟨x0, hx0⟩ : ∃ x0, x0 = ofET choiceD ts := ⟨_, rfl⟩
  rw [← hx0] at hu
  rw [← hbb]
  obtain ⟨A, c, rfl⟩ := hu.agg
  have hB2 : Blk w2 w.heap.size 34 #[.slice none 0 0, .int .i64 0] := (Blk.new w _ _).below hb2 (by simp)
  have hW2 : Below w.heap.size w w2 := ((Below.refl _ _).alloc (Nat.le_refl _) _).trans (hb2.mono (by simp))
  have c0 : w2.cell? ⟨w.heap.size, 0, none⟩ = some (.slice none 0 0) := hB2.cell 0
  have c1 : w2.cell? ⟨w.heap.size, 1, none⟩ = some (.int .i64 0) := hB2.cell 1
  have f0 : w2.frozen? ⟨w.heap.size, 0, none⟩ = false := hB2.frozen 0
  have f1 : w2.frozen? ⟨w.heap.size, 1, none⟩ = false := hB2.frozen 1
  have HBZ := Lib.hid (hB2.set2 (.slice A x0.nodes.length c) (.int .i64 x0.root))
  have HE := Lib.hid (end_tree hW2 hu (Nat.le_refl _) (by simp))
  have HX := Lib.hid (And.intro hbb hx0)
  clear hB2 hW2 hu hb2 hbb hx0
  go_wp2_with fail
  refine bodyPost_ret (results_cell2 rfl _ _ w.heap.size _ _ _ rfl HBZ.out Tryd.underlying34 rfl tree_size) rfl ?_
  exact (show OfPost choiceD ts w _ _ from ⟨_, by rw [← HX.out.1]; rfl, by rw [← HX.out.2]; exact HE.out.1, HE.out.2⟩)

def andD : Dt := ⟨7, 0, 0, 0, 0, [], 0, 0⟩
def capD (s : List UInt8) : Dt := ⟨9, 0, 0, 0, 0, s, 0, 0⟩
def repD (mn mx : Int) : Dt := ⟨6, 0, 0, 0, 0, [], mn, mx⟩
theorem repD_ok {mn mx : Int} (hmn : -9223372036854775808 ≤ mn ∧ mn ≤ 9223372036854775807) (hmx : -9223372036854775808 ≤ mx ∧ mx ≤ 9223372036854775807) : (repD mn mx).Ok := ⟨by simp [repD], by simp [repD], by simp [repD], hmn, hmx⟩
theorem capD_ok {s : List UInt8} (h : s.length ≤ maxLen) : (capD s).Ok := ⟨by simp [capD], by simp [capD], h, by simp [capD], by simp [capD]⟩

set_option maxHeartbeats 4000000 in
theorem And_g {t : Tr} {v : Value} {S : Nat → Prop} {w : World} (h : GivenE t v S w) : Calls Tryd.prog 33 #[v] w (OfPost andD [t] w) := by
  obtain ⟨nv, rfl, hns, hr1, hr2⟩ := h.given.read
  obtain ⟨A, c, rfl, hc, hs, _⟩ := hns.at_
  have hO : Calls Tryd.prog 60 #[.agg #[.int .u8 7, .int .u64 0, .int .u64 0, .int .u64 0, .int .u64 0, .string ⟨#[]⟩, .int .i64 0, .int .i64 0, .slice none 0 0], .slice (some ⟨w.heap.size + 2, 0, none⟩) 1 1] (((w.alloc (.cells #[.slice A t.nodes.length c, .int .i64 t.root] 34)).alloc (.cells #[.slice none 0 0, .int .i64 0] 34)).alloc (.cells #[.slice A t.nodes.length c, .int .i64 t.root] 34)) (OfPost andD [t] (((w.alloc (.cells #[.slice A t.nodes.length c, .int .i64 t.root] 34)).alloc (.cells #[.slice none 0 0, .int .i64 0] 34)).alloc (.cells #[.slice A t.nodes.length c, .int .i64 t.root] 34))) := by
    have hb : Below w.heap.size w (((w.alloc (.cells #[.slice A t.nodes.length c, .int .i64 t.root] 34)).alloc (.cells #[.slice none 0 0, .int .i64 0] 34)).alloc (.cells #[.slice A t.nodes.length c, .int .i64 t.root] 34)) := (((Below.refl _ _).alloc (Nat.le_refl _) _).alloc (by simp) _).alloc (by simp; omega) _
    have hB := Blk.new ((w.alloc (.cells #[.slice A t.nodes.length c, .int .i64 t.root] 34)).alloc (.cells #[.slice none 0 0, .int .i64 0] 34)) 34 #[.slice A t.nodes.length c, .int .i64 t.root]
    simp only [World.size_alloc] at hB
    refine ofE_g (d := andD) (ts := [t]) (kv := .slice none 0 0) (S := fun b => b < w.heap.size + 3) ⟨by decide, by decide, by decide, by decide, by decide⟩ (fun h => absurd h (by decide)) (fun h => absurd h (by decide)) ⟨?_, fun b hb => by simpa using hb, h.given.tab.below hb, h.tog.below hb, by simpa using h.less, by simp⟩ (fun t _ => Make_g t)
    exact RTrees.one (ty := 34) (t := t) (nv := .slice A t.nodes.length c) hB (by omega) ((h.given.read.below hb h.given.old).more fun b hb => by have := h.given.old b hb; omega)
  have HO := Lib.hid hO
  clear h hO hns
  go_enter Tryd.func33, Tryd.ntmps33
  go_wp2_with fail
  refine HO.out.mono ?_
  rintro e w2 ⟨u, rfl, hu, hb2⟩
  obtain ⟨bb, hbb⟩ : ∃ bb, bb = ofEB andD [t] := ⟨_, rfl⟩
  obtain ⟨x0, hx0⟩ : ∃ x0, x0 = ofET andD [t] := ⟨_, rfl⟩
  rw [← hx0] at hu
  rw [← hbb]
  obtain ⟨A2, c2, rfl⟩ := hu.agg
  have hB2 : Blk w2 (w.heap.size + 1) 34 #[.slice none 0 0, .int .i64 0] := ((Blk.new1 _ _ _ _).alloc _).below hb2 (by simp)
  have hW2 : Below w.heap.size w w2 := ((((Below.refl _ _).alloc (Nat.le_refl _) _).alloc (by simp) _).alloc (by simp; omega) _).trans (hb2.mono (by simp; omega))
  have c0 : w2.cell? ⟨w.heap.size + 1, 0, none⟩ = some (.slice none 0 0) := hB2.cell 0
  have c1 : w2.cell? ⟨w.heap.size + 1, 1, none⟩ = some (.int .i64 0) := hB2.cell 1
  have f0 : w2.frozen? ⟨w.heap.size + 1, 0, none⟩ = false := hB2.frozen 0
  have f1 : w2.frozen? ⟨w.heap.size + 1, 1, none⟩ = false := hB2.frozen 1
  have HBZ := Lib.hid (hB2.set2 (.slice A2 x0.nodes.length c2) (.int .i64 x0.root))
  have HE := Lib.hid (end_tree (g := w.heap.size + 1) hW2 hu (by omega) (by simp))
  have HX := Lib.hid (And.intro hbb hx0)
  clear hB2 hW2 hu hb2 hbb hx0
  go_wp2_with fail
  refine bodyPost_ret (results_cell2 rfl _ _ (w.heap.size + 1) _ _ _ rfl HBZ.out Tryd.underlying34 rfl tree_size) rfl ?_
  exact (show OfPost andD [t] w _ _ from ⟨_, by rw [← HX.out.1]; rfl, by rw [← HX.out.2]; exact HE.out.1, HE.out.2⟩)

set_option maxHeartbeats 4000000 in
theorem Not_g {t : Tr} {v : Value} {S : Nat → Prop} {w : World} (h : GivenE t v S w) : Calls Tryd.prog 35 #[v] w (OfPost notD [t] w) := by
  obtain ⟨nv, rfl, hns, hr1, hr2⟩ := h.given.read
  obtain ⟨A, c, rfl, hc, hs, _⟩ := hns.at_
  have hO : Calls Tryd.prog 60 #[.agg #[.int .u8 8, .int .u64 0, .int .u64 0, .int .u64 0, .int .u64 0, .string ⟨#[]⟩, .int .i64 0, .int .i64 0, .slice none 0 0], .slice (some ⟨w.heap.size + 2, 0, none⟩) 1 1] (((w.alloc (.cells #[.slice A t.nodes.length c, .int .i64 t.root] 34)).alloc (.cells #[.slice none 0 0, .int .i64 0] 34)).alloc (.cells #[.slice A t.nodes.length c, .int .i64 t.root] 34)) (OfPost notD [t] (((w.alloc (.cells #[.slice A t.nodes.length c, .int .i64 t.root] 34)).alloc (.cells #[.slice none 0 0, .int .i64 0] 34)).alloc (.cells #[.slice A t.nodes.length c, .int .i64 t.root] 34))) := by
    have hb : Below w.heap.size w (((w.alloc (.cells #[.slice A t.nodes.length c, .int .i64 t.root] 34)).alloc (.cells #[.slice none 0 0, .int .i64 0] 34)).alloc (.cells #[.slice A t.nodes.length c, .int .i64 t.root] 34)) := (((Below.refl _ _).alloc (Nat.le_refl _) _).alloc (by simp) _).alloc (by simp; omega) _
    have hB := Blk.new ((w.alloc (.cells #[.slice A t.nodes.length c, .int .i64 t.root] 34)).alloc (.cells #[.slice none 0 0, .int .i64 0] 34)) 34 #[.slice A t.nodes.length c, .int .i64 t.root]
    simp only [World.size_alloc] at hB
    refine ofE_g (d := notD) (ts := [t]) (kv := .slice none 0 0) (S := fun b => b < w.heap.size + 3) ⟨by decide, by decide, by decide, by decide, by decide⟩ (fun h => absurd h (by decide)) (fun h => absurd h (by decide)) ⟨?_, fun b hb => by simpa using hb, h.given.tab.below hb, h.tog.below hb, by simpa using h.less, by simp⟩ (fun t _ => Make_g t)
    exact RTrees.one (ty := 34) (t := t) (nv := .slice A t.nodes.length c) hB (by omega) ((h.given.read.below hb h.given.old).more fun b hb => by have := h.given.old b hb; omega)
  have HO := Lib.hid hO
  clear h hO hns
  go_enter Tryd.func35, Tryd.ntmps35
  go_wp2_with fail
  refine HO.out.mono ?_
  rintro e w2 ⟨u, rfl, hu, hb2⟩
  obtain ⟨bb, hbb⟩ : ∃ bb, bb = ofEB notD [t] := ⟨_, rfl⟩
  obtain ⟨x0, hx0⟩ : ∃ x0, x0 = ofET notD [t] := ⟨_, rfl⟩
  rw [← hx0] at hu
  rw [← hbb]
  obtain ⟨A2, c2, rfl⟩ := hu.agg
  have hB2 : Blk w2 (w.heap.size + 1) 34 #[.slice none 0 0, .int .i64 0] := ((Blk.new1 _ _ _ _).alloc _).below hb2 (by simp)
  have hW2 : Below w.heap.size w w2 := ((((Below.refl _ _).alloc (Nat.le_refl _) _).alloc (by simp) _).alloc (by simp; omega) _).trans (hb2.mono (by simp; omega))
  have c0 : w2.cell? ⟨w.heap.size + 1, 0, none⟩ = some (.slice none 0 0) := hB2.cell 0
  have c1 : w2.cell? ⟨w.heap.size + 1, 1, none⟩ = some (.int .i64 0) := hB2.cell 1
  have f0 : w2.frozen? ⟨w.heap.size + 1, 0, none⟩ = false := hB2.frozen 0
  have f1 : w2.frozen? ⟨w.heap.size + 1, 1, none⟩ = false := hB2.frozen 1
  have HBZ := Lib.hid (hB2.set2 (.slice A2 x0.nodes.length c2) (.int .i64 x0.root))
  have HE := Lib.hid (end_tree (g := w.heap.size + 1) hW2 hu (by omega) (by simp))
  have HX := Lib.hid (And.intro hbb hx0)
  clear hB2 hW2 hu hb2 hbb hx0
  go_wp2_with fail
  refine bodyPost_ret (results_cell2 rfl _ _ (w.heap.size + 1) _ _ _ rfl HBZ.out Tryd.underlying34 rfl tree_size) rfl ?_
  exact (show OfPost notD [t] w _ _ from ⟨_, by rw [← HX.out.1]; rfl, by rw [← HX.out.2]; exact HE.out.1, HE.out.2⟩)

set_option maxHeartbeats 4000000 in
theorem Rep_g {mn mx : Int} {t : Tr} {v : Value} {S : Nat → Prop} {w : World} (hmn : -9223372036854775808 ≤ mn ∧ mn ≤ 9223372036854775807) (hmx : -9223372036854775808 ≤ mx ∧ mx ≤ 9223372036854775807) (h : GivenE t v S w) : Calls Tryd.prog 31 #[v, .int .i64 mn, .int .i64 mx] w (OfPost (repD mn mx) [t] w) := by
  obtain ⟨nv, rfl, hns, hr1, hr2⟩ := h.given.read
  obtain ⟨A, c, rfl, hc, hs, _⟩ := hns.at_
  have hO : Calls Tryd.prog 60 #[.agg #[.int .u8 6, .int .u64 0, .int .u64 0, .int .u64 0, .int .u64 0, .string ⟨#[]⟩, .int .i64 mn, .int .i64 mx, .slice none 0 0], .slice (some ⟨w.heap.size + 2, 0, none⟩) 1 1] (((w.alloc (.cells #[.slice A t.nodes.length c, .int .i64 t.root] 34)).alloc (.cells #[.slice none 0 0, .int .i64 0] 34)).alloc (.cells #[.slice A t.nodes.length c, .int .i64 t.root] 34)) (OfPost (repD mn mx) [t] (((w.alloc (.cells #[.slice A t.nodes.length c, .int .i64 t.root] 34)).alloc (.cells #[.slice none 0 0, .int .i64 0] 34)).alloc (.cells #[.slice A t.nodes.length c, .int .i64 t.root] 34))) := by
    have hb : Below w.heap.size w (((w.alloc (.cells #[.slice A t.nodes.length c, .int .i64 t.root] 34)).alloc (.cells #[.slice none 0 0, .int .i64 0] 34)).alloc (.cells #[.slice A t.nodes.length c, .int .i64 t.root] 34)) := (((Below.refl _ _).alloc (Nat.le_refl _) _).alloc (by simp) _).alloc (by simp; omega) _
    have hB := Blk.new ((w.alloc (.cells #[.slice A t.nodes.length c, .int .i64 t.root] 34)).alloc (.cells #[.slice none 0 0, .int .i64 0] 34)) 34 #[.slice A t.nodes.length c, .int .i64 t.root]
    simp only [World.size_alloc] at hB
    refine ofE_g (d := (repD mn mx)) (ts := [t]) (kv := .slice none 0 0) (S := fun b => b < w.heap.size + 3) (repD_ok hmn hmx) (fun h => absurd h (by simp [repD])) (fun h => absurd h (by simp [repD])) ⟨?_, fun b hb => by simpa using hb, h.given.tab.below hb, h.tog.below hb, by simpa using h.less, by simp⟩ (fun t _ => Make_g t)
    exact RTrees.one (ty := 34) (t := t) (nv := .slice A t.nodes.length c) hB (by omega) ((h.given.read.below hb h.given.old).more fun b hb => by have := h.given.old b hb; omega)
  have HO := Lib.hid hO
  clear h hO hns
  go_enter Tryd.func31, Tryd.ntmps31
  go_wp2_with fail
  refine HO.out.mono ?_
  rintro e w2 ⟨u, rfl, hu, hb2⟩
  obtain ⟨bb, hbb⟩ : ∃ bb, bb = ofEB (repD mn mx) [t] := ⟨_, rfl⟩
  obtain ⟨x0, hx0⟩ : ∃ x0, x0 = ofET (repD mn mx) [t] := ⟨_, rfl⟩
  rw [← hx0] at hu
  rw [← hbb]
  obtain ⟨A2, c2, rfl⟩ := hu.agg
  have hB2 : Blk w2 (w.heap.size + 1) 34 #[.slice none 0 0, .int .i64 0] := ((Blk.new1 _ _ _ _).alloc _).below hb2 (by simp)
  have hW2 : Below w.heap.size w w2 := ((((Below.refl _ _).alloc (Nat.le_refl _) _).alloc (by simp) _).alloc (by simp; omega) _).trans (hb2.mono (by simp; omega))
  have c0 : w2.cell? ⟨w.heap.size + 1, 0, none⟩ = some (.slice none 0 0) := hB2.cell 0
  have c1 : w2.cell? ⟨w.heap.size + 1, 1, none⟩ = some (.int .i64 0) := hB2.cell 1
  have f0 : w2.frozen? ⟨w.heap.size + 1, 0, none⟩ = false := hB2.frozen 0
  have f1 : w2.frozen? ⟨w.heap.size + 1, 1, none⟩ = false := hB2.frozen 1
  have HBZ := Lib.hid (hB2.set2 (.slice A2 x0.nodes.length c2) (.int .i64 x0.root))
  have HE := Lib.hid (end_tree (g := w.heap.size + 1) hW2 hu (by omega) (by simp))
  have HX := Lib.hid (And.intro hbb hx0)
  clear hB2 hW2 hu hb2 hbb hx0
  go_wp2_with fail
  refine bodyPost_ret (results_cell2 rfl _ _ (w.heap.size + 1) _ _ _ rfl HBZ.out Tryd.underlying34 rfl tree_size) rfl ?_
  exact (show OfPost (repD mn mx) [t] w _ _ from ⟨_, by rw [← HX.out.1]; rfl, by rw [← HX.out.2]; exact HE.out.1, HE.out.2⟩)

set_option maxHeartbeats 4000000 in
theorem Cap_g {s : List UInt8} {t : Tr} {v : Value} {S : Nat → Prop} {w : World} (hsl : s.length ≤ maxLen) (h : GivenE t v S w) : Calls Tryd.prog 37 #[.string ⟨s.toArray⟩, v] w (OfPost (capD s) [t] w) := by
  obtain ⟨nv, rfl, hns, hr1, hr2⟩ := h.given.read
  obtain ⟨A, c, rfl, hc, hs, _⟩ := hns.at_
  have hO : Calls Tryd.prog 60 #[.agg #[.int .u8 9, .int .u64 0, .int .u64 0, .int .u64 0, .int .u64 0, .string ⟨s.toArray⟩, .int .i64 0, .int .i64 0, .slice none 0 0], .slice (some ⟨w.heap.size + 2, 0, none⟩) 1 1] (((w.alloc (.cells #[.slice A t.nodes.length c, .int .i64 t.root] 34)).alloc (.cells #[.slice none 0 0, .int .i64 0] 34)).alloc (.cells #[.slice A t.nodes.length c, .int .i64 t.root] 34)) (OfPost (capD s) [t] (((w.alloc (.cells #[.slice A t.nodes.length c, .int .i64 t.root] 34)).alloc (.cells #[.slice none 0 0, .int .i64 0] 34)).alloc (.cells #[.slice A t.nodes.length c, .int .i64 t.root] 34))) := by
    have hb : Below w.heap.size w (((w.alloc (.cells #[.slice A t.nodes.length c, .int .i64 t.root] 34)).alloc (.cells #[.slice none 0 0, .int .i64 0] 34)).alloc (.cells #[.slice A t.nodes.length c, .int .i64 t.root] 34)) := (((Below.refl _ _).alloc (Nat.le_refl _) _).alloc (by simp) _).alloc (by simp; omega) _
    have hB := Blk.new ((w.alloc (.cells #[.slice A t.nodes.length c, .int .i64 t.root] 34)).alloc (.cells #[.slice none 0 0, .int .i64 0] 34)) 34 #[.slice A t.nodes.length c, .int .i64 t.root]
    simp only [World.size_alloc] at hB
    refine ofE_g (d := (capD s)) (ts := [t]) (kv := .slice none 0 0) (S := fun b => b < w.heap.size + 3) (capD_ok hsl) (fun h => absurd h (by simp [capD])) (fun h => absurd h (by simp [capD])) ⟨?_, fun b hb => by simpa using hb, h.given.tab.below hb, h.tog.below hb, by simpa using h.less, by simp⟩ (fun t _ => Make_g t)
    exact RTrees.one (ty := 34) (t := t) (nv := .slice A t.nodes.length c) hB (by omega) ((h.given.read.below hb h.given.old).more fun b hb => by have := h.given.old b hb; omega)
  have HO := Lib.hid hO
  clear h hO hns
  go_enter Tryd.func37, Tryd.ntmps37
  go_wp2_with fail
  refine HO.out.mono ?_
  rintro e w2 ⟨u, rfl, hu, hb2⟩
  obtain ⟨bb, hbb⟩ : ∃ bb, bb = ofEB (capD s) [t] := ⟨_, rfl⟩
  obtain ⟨x0, hx0⟩ : ∃ x0, x0 = ofET (capD s) [t] := ⟨_, rfl⟩
  rw [← hx0] at hu
  rw [← hbb]
  obtain ⟨A2, c2, rfl⟩ := hu.agg
  have hB2 : Blk w2 (w.heap.size + 1) 34 #[.slice none 0 0, .int .i64 0] := ((Blk.new1 _ _ _ _).alloc _).below hb2 (by simp)
  have hW2 : Below w.heap.size w w2 := ((((Below.refl _ _).alloc (Nat.le_refl _) _).alloc (by simp) _).alloc (by simp; omega) _).trans (hb2.mono (by simp; omega))
  have c0 : w2.cell? ⟨w.heap.size + 1, 0, none⟩ = some (.slice none 0 0) := hB2.cell 0
  have c1 : w2.cell? ⟨w.heap.size + 1, 1, none⟩ = some (.int .i64 0) := hB2.cell 1
  have f0 : w2.frozen? ⟨w.heap.size + 1, 0, none⟩ = false := hB2.frozen 0
  have f1 : w2.frozen? ⟨w.heap.size + 1, 1, none⟩ = false := hB2.frozen 1
  have HBZ := Lib.hid (hB2.set2 (.slice A2 x0.nodes.length c2) (.int .i64 x0.root))
  have HE := Lib.hid (end_tree (g := w.heap.size + 1) hW2 hu (by omega) (by simp))
  have HX := Lib.hid (And.intro hbb hx0)
  clear hB2 hW2 hu hb2 hbb hx0
  go_wp2_with fail
  refine bodyPost_ret (results_cell2 rfl _ _ (w.heap.size + 1) _ _ _ rfl HBZ.out Tryd.underlying34 rfl tree_size) rfl ?_
  exact (show OfPost (capD s) [t] w _ _ from ⟨_, by rw [← HX.out.1]; rfl, by rw [← HX.out.2]; exact HE.out.1, HE.out.2⟩)
end Go.Proofs.YtclfpjfjebheoaaDoor
/- The contracts of expr.Normal, opened, Ways. -/
namespace Go.Proofs.YtclfpjfjebheoaaDoor
set_option linter.unusedSimpArgs false
open Go.RowKit
open Classical

theorem XTree.givenE {w : World} {X : Nat → Prop} {v : Value} {t : Tr} (h : XTree w X v t) (hk : KTab w) (ht : TogTab w) (hl : t.nodes.length ≤ 100000) : GivenE t v (fun b => X b ∧ b < w.heap.size ∧ Soft w b) w :=
  ⟨⟨h, fun b h => h.2.1, hk, by omega⟩, ht, hl⟩

set_option maxHeartbeats 4000000 in
theorem Normal_g {t : Tr} {v : Value} {S : Nat → Prop} {w : World} (h : GivenE t v S w) : Calls Tryd.prog 42 #[v] w fun e w' => e = .returned (.bool (decide (RightT t ∧ SameT (nfTr t) t))) ∧ Below w.heap.size w w' := by
  obtain ⟨nv, rfl, hns, hr1, hr2⟩ := h.given.read
  obtain ⟨A, c, rfl, hc, hs, _⟩ := hns.at_
  have hb1 : Below w.heap.size w (w.alloc (.cells #[.slice A t.nodes.length c, .int .i64 t.root] 34)) := (Below.refl _ _).alloc (Nat.le_refl _) _
  have hM := Make_g t _ S _ (h.below hb1)
  have HM := Lib.hid hM
  have HG := Lib.hid h
  clear h hM hns
  go_enter Tryd.func42, Tryd.ntmps42
  go_wp2_with fail
  refine HM.out.mono ?_
  rintro e w2 ⟨u, rfl, hu, hb2⟩
  have hB2 : Blk w2 w.heap.size 34 #[.slice A t.nodes.length c, .int .i64 t.root] := (Blk.new w _ _).below hb2 (by simp)
  have hW2 : Below w.heap.size w w2 := hb1.trans (hb2.mono (by simp))
  have hs2 : w.heap.size < w2.heap.size := hB2.lt
  obtain ⟨x0, hx0⟩ : ∃ x0, x0 = nfTr t := ⟨_, rfl⟩
  rw [← hx0] at hu
  obtain ⟨A2, c2, rfl⟩ := hu.agg
  have HU := Lib.hid hu
  have HW2 := Lib.hid hW2
  have HX := Lib.hid hx0
  by_cases hr : RightT t
  · rw [decide_eq_true hr]
    have hb3 : Below w2.heap.size w2 (w2.alloc (.cells #[.slice A2 x0.nodes.length c2, .int .i64 x0.root] 34)) := (Below.refl _ _).alloc (Nat.le_refl _) _
    have hB3 : Blk (w2.alloc (.cells #[.slice A2 x0.nodes.length c2, .int .i64 x0.root] 34)) w2.heap.size 34 #[.slice A2 x0.nodes.length c2, .int .i64 x0.root] := Blk.new w2 _ _
    have hB3t := hB2.below hb3 hs2
    have d0 : ((w2.alloc (.cells #[.slice A2 x0.nodes.length c2, .int .i64 x0.root] 34))).cell? ⟨w2.heap.size, 0, none⟩ = some (.slice A2 x0.nodes.length c2) := hB3.cell 0
    have d1 : ((w2.alloc (.cells #[.slice A2 x0.nodes.length c2, .int .i64 x0.root] 34))).cell? ⟨w2.heap.size, 1, none⟩ = some (.int .i64 x0.root) := hB3.cell 1
    have e0 : ((w2.alloc (.cells #[.slice A2 x0.nodes.length c2, .int .i64 x0.root] 34))).cell? ⟨w.heap.size, 0, none⟩ = some (.slice A t.nodes.length c) := hB3t.cell 0
    have e1 : ((w2.alloc (.cells #[.slice A2 x0.nodes.length c2, .int .i64 x0.root] 34))).cell? ⟨w.heap.size, 1, none⟩ = some (.int .i64 t.root) := hB3t.cell 1
    have HS := Lib.hid (show Calls Tryd.prog 43 #[.agg #[.slice A2 x0.nodes.length c2, .int .i64 x0.root], .agg #[.slice A t.nodes.length c, .int .i64 t.root]] (w2.alloc (.cells #[.slice A2 x0.nodes.length c2, .int .i64 x0.root] 34)) fun e w' => e = .returned (.bool (decide (SameT x0 t))) ∧ Below ((w2.alloc (.cells #[.slice A2 x0.nodes.length c2, .int .i64 x0.root] 34))).heap.size (w2.alloc (.cells #[.slice A2 x0.nodes.length c2, .int .i64 x0.root] 34)) w' from by
      have hl := nfTr_len t
      have hl2 := HG.out.less
      have g2 := HG.out.below (HW2.out.trans (hb3.mono HW2.out.size))
      exact Same_g ((HU.out.below hb3).givenE g2.given.tab g2.tog (by rw [HX.out]; omega)).given g2.given)
    have HW3 := Lib.hid (HW2.out.trans (hb3.mono HW2.out.size))
    have HR := Lib.hid hr
    clear hb3 hB3 hB3t hu hx0 hB2 hW2 hr hb2
    go_wp2_with fail
    refine HS.out.mono ?_
    rintro e w4 ⟨rfl, hb4⟩
    have HW4 := Lib.hid (HW3.out.trans (hb4.mono HW3.out.size))
    obtain ⟨bb, hbb⟩ : ∃ bb, bb = decide (SameT x0 t) := ⟨_, rfl⟩
    rw [← hbb]
    have HBB := Lib.hid hbb
    clear hb4 hbb
    go_wp2_with fail
    go_ret
    exact ⟨by rw [HBB.out, HX.out, decide_eq_decide.2 (show SameT (nfTr t) t ↔ RightT t ∧ SameT (nfTr t) t from ⟨fun h => ⟨HR.out, h⟩, fun h => h.2⟩)]; rfl, HW4.out⟩
  · rw [decide_eq_false hr]
    have HR := Lib.hid hr
    clear hu hx0 hB2 hr hb2 hW2
    go_wp2_with fail
    go_ret
    exact ⟨by rw [decide_eq_false fun h => HR.out h.1]; rfl, HW2.out.alloc HW2.out.size _⟩

/-- What opened answers. -/
noncomputable def openedL (t : Tr) (k : Int) : List Tr := if RightT t then (if (nf (treeOf t)).d.kind = k then (nf (treeOf t)).kids.map flatT else [nfTr t]) else []
def OpenedPost (t : Tr) (k : Int) (w : World) (e : Ending) (w' : World) : Prop := ∃ u, e = .returned u ∧ OL w' w.heap.size (fun b => w.heap.size ≤ b) u (openedL t k) ∧ Below w.heap.size w w'
theorem OL.base_ {w : World} {base base' : Nat} {X : Nat → Prop} {v : Value} {ts : List Tr} (h : OL w base X v ts) (hb : base' ≤ base) : OL w base' X v ts := by
  obtain ⟨nvs, hl, hr, hn⟩ := h
  exact ⟨nvs, hl, own_more hr hb, hn⟩
theorem OL.one {w : World} {base : Nat} {X : Nat → Prop} {nv : Value} {t : Tr} (h : XTree w X (.agg #[nv, .int .i64 t.root]) t) (hb : base ≤ w.heap.size) :
    OL (w.alloc (.cells #[nv, .int .i64 t.root] 34)) base X (.slice (some ⟨w.heap.size, 0, none⟩) 1 1) [t] := by
  have hw : Below w.heap.size w (w.alloc (.cells #[nv, .int .i64 t.root] 34)) := (Below.refl _ _).alloc (Nat.le_refl _) _
  obtain ⟨nv', he, h1, h2⟩ := h
  have e : nv = nv' := by simpa using he
  subst e
  refine ⟨[nv], rfl, World.ownsRow_lit w #[nv, .int .i64 t.root] 1 hb (by decide) rfl, fun j t' nv' hj hk => ?_⟩
  match j, hj, hk with
  | 0, hj, hk =>
    simp only [List.getElem?_cons_zero, Option.some.injEq] at hj hk
    subst hj; subst hk
    exact ⟨(h1.below hw fun b hb => hb.2.1).more fun b hb => ⟨hb.1, Nat.lt_of_lt_of_le hb.2.1 hw.size, fun e => by simp [Value.ownBlock] at e; have := hb.2.1; omega, hb.2.2.below hw hb.2.1⟩, h2⟩
  | j + 1, hj, _ => simp at hj

set_option maxHeartbeats 4000000 in
theorem opened_g {t : Tr} {v : Value} {S : Nat → Prop} {w : World} {k : Int} (h : GivenE t v S w) : Calls Tryd.prog 63 #[v, .int .u8 k] w (OpenedPost t k w) := by
  obtain ⟨nv, rfl, hns, hr1, hr2⟩ := h.given.read
  obtain ⟨A, c, rfl, hc, hs, _⟩ := hns.at_
  have hb1 : Below w.heap.size w (w.alloc (.cells #[.slice A t.nodes.length c, .int .i64 t.root] 34)) := (Below.refl _ _).alloc (Nat.le_refl _) _
  have hM := Make_g t _ S _ (h.below hb1)
  have HM := Lib.hid hM
  have HG := Lib.hid h
  have hfn := field_kind
  clear h hM hns
  go_enter Tryd.func63, Tryd.ntmps63
  go_wp2_with fail
  refine HM.out.mono ?_
  rintro e w2 ⟨u, rfl, hu, hb2⟩
  have hW2 : Below w.heap.size w w2 := hb1.trans (hb2.mono (by simp))
  have hu : XTree w2 (fun b => w.heap.size ≤ b) u (nfTr t) := hu.weaken fun b hb _ => by simp at hb; omega
  obtain ⟨x0, hx0⟩ : ∃ x0, x0 = nfTr t := ⟨_, rfl⟩
  rw [← hx0] at hu
  obtain ⟨A2, c2, rfl⟩ := hu.agg
  have HU := Lib.hid hu
  have HW2 := Lib.hid hW2
  have HX := Lib.hid hx0
  by_cases hr : RightT t
  · rw [decide_eq_true hr]
    have HR := Lib.hid hr
    have hb3 : Below w2.heap.size w2 (w2.alloc (.cells #[.slice A2 x0.nodes.length c2, .int .i64 x0.root] 34)) := (Below.refl _ _).alloc (Nat.le_refl _) _
    have hB3 : Blk (w2.alloc (.cells #[.slice A2 x0.nodes.length c2, .int .i64 x0.root] 34)) w2.heap.size 34 #[.slice A2 x0.nodes.length c2, .int .i64 x0.root] := Blk.new w2 _ _
    have d0 : ((w2.alloc (.cells #[.slice A2 x0.nodes.length c2, .int .i64 x0.root] 34))).cell? ⟨w2.heap.size, 0, none⟩ = some (.slice A2 x0.nodes.length c2) := hB3.cell 0
    have d1 : ((w2.alloc (.cells #[.slice A2 x0.nodes.length c2, .int .i64 x0.root] 34))).cell? ⟨w2.heap.size, 1, none⟩ = some (.int .i64 x0.root) := hB3.cell 1
    obtain ⟨y, hy⟩ : ∃ y, y = nf (treeOf t) := ⟨_, rfl⟩
    have hyf : FitT y := by rw [hy]; exact nf_fit _ hr.fitT
    have hxy : x0 = flatT y := by rw [hx0, hy]; exact if_pos hr
    have hG3 : ∀ wx, Below ((w2.alloc (.cells #[.slice A2 x0.nodes.length c2, .int .i64 x0.root] 34))).heap.size (w2.alloc (.cells #[.slice A2 x0.nodes.length c2, .int .i64 x0.root] 34)) wx → Given x0 (.agg #[.slice A2 x0.nodes.length c2, .int .i64 x0.root]) (fun b => w.heap.size ≤ b ∧ b < wx.heap.size ∧ Soft wx b) wx := fun wx hx => by
      have hl := nfTr_len t
      have hl2 := HG.out.less
      have hwx := hb3.trans (hx.mono hb3.size)
      have g2 := HG.out.below (HW2.out.trans (hwx.mono HW2.out.size))
      exact ((HU.out.below hwx).givenE g2.given.tab g2.tog (by rw [HX.out]; omega)).given
    have HRT := Lib.hid (show Calls Tryd.prog 41 #[.agg #[.slice A2 x0.nodes.length c2, .int .i64 x0.root]] (w2.alloc (.cells #[.slice A2 x0.nodes.length c2, .int .i64 x0.root] 34)) fun e w' => e = .returned (.agg #[.int .u8 y.d.kind, .int .u64 y.d.s0, .int .u64 y.d.s1, .int .u64 y.d.s2, .int .u64 y.d.s3, .string ⟨y.d.text.toArray⟩, .int .i64 y.d.min, .int .i64 y.d.max, .slice none 0 0]) ∧ Below ((w2.alloc (.cells #[.slice A2 x0.nodes.length c2, .int .i64 x0.root] 34))).heap.size (w2.alloc (.cells #[.slice A2 x0.nodes.length c2, .int .i64 x0.root] 34)) w' from by
      refine (Root_g (hG3 _ (Below.refl _ _))).mono ?_
      rintro e w' ⟨⟨N, rfl, hN⟩, hb⟩
      rw [hxy, root_flat_of y hyf] at hN
      subst hN
      exact ⟨rfl, hb⟩)
    have HKD := Lib.hid (show ∀ wx, Below ((w2.alloc (.cells #[.slice A2 x0.nodes.length c2, .int .i64 x0.root] 34))).heap.size (w2.alloc (.cells #[.slice A2 x0.nodes.length c2, .int .i64 x0.root] 34)) wx → Calls Tryd.prog 61 #[.agg #[.slice A2 x0.nodes.length c2, .int .i64 x0.root]] wx fun e w' => (∃ u, e = .returned u ∧ OL w' wx.heap.size (fun b => wx.heap.size ≤ b) u (y.kids.map flatT)) ∧ Below wx.heap.size wx w' from fun wx hx => by
      refine (Kids_g (hG3 wx hx)).mono ?_
      rintro e w' ⟨u, rfl, hu, hb⟩
      rw [hxy, kids_flat_of y hyf] at hu
      exact ⟨⟨u, rfl, hu⟩, hb⟩)
    have HY := Lib.hid hy
    have HB3 := Lib.hid hB3
    have HW3 := Lib.hid (HW2.out.trans (hb3.mono HW2.out.size))
    clear hb3 hB3 hu hx0 hW2 hr hb2 hy hyf hxy hG3
    go_wp2_with fail
    refine HRT.out.mono ?_
    rintro e w4 ⟨rfl, hb4⟩
    have hB4 := HB3.out.below hb4 HB3.out.lt
    have f0 : w4.cell? ⟨w2.heap.size, 0, none⟩ = some (.slice A2 x0.nodes.length c2) := hB4.cell 0
    have f1 : w4.cell? ⟨w2.heap.size, 1, none⟩ = some (.int .i64 x0.root) := hB4.cell 1
    have HW4 := Lib.hid (HW3.out.trans (hb4.mono HW3.out.size))
    have HKD4 := Lib.hid (HKD.out _ hb4)
    have HU4 := Lib.hid (HU.out.below (((Below.refl _ _).alloc (Nat.le_refl _) _).trans (hb4.mono (by simp))))
    clear hb4 hB4 d0 d1
    by_cases hk : y.d.kind = k
    · have hkd : (y.d.kind == k) = true := beq_iff_eq.2 hk
      have HK := Lib.hid hk
      clear hk
      go_wp2_with fail
      refine HKD4.out.mono ?_
      rintro e w5 ⟨⟨u, rfl, hu⟩, hb5⟩
      have HU5 := Lib.hid hu
      have HW5 := Lib.hid (HW4.out.trans (hb5.mono HW4.out.size))
      clear hu hb5
      go_wp2_with fail
      go_ret
      refine ⟨_, rfl, ?_, HW5.out⟩
      rw [openedL, if_pos HR.out, ← HY.out, if_pos HK.out]
      exact (OL.base_ HU5.out HW4.out.size).weaken fun b hb => Nat.le_trans HW4.out.size hb
    · have hkd : (y.d.kind == k) = false := beq_eq_false_iff_ne.2 hk
      have HK := Lib.hid hk
      clear hk
      go_wp2_with fail
      go_ret
      refine ⟨_, rfl, ?_, HW4.out.alloc HW4.out.size _⟩
      rw [openedL, if_pos HR.out, ← HY.out, if_neg HK.out, ← HX.out]
      exact OL.one HU4.out HW4.out.size
  · rw [decide_eq_false hr]
    have HR := Lib.hid hr
    clear hu hx0 hr hb2 hW2
    go_wp2_with fail
    go_ret
    refine ⟨_, rfl, ?_, HW2.out.alloc HW2.out.size _⟩
    rw [openedL, if_neg HR.out]
    exact OL.nil_ _ _ _
end Go.Proofs.YtclfpjfjebheoaaDoor
/- The contracts of expr.Ways, Parts$1 and slices.IndexFunc, DeleteFunc of it. -/
namespace Go.Proofs.YtclfpjfjebheoaaDoor
set_option linter.unusedSimpArgs false
open Go.RowKit
open Classical

set_option maxHeartbeats 4000000 in
theorem Ways_g {t : Tr} {v : Value} {S : Nat → Prop} {w : World} (h : GivenE t v S w) : Calls Tryd.prog 25 #[v] w (OpenedPost t 5 w) := by
  obtain ⟨nv, rfl, hns, hr1, hr2⟩ := h.given.read
  obtain ⟨A, c, rfl, hc, hs, _⟩ := hns.at_
  have hb1 : Below w.heap.size w (w.alloc (.cells #[.slice A t.nodes.length c, .int .i64 t.root] 34)) := (Below.refl _ _).alloc (Nat.le_refl _) _
  have HO := Lib.hid (opened_g (k := 5) (h.below hb1))
  clear h hns
  go_enter Tryd.func25, Tryd.ntmps25
  go_wp2_with fail
  refine HO.out.mono ?_
  rintro e w2 ⟨u, rfl, hu, hb2⟩
  have HU := Lib.hid ((hu.base_ (base' := w.heap.size) (by simp)).weaken (Y := fun b => w.heap.size ≤ b) fun b hb => by simp at hb; omega)
  have HW := Lib.hid (hb1.trans (hb2.mono (by simp)))
  clear hu hb2
  go_wp2_with fail
  go_ret
  exact ⟨_, rfl, HU.out, HW.out⟩

/-- Is a tree's root of kind 0? -/
def Nil0 (t : Tr) : Prop := (rootOf t).d.kind = 0
set_option maxHeartbeats 4000000 in
theorem emptyf_g {t : Tr} {v : Value} {S : Nat → Prop} {w : World} (h : Given t v S w) :
    Calls Tryd.prog 64 #[v] w fun e w' => e = .returned (.bool (decide (Nil0 t))) ∧ Below w.heap.size w w' := by
  have hb1 : ∀ cs, Below w.heap.size w (w.alloc cs) := fun cs => (Below.refl _ _).alloc (Nat.le_refl _) _
  have hR : ∀ wx, Below w.heap.size w wx → Calls Tryd.prog 41 #[v] wx fun e w' => e = .returned (.agg #[.int .u8 (rootOf t).d.kind, .int .u64 (rootOf t).d.s0, .int .u64 (rootOf t).d.s1, .int .u64 (rootOf t).d.s2, .int .u64 (rootOf t).d.s3, .string ⟨(rootOf t).d.text.toArray⟩, .int .i64 (rootOf t).d.min, .int .i64 (rootOf t).d.max, .slice none 0 0]) ∧ Below wx.heap.size wx w' := fun wx hx => by
    refine (Root_g (h.below hx)).mono ?_
    rintro e w' ⟨⟨N, rfl, rfl⟩, hb⟩
    exact ⟨rfl, hb⟩
  have HR := Lib.hid hR
  obtain ⟨nv, rfl, hns, hr1, hr2⟩ := h.read
  obtain ⟨A, c, rfl, hc, hs, _⟩ := hns.at_
  obtain ⟨N, hN⟩ : ∃ N, N = rootOf t := ⟨_, rfl⟩
  rw [← hN] at HR
  have HN := Lib.hid hN
  have hfn := field_kind
  clear h hns hR hN
  go_enter Tryd.func64, Tryd.ntmps64
  go_wp2_with fail
  refine (HR.out _ (hb1 _)).mono ?_
  rintro e w2 ⟨rfl, hb2⟩
  have HW := Lib.hid ((hb1 _).trans (hb2.mono (by simp)))
  clear hb2 hb1
  go_wp2_with fail
  go_ret
  refine ⟨?_, HW.out⟩
  have : (N.d.kind == 0) = decide (Nil0 t) := by
    unfold Nil0
    rw [← HN.out]
    by_cases hk : N.d.kind = 0
    · exact (beq_iff_eq.2 hk).trans (@decide_eq_true _ (propDecidable _) hk).symm
    · exact (beq_eq_false_iff_ne.2 hk).trans (@decide_eq_false _ (propDecidable _) hk).symm
  rw [← this]; rfl

set_option maxHeartbeats 2000000 in
theorem indexe_g {ts : List Tr} {v : Value} {S : Nat → Prop} {w : World} (h : GivenL ts v S w) :
    Calls Tryd.prog 81 #[v, .func (.func 64) #[] #[]] w fun e w' => (∃ r : Int, e = .returned (.int .i64 r) ∧ ((r = -1 ∧ ∀ t ∈ ts, ¬ Nil0 t) ∨ ((∃ k : Nat, k < ts.length ∧ r = k) ∧ ∃ t ∈ ts, Nil0 t))) ∧ Below w.heap.size w w' := by
  obtain ⟨A, c, rfl, hc, hs, _⟩ := h.read.at_
  have hf := h.few
  have HG := Lib.hid h
  clear h
  go_enter Tryd.func81, Tryd.ntmps81
  go_wp2
  go_loopw [8] (fun i wr => ∃ k : Nat, k ≤ ts.length ∧ i = .int .i64 k ∧ Hid (∀ t ∈ ts.take k, ¬ Nil0 t) ∧ Hid (Below w.heap.size w wr)) (fun i _ => ts.length - (intOf i).toNat)
  case atStart => exact ⟨0, Nat.zero_le _, rfl, Lib.hid (by simp), Lib.hid (Below.refl _ _)⟩
  case round =>
    obtain ⟨k, hk, rfl, HA, HB⟩ := hrel
    by_cases hlt : k < ts.length
    · obtain ⟨t, ht⟩ : ∃ t, ts[k]? = some t := ⟨_, List.getElem?_eq_getElem hlt⟩
      obtain ⟨b, off, Ak, ck, rfl, hbS, hg, c0, c1⟩ := (HG.out.below HB.out).at_ k t ht
      have HO := Lib.hid (emptyf_g hg)
      have HT := Lib.hid ht
      clear hg ht
      by_cases hr : Nil0 t
      · rw [decide_eq_true hr] at HO
        have HEX := Lib.hid (show ∃ x ∈ ts, Nil0 x from ⟨t, List.mem_of_getElem? HT.out, hr⟩)
        clear hr
        go_wp2_with (go_at_call 64; refine HO.out.mono ?_; rintro e w1 ⟨rfl, hb1⟩)
        go_ret
        exact ⟨⟨_, rfl, .inr ⟨⟨k, hlt, rfl⟩, HEX.out⟩⟩, HB.out.trans (hb1.mono HB.out.size)⟩
      · rw [decide_eq_false hr] at HO
        have hall : ∀ x ∈ ts.take (k + 1), ¬ Nil0 x := by
          intro x hx
          rw [List.take_add_one, HT.out] at hx
          rcases List.mem_append.1 hx with hx | hx
          · exact HA.out x hx
          · simp at hx; subst hx; exact hr
        have HALL := Lib.hid hall
        clear hall hr
        go_wp2_with (go_at_call 64; refine HO.out.mono ?_; rintro e w1 ⟨rfl, hb1⟩)
        go_roundw
        case rel => exact ⟨k + 1, by omega, by go_num, HALL, Lib.hid (HB.out.trans (hb1.mono HB.out.size))⟩
        case measure => simp [intOf]; omega
    · have hke : ts.take k = ts := List.take_of_length_le (by omega)
      have HNO := Lib.hid (show ∀ x ∈ ts, ¬ Nil0 x from fun x hx => HA.out x (by rw [hke]; exact hx))
      clear hke
      go_wp2
      go_ret
      exact ⟨⟨_, rfl, .inl ⟨rfl, HNO.out⟩⟩, HB.out⟩

set_option maxHeartbeats 2000000 in
theorem deleteA_g {ts : List Tr} {v : Value} {S : Nat → Prop} {w : World} (h : GivenL ts v S w) (hno : ∀ t ∈ ts, ¬ Nil0 t) :
    Calls Tryd.prog 62 #[v, .func (.func 64) #[] #[]] w fun e w' => e = .returned v ∧ Below w.heap.size w w' := by
  obtain ⟨A, c, rfl, hc, hs, _⟩ := h.read.at_
  have HI := Lib.hid (indexe_g h)
  have HNO := Lib.hid hno
  clear h hno
  go_enter Tryd.func62, Tryd.ntmps62
  go_wp2_with fail
  refine HI.out.mono ?_
  rintro e w2 ⟨⟨r, rfl, hr⟩, hb2⟩
  have hr1 : r = -1 := by
    rcases hr with h | ⟨_, x, hx, hn⟩
    · exact h.1
    · exact absurd hn (HNO.out x hx)
  subst hr1
  clear hr
  go_wp2_with fail
  go_ret
  exact ⟨rfl, hb2⟩

theorem clear_tree (w : World) (ty : TypeId) {g c : Nat} {x y : Value} (c0 : w.cell? ⟨g, 0, none⟩ = some x) (c1 : w.cell? ⟨g, 1, none⟩ = some y) (f0 : w.frozen? ⟨g, 0, none⟩ = false) (f1 : w.frozen? ⟨g, 1, none⟩ = false) :
    (Builtin.clear_ #[48] ty #[.slice (some ⟨g, 0, none⟩) 1 c]).run Tryd.prog w = .ok (.tuple #[]) (w.setCells g 0 [.slice none 0 0, .int .i64 0]) := by
  have hst := run_storeCells_cells (P := Tryd.prog) g 0 [.slice none 0 0, .int .i64 0] 0 w (by intro j hj; match j, hj with | 0, _ => simp [c0] | 1, _ => simp [c1] | j + 2, h => simp at h; omega)
    (by intro j hj; match j, hj with | 0, _ => simp [f0] | 1, _ => simp [f1] | j + 2, h => simp at h; omega) (by intro v hv; simp at hv; rcases hv with rfl | rfl <;> rfl)
  simp only [Nat.add_zero] at hst
  have hv : ∀ w, (zeroValue 34).run Tryd.prog w = .ok (.agg #[.slice none 0 0, .int .i64 0]) w := fun w => by kernel_rfl
  have hz : (Builtin.zeroCells (Value.agg #[.slice none 0 0, .int .i64 0]).cells 1).toList = [.slice none 0 0, .int .i64 0] := by kernel_rfl
  have ht := Tryd.underlying48
  simp [Builtin.clear_, run_underlying ht, hv, hz, hst]
set_option maxRecDepth 20000 in
set_option maxHeartbeats 4000000 in
theorem deleteB_g {t : Tr} {g c B : Nat} {cur : Array Value} {S : Nat → Prop} {w : World} (h : GivenL [t] (.slice (some ⟨g, 0, none⟩) 1 c) S w) (hn : Nil0 t) (hB : Blk w g 34 cur) (hcur : 2 ≤ cur.size) (hg : B ≤ g) :
    Calls Tryd.prog 62 #[.slice (some ⟨g, 0, none⟩) 1 c, .func (.func 64) #[] #[]] w fun e w' => e = .returned (.slice (some ⟨g, 0, none⟩) 0 c) ∧ Below B w w' := by
  obtain ⟨A', c', hv, hc, hs, _⟩ := h.read.at_
  injection hv with hv1 hv2 hv3
  subst hv3
  have hc1 : 1 ≤ c := hc
  have hgw := hB.lt
  have HI := Lib.hid (indexe_g h)
  have HN := Lib.hid hn
  have HB := Lib.hid hB
  have HG := Lib.hid hg
  clear h hn hv1 hv2 hc hs
  go_enter Tryd.func62, Tryd.ntmps62
  go_wp2_with fail
  refine HI.out.mono ?_
  rintro e w2 ⟨⟨r, rfl, hr⟩, hb2⟩
  have hr1 : r = 0 := by
    rcases hr with h | ⟨⟨k, hk, h⟩, _⟩
    · exact absurd HN.out (h.2 t (by simp))
    · have : k < 1 := hk
      omega
  subst hr1
  have hB2 := HB.out.below hb2 HB.out.lt
  have c0 : w2.cell? ⟨g, 0, none⟩ = some cur[0] := (hB2.cell 0).trans (by simp)
  have c1 : w2.cell? ⟨g, 1, none⟩ = some cur[1] := (hB2.cell 1).trans (by simp)
  have f0 : w2.frozen? ⟨g, 0, none⟩ = false := hB2.frozen 0
  have f1 : w2.frozen? ⟨g, 1, none⟩ = false := hB2.frozen 1
  have HW2 := Lib.hid (hb2.mono (Nat.le_trans hg (Nat.le_of_lt hgw)))
  have hcl := clear_tree w2 0 (c := c) c0 c1 f0 f1
  clear hr hb2 hB2 hg hB c0 c1 f0 f1
  go_wp2_with fail
  go_loopw [5, 6] (fun a b wr => a = .int .i64 0 ∧ b = .int .i64 1 ∧ wr = w2) (fun _ _ _ => 0)
  case atStart => exact ⟨rfl, rfl, rfl⟩
  case round =>
    obtain ⟨rfl, rfl, rfl⟩ := hrel
    go_wp2_with fail
    go_ret
    refine ⟨rfl, ?_⟩
    simp only [World.setCells]
    exact (HW2.out.setCell HG.out _).setCell HG.out _
end Go.Proofs.YtclfpjfjebheoaaDoor
/- The contract of expr.Parts. -/
namespace Go.Proofs.YtclfpjfjebheoaaDoor
set_option linter.unusedSimpArgs false
open Go.RowKit
open Classical

/-- What Parts answers. -/
noncomputable def partsL (t : Tr) : List Tr := if RightT t then (if (nf (treeOf t)).d.kind = 4 then (nf (treeOf t)).kids.map flatT else if (nf (treeOf t)).d.kind = 0 then [] else [nfTr t]) else []
theorem nil0_flat {x : T} (h : FitT x) : Nil0 (flatT x) ↔ x.d.kind = 0 := by
  unfold Nil0; rw [root_flat_of x h]
theorem opened_size {t : Tr} {k : Int} (h : t.nodes.length ≤ 100000) : (∀ x ∈ openedL t k, x.nodes.length ≤ 500000) ∧ (openedL t k).length ≤ 500000 := by
  unfold openedL
  by_cases hr : RightT t
  · rw [if_pos hr]
    have h1 := nf_size (treeOf t)
    have h2 := hr.size
    have h3 := size_kids (nf (treeOf t))
    split
    · refine ⟨fun x hx => ?_, ?_⟩
      · obtain ⟨y, hy, rfl⟩ := List.mem_map.1 hx
        have := size_mem hy
        rw [flatT_len]; omega
      · have := sizes_len (nf (treeOf t)).kids
        rw [List.length_map]; omega
    · refine ⟨fun x hx => ?_, by simp⟩
      have : x = nfTr t := by simpa using hx
      subst this
      have := nfTr_len t
      omega
  · rw [if_neg hr]; exact ⟨fun x hx => by simp at hx, by simp⟩
theorem parts_cases (t : Tr) : ((∀ x ∈ openedL t 4, ¬ Nil0 x) ∧ partsL t = openedL t 4) ∨ (∃ x, openedL t 4 = [x] ∧ Nil0 x ∧ partsL t = []) := by
  unfold partsL openedL
  by_cases hr : RightT t
  · rw [if_pos hr, if_pos hr]
    have hf := nf_fit _ hr.fitT
    have hn := nf_nt (treeOf t)
    by_cases h4 : (nf (treeOf t)).d.kind = 4
    · rw [if_pos h4, if_pos h4]
      refine .inl ⟨fun x hx => ?_, rfl⟩
      obtain ⟨y, hy, rfl⟩ := List.mem_map.1 hx
      rw [nil0_flat (hf.kids y hy)]
      generalize nf (treeOf t) = z at *
      cases hn with
      | node d ks _ hk _ => exact (hk h4 y hy).2
    · rw [if_neg h4, if_neg h4]
      have he : nfTr t = flatT (nf (treeOf t)) := if_pos hr
      by_cases h0 : (nf (treeOf t)).d.kind = 0
      · rw [if_pos h0]
        exact .inr ⟨_, rfl, by rw [he, nil0_flat hf]; exact h0, rfl⟩
      · rw [if_neg h0]
        refine .inl ⟨fun x hx => ?_, rfl⟩
        have : x = nfTr t := by simpa using hx
        subst this
        rw [he, nil0_flat hf]; exact h0
  · rw [if_neg hr, if_neg hr]
    exact .inl ⟨fun x hx => by simp at hx, rfl⟩
theorem XL.nil_ (w : World) (lo g c : Nat) : XL w lo (.slice (some ⟨g, 0, none⟩) 0 c) [] :=
  ⟨[], rfl, ⟨by simp, by simp [maxLen], _, _, rfl, Nat.zero_le _, fun h => by simp at h⟩, fun j t nv h => by simp at h⟩
theorem OL.xl {w : World} {base : Nat} {v : Value} {ts : List Tr} (h : OL w base (fun b => base ≤ b) v ts) : XL w base v ts := OwnList.soft h

set_option maxHeartbeats 4000000 in
theorem Parts_g {t : Tr} {v : Value} {S : Nat → Prop} {w : World} (h : GivenE t v S w) : Calls Tryd.prog 24 #[v] w fun e w' => (∃ u, e = .returned u ∧ XL w' w.heap.size u (partsL t)) ∧ Below w.heap.size w w' := by
  obtain ⟨nv, rfl, hns, hr1, hr2⟩ := h.given.read
  obtain ⟨A, c, rfl, hc, hs, _⟩ := hns.at_
  have hb1 : Below w.heap.size w (w.alloc (.cells #[.slice A t.nodes.length c, .int .i64 t.root] 34)) := (Below.refl _ _).alloc (Nat.le_refl _) _
  have HO := Lib.hid (opened_g (k := 4) (h.below hb1))
  have HG := Lib.hid h
  clear h hns
  go_enter Tryd.func24, Tryd.ntmps24
  go_wp2_with fail
  refine HO.out.mono ?_
  rintro e w2 ⟨u, rfl, hu0, hb2⟩
  have hu : OL w2 w.heap.size (fun b => w.heap.size ≤ b) u (openedL t 4) := (OL.base_ hu0 (base' := w.heap.size) (by simp)).weaken fun b hb => by simp at hb; omega
  have HW := Lib.hid (hb1.trans (hb2.mono (by simp)))
  have hgl : GivenL (openedL t 4) u (fun b => w.heap.size ≤ b ∧ b < w2.heap.size ∧ Soft w2 b) w2 := ⟨hu.xl, fun b h => h.2.1, HG.out.given.tab.below HW.out, (opened_size HG.out.less).1, (opened_size HG.out.less).2⟩
  rcases parts_cases t with ⟨hno, he⟩ | ⟨x, hx, hn, he⟩
  · have HU := Lib.hid hu.xl
    have HE := Lib.hid he
    have HD := Lib.hid (deleteA_g hgl hno)
    clear hu0 hu hb2 hgl hno he
    go_wp2_with fail
    refine HD.out.mono ?_
    rintro e w3 ⟨rfl, hb3⟩
    go_wp2_with fail
    go_ret
    exact ⟨⟨_, rfl, by rw [HE.out]; exact HU.out.below hb3⟩, HW.out.trans (hb3.mono HW.out.size)⟩
  · rw [hx] at hu hgl
    obtain ⟨nvs, hl, hr, hq⟩ := hu
    rcases hr.2 with ⟨hv, h0⟩ | ⟨g, cap, cur, rfl, hg, hH, hle, hm, hsz, htk⟩
    · exact absurd h0 (by simp)
    · have hB : Blk w2 g 34 cur := hH
      have HE := Lib.hid he
      have HD := Lib.hid (deleteB_g hgl hn hB (by rw [hsz]; have : 1 ≤ cap := hle; omega) hg)
      have hgt := hB.lt
      clear hu0 hb2 hgl he hx hr hq hH htk
      go_wp2_with fail
      refine HD.out.mono ?_
      rintro e w3 ⟨rfl, hb3⟩
      go_wp2_with fail
      go_ret
      exact ⟨⟨_, rfl, by rw [HE.out]; exact XL.nil_ _ _ _ _⟩, HW.out.trans hb3⟩
end Go.Proofs.YtclfpjfjebheoaaDoor

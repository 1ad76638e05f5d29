/- The parts of a proof, merged: TrM TrN Mem Row NmM NmA NmB Lift SetEq TrA TrQ Own OwnN Shelf TrR TrW TrP TrD TrS TrU TrV -/
import Derived.Below
import Derived.Laws.OwnMore
import Derived.Deep.AppendLies
import Derived.Deep.Draws
import Derived.Laws.Rows
import Derived.Maps.AppendAt
import Derived.RegionTactic
import Derived.OwnWalk
import Derived.Laws.MakeOwn
import Derived.Laws.Entries
import Derived.Lib.Hide
import Derived.Test.YtclfpjfjebheoaaDoorChecked
import Derived.WalkKit
import Derived.WalkSpells
import Derived.WalkLawsBesides
import Derived.Lib.Strings
import Derived.ProofKit
import Derived.OpenShut
import Derived.Deep.DeepHandedRow
import Derived.Lib.LaidTab
import Derived.Stop.LaidErr
import Derived.Test.YtclfpjfjebheoaaDoorProg
import Derived.ChangeKeysEq
import Derived.Laws.StructEq
import Derived.Lib.LazyBuf
import Derived.Deep.Onto
import Derived.Maps.Views
import Derived.Maps.OwnOps
import Derived.Laws.CopyOwn
import Derived.Shelf.Slices.Reverse
import Derived.Shelf.Slices.Equal
import Derived.Shelf.Slices.Cells
import Derived.Shelf.Slices.Empties2
import Derived.Deep.RegionHeld3
import Derived.IntWalk
import Derived.Maps.OwnSet
import Derived.Laws.IdiomCopy
import Derived.Laws.ResultCell
/- Trees in arenas, in plain Lean: what an arena stands for, its rows, its clean form. No program in sight. -/
namespace Go.Proofs.YtclfpjfjebheoaaDoor

structure Dt where
  kind : Int
  s0 : Int
  s1 : Int
  s2 : Int
  s3 : Int
  text : List UInt8
  min : Int
  max : Int
deriving DecidableEq
structure Nd where
  d : Dt
  kids : List Int
deriving DecidableEq
inductive T where
  | node (d : Dt) (kids : List T)
instance : Inhabited Dt := ⟨⟨0, 0, 0, 0, 0, [], 0, 0⟩⟩
instance : Inhabited T := ⟨.node default []⟩

theorem T.ind {P : T → Prop} (h : ∀ d ks, (∀ k ∈ ks, P k) → P (.node d ks)) : ∀ t, P t
  | .node d ks => h d ks (fun k _ => T.ind h k)

mutual
def T.size : T → Nat
  | .node _ ks => 1 + sizes ks
def sizes : List T → Nat
  | [] => 0
  | t :: ts => t.size + sizes ts
end
theorem T.size_pos (t : T) : 0 < t.size := by cases t; simp only [T.size]; omega
def ends : Nat → List T → List Int
  | _, [] => []
  | o, t :: ts => (((o + t.size : Nat) : Int) - 1) :: ends (o + t.size) ts
mutual
def flatAt : Nat → T → List Nd
  | o, .node d ks => flatsAt o ks ++ [⟨d, ends o ks⟩]
def flatsAt : Nat → List T → List Nd
  | _, [] => []
  | o, t :: ts => flatAt o t ++ flatsAt (o + t.size) ts
end
mutual
def T.depth : T → Nat
  | .node _ ks => 1 + depths ks
def depths : List T → Nat
  | [] => 0
  | t :: ts => Nat.max t.depth (depths ts)
end
def T.d : T → Dt
  | .node d _ => d
def T.kids : T → List T
  | .node _ ks => ks
theorem T.eta (t : T) : t = .node t.d t.kids := by cases t; rfl

@[simp] theorem ends_length (o : Nat) (ts : List T) : (ends o ts).length = ts.length := by
  induction ts generalizing o with
  | nil => rfl
  | cons t ts ih => simp [ends, ih]
theorem flatsAt_length_of (ts : List T) (h : ∀ t ∈ ts, ∀ o, (flatAt o t).length = t.size) (o : Nat) : (flatsAt o ts).length = sizes ts := by
  induction ts generalizing o with
  | nil => rfl
  | cons t ts ih => simp [flatsAt, sizes, h t (by simp), ih (fun t ht => h t (by simp [ht]))]
@[simp] theorem flatAt_length (t : T) : ∀ o, (flatAt o t).length = t.size := by
  induction t using T.ind with
  | h d ks ih => intro o; simp [flatAt, T.size, flatsAt_length_of ks ih]; omega
@[simp] theorem flatsAt_length (ts : List T) (o : Nat) : (flatsAt o ts).length = sizes ts := flatsAt_length_of ts (fun t _ => flatAt_length t) o
theorem ends_get (o : Nat) (ts : List T) (j : Nat) (t : T) (h : ts[j]? = some t) : (ends o ts)[j]? = some (((o + sizes (ts.take j) + t.size : Nat) : Int) - 1) := by
  induction ts generalizing o j with
  | nil => simp at h
  | cons u us ih =>
    cases j with
    | zero => simp at h; subst h; simp [ends, sizes]
    | succ j =>
      simp only [List.getElem?_cons_succ] at h
      simp only [ends, List.getElem?_cons_succ, ih _ _ h, List.take_succ_cons, sizes]
      congr 2; omega
theorem sizes_append (a b : List T) : sizes (a ++ b) = sizes a + sizes b := by
  induction a with
  | nil => simp [sizes]
  | cons t ts ih => simp [sizes, ih]; omega
theorem flatsAt_append (o : Nat) (a b : List T) : flatsAt o (a ++ b) = flatsAt o a ++ flatsAt (o + sizes a) b := by
  induction a generalizing o with
  | nil => simp [flatsAt, sizes]
  | cons t ts ih => simp [flatsAt, sizes, ih, Nat.add_assoc]
theorem ends_append (o : Nat) (a b : List T) : ends o (a ++ b) = ends o a ++ ends (o + sizes a) b := by
  induction a generalizing o with
  | nil => simp [ends, sizes]
  | cons t ts ih => simp [ends, sizes, ih, Nat.add_assoc]

/-- Kids stand ahead of their node. -/
def Low (ns : List Nd) : Prop := ∀ (i : Nat) (n : Nd), ns[i]? = some n → ∀ k ∈ n.kids, 0 ≤ k ∧ k < (i : Int)

section
variable {α : Type} [Inhabited α] (g : Nat → Dt → List α → α) (ns : List Nd)
def foldF : Nat → Nat → α
  | 0, _ => default
  | f + 1, i => match ns[i]? with
    | none => default
    | some n => g i n.d (n.kids.map fun k => foldF f k.toNat)
def foldA (i : Nat) : α := foldF g ns (i + 1) i
variable {ns}
theorem foldF_more (h : Low ns) (i : Nat) : ∀ f f', i < f → i < f' → foldF g ns f i = foldF g ns f' i := by
  induction i using Nat.strongRecOn with
  | _ i ih =>
    intro f f' hf hf'
    match f, f' with
    | f + 1, f' + 1 =>
      simp only [foldF]
      cases hn : ns[i]? with
      | none => rfl
      | some n =>
        simp only
        congr 1
        refine List.map_congr_left fun k hk => ?_
        have := h i n hn k hk
        exact ih k.toNat (by omega) _ _ (by omega) (by omega)
theorem foldA_eq (h : Low ns) {i : Nat} {n : Nd} (hn : ns[i]? = some n) : foldA g ns i = g i n.d (n.kids.map fun k => foldA g ns k.toNat) := by
  unfold foldA
  rw [foldF]
  simp only [hn]
  congr 1
  refine List.map_congr_left fun k hk => ?_
  have := h i n hn k hk
  exact foldF_more g h _ _ _ (by omega) (by omega)
end

def D (ns : List Nd) (i : Nat) : T := foldA (fun _ d ks => T.node d ks) ns i
def pre (ns : List Nd) (i : Nat) : List Int := foldA (fun i _ ls => (i : Int) :: ls.flatten) ns i
def post (ns : List Nd) (i : Nat) : List Int := foldA (fun i _ ls => ls.flatten ++ [(i : Int)]) ns i
theorem D_eq {ns : List Nd} (h : Low ns) {i : Nat} {n : Nd} (hn : ns[i]? = some n) : D ns i = .node n.d (n.kids.map fun k => D ns k.toNat) := foldA_eq _ h hn
theorem pre_eq {ns : List Nd} (h : Low ns) {i : Nat} {n : Nd} (hn : ns[i]? = some n) : pre ns i = (i : Int) :: (n.kids.map fun k => pre ns k.toNat).flatten := foldA_eq _ h hn
theorem post_eq {ns : List Nd} (h : Low ns) {i : Nat} {n : Nd} (hn : ns[i]? = some n) : post ns i = (n.kids.map fun k => post ns k.toNat).flatten ++ [(i : Int)] := foldA_eq _ h hn

/-- Induction on the number of a node. -/
theorem node_ind {ns : List Nd} (h : Low ns) {P : Nat → Prop} (hs : ∀ i n, ns[i]? = some n → (∀ k ∈ n.kids, P k.toNat) → P i) : ∀ i, i < ns.length → P i := by
  intro i
  induction i using Nat.strongRecOn with
  | _ i ih =>
    intro hi
    refine hs i _ (List.getElem?_eq_getElem hi) fun k hk => ?_
    have := h i _ (List.getElem?_eq_getElem hi) k hk
    exact ih _ (by omega) (by omega)

theorem perm_flatten_map {α β : Type} (l : List β) (f g : β → List α) (h : ∀ x ∈ l, (f x).Perm (g x)) : (l.map f).flatten.Perm (l.map g).flatten := by
  induction l with
  | nil => simp
  | cons x l ih =>
    simp only [List.map_cons, List.flatten_cons]
    exact (h x (by simp)).append (ih fun y hy => h y (by simp [hy]))
theorem post_perm {ns : List Nd} (h : Low ns) : ∀ i, i < ns.length → (post ns i).Perm (pre ns i) :=
  node_ind h fun i n hn ih => by
    rw [post_eq h hn, pre_eq h hn]
    refine (List.perm_append_singleton _ _).trans (List.Perm.cons _ ?_)
    exact perm_flatten_map _ _ _ ih
theorem pre_size {ns : List Nd} (h : Low ns) : ∀ i, i < ns.length → (pre ns i).length = (D ns i).size :=
  node_ind h fun i n hn ih => by
    rw [pre_eq h hn, D_eq h hn]
    simp only [List.length_cons, T.size]
    have : ∀ l : List Int, (∀ k ∈ l, (pre ns k.toNat).length = (D ns k.toNat).size) → (l.map fun k => pre ns k.toNat).flatten.length = sizes (l.map fun k => D ns k.toNat) := by
      intro l hl
      induction l with
      | nil => simp [sizes]
      | cons k l ih2 => simp only [List.map_cons, List.flatten_cons, List.length_append, sizes, hl k (by simp), ih2 (fun k hk => hl k (by simp [hk]))]
    rw [this _ ih]; omega
theorem post_size {ns : List Nd} (h : Low ns) (i : Nat) (hi : i < ns.length) : (post ns i).length = (D ns i).size := (post_perm h i hi).length_eq.trans (pre_size h i hi)
theorem self_mem_pre {ns : List Nd} (h : Low ns) (i : Nat) (hi : i < ns.length) : (i : Int) ∈ pre ns i := by
  rw [pre_eq h (List.getElem?_eq_getElem hi)]; simp
theorem mem_pre {ns : List Nd} (h : Low ns) : ∀ i, i < ns.length → ∀ j ∈ pre ns i, 0 ≤ j ∧ j ≤ (i : Int) :=
  node_ind h fun i n hn ih j hj => by
    rw [pre_eq h hn] at hj
    simp only [List.mem_cons, List.mem_flatten, List.mem_map] at hj
    rcases hj with rfl | ⟨_, ⟨k, hk, rfl⟩, hj⟩
    · omega
    · have := ih k hk j hj
      have := h i n hn k hk
      omega
/-- What stands at a node stands within the row, all in one piece. -/
theorem pre_infix {ns : List Nd} (h : Low ns) : ∀ i, i < ns.length → ∀ j ∈ pre ns i, ∃ A B, pre ns i = A ++ pre ns j.toNat ++ B :=
  node_ind h fun i n hn ih j hj => by
    have hj' := hj
    rw [pre_eq h hn] at hj
    simp only [List.mem_cons, List.mem_flatten, List.mem_map] at hj
    rcases hj with rfl | ⟨_, ⟨k, hk, rfl⟩, hj⟩
    · exact ⟨[], [], by simp⟩
    · obtain ⟨A, B, e⟩ := ih k hk j hj
      obtain ⟨l1, l2, hl⟩ := List.append_of_mem hk
      rw [pre_eq h hn, hl]
      exact ⟨(i : Int) :: ((l1.map fun k => pre ns k.toNat).flatten ++ A), B ++ (l2.map fun k => pre ns k.toNat).flatten, by simp [e]⟩

def kidsOf (ns : List Nd) : List Int := ns.flatMap (·.kids)
def rangeI (n : Nat) : List Int := (List.range n).map (fun (i : Nat) => (i : Int))
theorem mem_rangeI {n : Nat} {j : Int} : j ∈ rangeI n ↔ 0 ≤ j ∧ j < n := by
  simp only [rangeI, List.mem_map, List.mem_range]
  constructor
  · rintro ⟨i, hi, rfl⟩; omega
  · intro hj; exact ⟨j.toNat, by omega, by omega⟩
theorem nodup_rangeI (n : Nat) : (rangeI n).Nodup := by
  unfold rangeI
  refine List.Pairwise.map _ (fun a b hab => ?_) List.nodup_range
  omega
@[simp] theorem length_rangeI (n : Nat) : (rangeI n).length = n := by simp [rangeI]

end Go.Proofs.YtclfpjfjebheoaaDoor
/- Trees in arenas, in plain Lean, on: right arenas, rows that tell each number once, the clean form. No program in sight. -/
namespace Go.Proofs.YtclfpjfjebheoaaDoor

/-- Right but for what fits. -/
structure Shape (ns : List Nd) (root : Int) : Prop where
  top : root + 1 = ns.length
  pos : 0 ≤ root
  low : Low ns
  perm : (root :: kidsOf ns).Perm (rangeI ns.length)

theorem kidsOf_split {ns : List Nd} {m : Nat} {n : Nd} (hn : ns[m]? = some n) : kidsOf (ns.drop m) = n.kids ++ kidsOf (ns.drop (m + 1)) := by
  obtain ⟨hm, rfl⟩ := List.getElem?_eq_some_iff.1 hn
  unfold kidsOf; rw [List.drop_eq_getElem_cons hm, List.flatMap_cons]
theorem mem_kidsOf {ns : List Nd} {j : Int} : j ∈ kidsOf ns ↔ ∃ (i : Nat) (n : Nd), ns[i]? = some n ∧ j ∈ n.kids := by
  simp only [kidsOf, List.mem_flatMap]
  constructor
  · rintro ⟨n, hn, hj⟩
    obtain ⟨i, hi⟩ := List.getElem?_of_mem hn
    exact ⟨i, n, hi, hj⟩
  · rintro ⟨i, n, hn, hj⟩
    exact ⟨n, List.mem_of_getElem? hn, hj⟩

/-- The heads of the forest that is left below m. -/
structure Heads (ns : List Nd) (m : Nat) (hs : List Int) : Prop where
  all : (hs.flatMap fun k => pre ns k.toNat).Perm (rangeI m)

theorem rangeI_succ (m : Nat) : (rangeI (m + 1)).Perm ((m : Int) :: rangeI m) := by
  unfold rangeI
  rw [List.range_succ, List.map_append]
  exact List.perm_append_comm
theorem range_pre {ns : List Nd} {root : Int} (h : Shape ns root) : ∀ m, m ≤ ns.length →
    ∃ hs : List Int, hs.Perm ((root :: kidsOf (ns.drop m)).filter fun j => decide (j < (m : Int))) ∧ (pre ns root.toNat).Perm ((rangeI ns.length).drop m ++ hs.flatMap fun k => pre ns k.toNat) := by
  have key : ∀ d m, m + d = ns.length → ∃ hs : List Int, hs.Perm ((root :: kidsOf (ns.drop m)).filter fun j => decide (j < (m : Int))) ∧ (pre ns root.toNat).Perm ((rangeI ns.length).drop m ++ hs.flatMap fun k => pre ns k.toNat) := by
    intro d
    induction d with
    | zero =>
      intro m hm
      have hroot := h.top
      refine ⟨[root], ?_, ?_⟩
      · rw [List.drop_of_length_le (by omega)]
        rw [show kidsOf [] = [] from rfl, List.filter_cons_of_pos (by simp only [decide_eq_true_eq]; omega), List.filter_nil]
      · rw [List.drop_of_length_le (by simp; omega)]; simp
    | succ d ih =>
      intro m hm
      obtain ⟨hs, h1, h2⟩ := ih (m + 1) (by omega)
      have hmlt : m < ns.length := by omega
      have hn := List.getElem?_eq_getElem hmlt
      have hnd : (root :: kidsOf ns).Nodup := h.perm.nodup_iff.2 (nodup_rangeI _)
      have hmem : (m : Int) ∈ root :: kidsOf ns := h.perm.mem_iff.2 (mem_rangeI.2 (by omega))
      have hmem2 : (m : Int) ∈ root :: kidsOf (ns.drop (m + 1)) := by
        rcases List.mem_cons.1 hmem with hr | hk
        · exact List.mem_cons.2 (.inl hr)
        · obtain ⟨i, n, hi, hk⟩ := mem_kidsOf.1 hk
          have := h.low i n hi _ hk
          refine List.mem_cons.2 (.inr (mem_kidsOf.2 ⟨i - (m + 1), n, ?_, hk⟩))
          rw [List.getElem?_drop, show m + 1 + (i - (m + 1)) = i by omega]; exact hi
      have hm1 : (m : Int) ∈ hs := h1.mem_iff.2 (List.mem_filter.2 ⟨hmem2, by simp; omega⟩)
      have hsub : (root :: kidsOf (ns.drop m)).Nodup := by
        refine hnd.sublist (List.Sublist.cons_cons _ ?_)
        have : kidsOf ns = kidsOf (ns.take m) ++ kidsOf (ns.drop m) := by
          unfold kidsOf; rw [← List.flatMap_append, List.take_append_drop]
        rw [this]; exact List.sublist_append_right _ _
      rw [kidsOf_split hn] at hsub
      have hsub2 : (root :: kidsOf (ns.drop (m + 1))).Nodup := hsub.sublist (List.Sublist.cons_cons _ (List.sublist_append_right _ _))
      have hkl : ∀ k ∈ (ns[m]).kids, 0 ≤ k ∧ k < (m : Int) := h.low m _ hn
      refine ⟨(ns[m]).kids ++ hs.erase m, ?_, ?_⟩
      · have e1 : (hs.erase (m : Int)).Perm ((root :: kidsOf (ns.drop (m + 1))).filter fun j => decide (j < (m : Int))) := by
          have := h1.erase (m : Int)
          refine this.trans ?_
          have hnd' := (hsub2.filter (fun j => decide (j < ((m + 1 : Nat) : Int))))
          refine (List.perm_ext_iff_of_nodup (hnd'.erase _) (hsub2.filter _)).2 fun j => ?_
          rw [List.Nodup.mem_erase_iff hnd']
          simp only [List.mem_filter, decide_eq_true_eq]
          constructor
          · rintro ⟨a, b, c⟩; exact ⟨b, by omega⟩
          · rintro ⟨b, c⟩; exact ⟨by omega, b, by omega⟩
        rw [kidsOf_split hn]
        have e2 : (ns[m]).kids.filter (fun j => decide (j < (m : Int))) = (ns[m]).kids := List.filter_eq_self.2 fun k hk => by simpa using (hkl k hk).2
        have e3 : (root :: ((ns[m]).kids ++ kidsOf (ns.drop (m + 1)))).Perm ((ns[m]).kids ++ root :: kidsOf (ns.drop (m + 1))) := List.perm_middle.symm
        refine List.Perm.trans ?_ (e3.filter _).symm
        rw [List.filter_append, e2]
        exact List.Perm.append_left _ e1
      · refine h2.trans ?_
        have hd : (rangeI ns.length).drop m = (m : Int) :: (rangeI ns.length).drop (m + 1) := by
          have hl : m < (rangeI ns.length).length := by simpa using hmlt
          rw [List.drop_eq_getElem_cons hl]
          congr 1
          simp [rangeI]
        rw [hd]
        have e1 : (hs.flatMap fun k => pre ns k.toNat).Perm (pre ns m ++ (hs.erase (m : Int)).flatMap fun k => pre ns k.toNat) := by
          have := (List.perm_cons_erase hm1).flatMap_right (fun k => pre ns k.toNat)
          simpa using this
        refine (List.Perm.append_left _ e1).trans ?_
        rw [pre_eq h.low hn]
        simp only [List.cons_append]
        refine List.perm_middle.trans (List.Perm.cons _ (List.Perm.append_left _ ?_))
        rw [List.flatMap_append, ← List.flatMap_def]
  intro m hm
  exact key (ns.length - m) m (by omega)
/-- The row of a right arena tells each number once. -/
theorem pre_perm {ns : List Nd} {root : Int} (h : Shape ns root) : (pre ns root.toNat).Perm (rangeI ns.length) := by
  obtain ⟨hs, h1, h2⟩ := range_pre h 0 (Nat.zero_le _)
  have hz : ∀ k ∈ root :: kidsOf (ns.drop 0), 0 ≤ k := by
    intro k hk
    rcases List.mem_cons.1 hk with rfl | hk
    · exact h.pos
    · obtain ⟨i, n, hi, hk⟩ := mem_kidsOf.1 hk
      rw [List.drop_zero] at hi
      exact (h.low i n hi _ hk).1
  have hnil : hs = [] := by
    refine List.eq_nil_iff_forall_not_mem.2 fun k hk => ?_
    have := List.mem_filter.1 (h1.mem_iff.1 hk)
    have h3 := hz k this.1
    have h4 := this.2
    simp at h4; omega
  subst hnil
  simpa using h2
theorem Shape.root_lt {ns : List Nd} {root : Int} (h : Shape ns root) : root.toNat < ns.length := by have := h.top; have := h.pos; omega
theorem Shape.size {ns : List Nd} {root : Int} (h : Shape ns root) : (D ns root.toNat).size = ns.length := by
  rw [← pre_size h.low _ h.root_lt, (pre_perm h).length_eq, length_rangeI]
theorem pre_nodup {ns : List Nd} {root : Int} (h : Shape ns root) (i : Nat) (hi : i < ns.length) : (pre ns i).Nodup := by
  have hp := pre_perm h
  have hm : (i : Int) ∈ pre ns root.toNat := hp.mem_iff.2 (mem_rangeI.2 (by omega))
  obtain ⟨A, B, e⟩ := pre_infix h.low _ h.root_lt _ hm
  have hn := hp.nodup_iff.2 (nodup_rangeI _)
  rw [e] at hn
  exact (List.nodup_append.1 (List.nodup_append.1 hn).1).2.1
theorem post_nodup {ns : List Nd} {root : Int} (h : Shape ns root) (i : Nat) (hi : i < ns.length) : (post ns i).Nodup := (post_perm h.low i hi).nodup_iff.2 (pre_nodup h i hi)
theorem size_le {ns : List Nd} {root : Int} (h : Shape ns root) (i : Nat) (hi : i < ns.length) : (D ns i).size ≤ ns.length := by
  have hp := pre_perm h
  have hm : (i : Int) ∈ pre ns root.toNat := hp.mem_iff.2 (mem_rangeI.2 (by omega))
  obtain ⟨A, B, e⟩ := pre_infix h.low _ h.root_lt _ hm
  have := pre_size h.low i hi
  have h2 := pre_size h.low _ h.root_lt
  rw [e, h.size] at h2
  simp at h2
  omega

/-- What putting goes over: nodes so far, and places. -/
def putStep (ns : List Nd) (s : List Nd × (Int → Int)) (i : Int) : List Nd × (Int → Int) :=
  match ns[i.toNat]? with
  | none => s
  | some n => (s.1 ++ [⟨n.d, n.kids.map s.2⟩], fun j => if j = i then (s.1.length : Int) else s.2 j)
theorem put_post {ns : List Nd} (h : Low ns) : ∀ i, i < ns.length → (post ns i).Nodup → ∀ out place,
    ∃ place', (post ns i).foldl (putStep ns) (out, place) = (out ++ flatAt out.length (D ns i), place') ∧ place' (i : Int) = ((out.length + (D ns i).size : Nat) : Int) - 1 ∧ ∀ j, j ∉ post ns i → place' j = place j :=
  node_ind h fun i n hn ih hnd out place => by
    rw [post_eq h hn] at hnd ⊢
    have key : ∀ l : List Int, (∀ k ∈ l, 0 ≤ k ∧ k.toNat < ns.length ∧ ((post ns k.toNat).Nodup → ∀ out place,
        ∃ place', (post ns k.toNat).foldl (putStep ns) (out, place) = (out ++ flatAt out.length (D ns k.toNat), place') ∧ place' ((k.toNat : Nat) : Int) = ((out.length + (D ns k.toNat).size : Nat) : Int) - 1 ∧ ∀ j, j ∉ post ns k.toNat → place' j = place j)) →
        ((l.map fun k => post ns k.toNat).flatten).Nodup → ∀ out place,
        ∃ place', ((l.map fun k => post ns k.toNat).flatten).foldl (putStep ns) (out, place) = (out ++ flatsAt out.length (l.map fun k => D ns k.toNat), place') ∧
          l.map place' = ends out.length (l.map fun k => D ns k.toNat) ∧ ∀ j, j ∉ (l.map fun k => post ns k.toNat).flatten → place' j = place j := by
      intro l
      induction l with
      | nil => intro _ _ out place; exact ⟨place, by simp [flatsAt], by simp [ends], fun _ _ => rfl⟩
      | cons k l ih2 =>
        intro hl hnd out place
        simp only [List.map_cons, List.flatten_cons] at hnd ⊢
        rw [List.nodup_append] at hnd
        obtain ⟨n1, n2, n3⟩ := hnd
        obtain ⟨k0, hk, hk2⟩ := hl k (by simp)
        obtain ⟨p1, e1, a1, b1⟩ := hk2 n1 out place
        obtain ⟨p2, e2, a2, b2⟩ := ih2 (fun k hk => hl k (by simp [hk])) n2 (out ++ flatAt out.length (D ns k.toNat)) p1
        rw [List.length_append, flatAt_length] at e2 a2
        refine ⟨p2, ?_, ?_, fun j hj => ?_⟩
        · rw [List.foldl_append, e1, e2]
          simp [flatsAt, List.append_assoc]
        · simp only [ends, a2]
          congr 1
          have hmem : ((k.toNat : Nat) : Int) ∈ post ns k.toNat := (post_perm h _ hk).mem_iff.2 (self_mem_pre h _ hk)
          have hnot : ((k.toNat : Nat) : Int) ∉ (l.map fun k => post ns k.toNat).flatten := fun hm => n3 _ hmem _ hm rfl
          rw [Int.toNat_of_nonneg k0] at a1 hnot
          rw [b2 _ hnot, a1]
        · rw [List.mem_append, not_or] at hj
          rw [b2 _ hj.2, b1 _ hj.1]
    have hkl := h i n hn
    have hi : i < ns.length := (List.getElem?_eq_some_iff.1 hn).1
    rw [List.nodup_append] at hnd
    obtain ⟨n1, _, n3⟩ := hnd
    obtain ⟨p1, e1, a1, b1⟩ := key n.kids (fun k hk => ⟨(hkl k hk).1, by have := hkl k hk; omega, ih k hk⟩) n1 out place
    rw [List.foldl_append, e1, D_eq h hn]
    simp only [List.foldl_cons, List.foldl_nil, putStep, Int.toNat_natCast, hn]
    refine ⟨fun j => if j = (i : Int) then (((out ++ flatsAt out.length (n.kids.map fun k => D ns k.toNat)).length : Nat) : Int) else p1 j, ?_, ?_, fun j hj => ?_⟩
    · refine Prod.ext ?_ rfl
      simp [flatAt, a1]
    · simp [T.size]; omega
    · rw [List.mem_append, not_or] at hj
      have : j ≠ (i : Int) := fun e => hj.2 (by simp [e])
      simp only [if_neg this]
      exact b1 _ hj.1

/-- An arena that holds a tree's clean form from a place on. -/
def Holds (ns : List Nd) (o : Nat) (l : List Nd) : Prop := ∀ j, j < l.length → ns[o + j]? = l[j]?
theorem Holds.left {ns : List Nd} {o : Nat} {a b : List Nd} (h : Holds ns o (a ++ b)) : Holds ns o a := fun j hj => by
  rw [h j (by simp; omega), List.getElem?_append_left hj]
theorem Holds.right {ns : List Nd} {o : Nat} {a b : List Nd} (h : Holds ns o (a ++ b)) : Holds ns (o + a.length) b := fun j hj => by
  rw [Nat.add_assoc, h (a.length + j) (by simp; omega), List.getElem?_append_right (by omega)]
  congr 1; omega
theorem holds_self (l : List Nd) : Holds l 0 l := fun j _ => by rw [Nat.zero_add]
theorem holds_mid (a b c : List Nd) : Holds (a ++ b ++ c) a.length b := fun j hj => by
  rw [List.append_assoc, List.getElem?_append_right (by omega), List.getElem?_append_left (by omega)]
  congr 1; omega
theorem D_flat (t : T) : ∀ ns, Low ns → ∀ o, Holds ns o (flatAt o t) → D ns (o + t.size - 1) = t := by
  induction t using T.ind with
  | h d ks ih =>
    intro ns hlow o hh
    have hs : ∀ (l : List T), (∀ t ∈ l, ∀ ns, Low ns → ∀ o, Holds ns o (flatAt o t) → D ns (o + t.size - 1) = t) → ∀ o, Holds ns o (flatsAt o l) → (ends o l).map (fun k => D ns k.toNat) = l := by
      intro l
      induction l with
      | nil => intro _ _ _; rfl
      | cons t l ih2 =>
        intro hl o hh
        simp only [flatsAt] at hh
        have h2 := hh.right
        rw [flatAt_length] at h2
        simp only [ends, List.map_cons, ih2 (fun t ht => hl t (by simp [ht])) _ h2]
        congr 1
        have := hl t (by simp) ns hlow o hh.left
        have hp := t.size_pos
        rw [show (((o + t.size : Nat) : Int) - 1).toNat = o + t.size - 1 by omega]
        exact this
    simp only [flatAt] at hh
    have h1 := hh.right
    rw [flatsAt_length] at h1
    have hn : ns[o + sizes ks]? = some ⟨d, ends o ks⟩ := by simpa using h1 0 (by simp)
    have : o + (T.node d ks).size - 1 = o + sizes ks := by simp [T.size]; omega
    rw [this, D_eq hlow hn]
    simp only [hs ks ih o hh.left]
theorem ends_bound (o : Nat) (ts : List T) : ∀ k ∈ ends o ts, (o : Int) ≤ k ∧ k < ((o + sizes ts : Nat) : Int) := by
  induction ts generalizing o with
  | nil => simp [ends]
  | cons t ts ih =>
    intro k hk
    have := t.size_pos
    simp only [ends, List.mem_cons] at hk
    simp only [sizes]
    rcases hk with rfl | hk
    · omega
    · have := ih _ k hk; omega
theorem low_flat (t : T) : ∀ o j n, (flatAt o t)[j]? = some n → ∀ k ∈ n.kids, (o : Int) ≤ k ∧ k < ((o + j : Nat) : Int) := by
  induction t using T.ind with
  | h d ks ih =>
    have hs : ∀ (l : List T), (∀ t ∈ l, ∀ o j n, (flatAt o t)[j]? = some n → ∀ k ∈ n.kids, (o : Int) ≤ k ∧ k < ((o + j : Nat) : Int)) → ∀ o j n, (flatsAt o l)[j]? = some n → ∀ k ∈ n.kids, (o : Int) ≤ k ∧ k < ((o + j : Nat) : Int) := by
      intro l
      induction l with
      | nil => intro _ o j n h; simp [flatsAt] at h
      | cons t l ih2 =>
        intro hl o j n h k hk
        simp only [flatsAt] at h
        rcases Nat.lt_or_ge j (flatAt o t).length with hj | hj
        · rw [List.getElem?_append_left hj] at h
          exact hl t (by simp) o j n h k hk
        · rw [List.getElem?_append_right hj, flatAt_length] at h
          rw [flatAt_length] at hj
          have := ih2 (fun t ht => hl t (by simp [ht])) _ _ n h k hk
          omega
    intro o j n h k hk
    simp only [flatAt] at h
    rcases Nat.lt_or_ge j (flatsAt o ks).length with hj | hj
    · rw [List.getElem?_append_left hj] at h
      exact hs ks ih o j n h k hk
    · rw [List.getElem?_append_right hj, flatsAt_length] at h
      rw [flatsAt_length] at hj
      have hj0 : j - sizes ks = 0 := by
        rcases Nat.eq_zero_or_pos (j - sizes ks) with h0 | h0
        · exact h0
        · rw [List.getElem?_eq_none (by simp; omega)] at h; cases h
      rw [hj0] at h
      simp at h; subst h
      have := ends_bound o ks k hk
      omega
theorem Low.flat (t : T) : Low (flatAt 0 t) := fun i n hn k hk => by have := low_flat t 0 i n hn k hk; omega
theorem D_flat0 (t : T) : D (flatAt 0 t) (t.size - 1) = t := by
  have := D_flat t _ (Low.flat t) 0 (holds_self _)
  rwa [Nat.zero_add] at this
theorem flat_inj {a b : T} (h : flatAt 0 a = flatAt 0 b) : a = b := by
  have hs : a.size = b.size := by rw [← flatAt_length a 0, ← flatAt_length b 0, h]
  rw [← D_flat0 a, ← D_flat0 b, h, hs]
theorem kids_flat (t : T) : ∀ o : Nat, ((((o + t.size : Nat) : Int) - 1) :: kidsOf (flatAt o t)).Perm ((List.range t.size).map fun (i : Nat) => ((o + i : Nat) : Int)) := by
  induction t using T.ind with
  | h d ks ih =>
    have hs : ∀ (l : List T), (∀ t ∈ l, ∀ o : Nat, ((((o + t.size : Nat) : Int) - 1) :: kidsOf (flatAt o t)).Perm ((List.range t.size).map fun (i : Nat) => ((o + i : Nat) : Int))) →
        ∀ o : Nat, (ends o l ++ kidsOf (flatsAt o l)).Perm ((List.range (sizes l)).map fun (i : Nat) => ((o + i : Nat) : Int)) := by
      intro l
      induction l with
      | nil => intro _ o; simp [ends, flatsAt, kidsOf, sizes]
      | cons t l ih2 =>
        intro hl o
        have h1 := hl t (by simp) o
        have h2 := ih2 (fun t ht => hl t (by simp [ht])) (o + t.size)
        simp only [ends, flatsAt, sizes, kidsOf, List.flatMap_append]
        have e1 : (((((o + t.size : Nat) : Int) - 1) :: ends (o + t.size) l) ++ ((flatAt o t).flatMap (·.kids) ++ (flatsAt (o + t.size) l).flatMap (·.kids))).Perm
            ((((((o + t.size : Nat) : Int) - 1)) :: kidsOf (flatAt o t)) ++ (ends (o + t.size) l ++ kidsOf (flatsAt (o + t.size) l))) := by
          simp only [List.cons_append]
          refine List.Perm.cons _ ?_
          rw [← List.append_assoc, ← List.append_assoc]
          exact List.Perm.append_right _ List.perm_append_comm
        refine e1.trans ((h1.append h2).trans (List.Perm.of_eq ?_))
        rw [List.range_add, List.map_append, List.map_map]
        congr 1
        refine List.map_congr_left fun i _ => ?_
        simp only [Function.comp]; omega
    intro o
    have h1 := hs ks ih o
    simp only [flatAt, kidsOf, List.flatMap_append, T.size]
    have : 1 + sizes ks = sizes ks + 1 := by omega
    rw [this, List.range_succ, List.map_append]
    simp only [List.flatMap_cons, List.flatMap_nil, List.append_nil, List.map_cons, List.map_nil]
    have e : (((o + (sizes ks + 1) : Nat) : Int) - 1) = ((o + sizes ks : Nat) : Int) := by omega
    rw [e]
    refine List.Perm.trans (List.Perm.cons _ (List.perm_append_comm.trans h1)) ?_
    exact (List.perm_append_singleton _ _).symm
theorem shape_flat (t : T) : Shape (flatAt 0 t) ((t.size : Int) - 1) where
  top := by rw [flatAt_length]; omega
  pos := by have := t.size_pos; omega
  low := Low.flat t
  perm := by
    have := kids_flat t 0
    simp only [Nat.zero_add] at this
    rw [flatAt_length]
    exact this

end Go.Proofs.YtclfpjfjebheoaaDoor
/- Small words for memory (after the guide's lemmas to copy): a slice that reads as a list of cells, a block known whole, append onto a row of the call's own, make. No program in sight; no conditions beyond each lemma's own. -/
namespace Go.Proofs.YtclfpjfjebheoaaDoor
open Go.RowKit

theorem block_of_add (a : Addr) (n : Nat) : (a.add n).block = a.block := by unfold Addr.add; split <;> rfl
theorem add_of_add (a : Addr) (i j : Nat) : (a.add i).add j = a.add (i + j) := by
  unfold Addr.add
  by_cases hi : i = 0 <;> by_cases hj : j = 0 <;> simp [hi, hj, Nat.add_assoc]

def Reads (w : World) (B size : Nat) (A : Option Addr) (n : Nat) (xs : List Value) : Prop :=
  xs.length = n * size ∧ (0 < n → ∃ ad, A = some ad ∧ ad.block < B ∧ ∀ j u, xs[j]? = some u → w.cell? (ad.add j) = some u)

section
variable {w w' : World} {B B' size n : Nat} {A : Option Addr} {xs : List Value}
theorem Reads.none_ : Reads w B size A 0 [] := ⟨by simp, fun h => absurd h (by omega)⟩
theorem Reads.at_ {k : Nat} (h : Reads w B 1 A n xs) (hk : k < n) : ∃ ad u, A = some ad ∧ ad.block < B ∧ xs[k]? = some u ∧ w.cell? (ad.add k) = some u := by
  obtain ⟨ad, e, hb, hc⟩ := h.2 (by omega)
  have hl : k < xs.length := by have := h.1; omega
  exact ⟨ad, xs[k], e, hb, List.getElem?_eq_getElem hl, hc k _ (List.getElem?_eq_getElem hl)⟩
theorem Reads.keep (h : Reads w B size A n xs) (hk : ∀ p : Addr, p.block < B → w'.cell? p = w.cell? p) : Reads w' B size A n xs :=
  ⟨h.1, fun hn => by
    obtain ⟨ad, e, hb, hc⟩ := h.2 hn
    exact ⟨ad, e, hb, fun j u hu => (hk _ (by rw [block_of_add]; exact hb)).trans (hc j u hu)⟩⟩
theorem Reads.more (h : Reads w B size A n xs) (hB : B ≤ B') : Reads w B' size A n xs :=
  ⟨h.1, fun hn => by
    obtain ⟨ad, e, hb, hc⟩ := h.2 hn
    exact ⟨ad, e, by omega, hc⟩⟩
theorem Reads.below (h : Reads w B size A n xs) (hb : Below B w w') : Reads w' B size A n xs := h.keep fun _ hp => hb.cell hp
theorem Reads.drew (h : Reads w B size A n xs) : Reads w.drew B size A n xs := h
theorem Reads.drewN (h : Reads w B size A n xs) (k : Nat) : Reads (w.drewN k) B size A n xs := h
theorem Reads.alloc (h : Reads w B size A n xs) (hB : B ≤ w.heap.size) (o : Obj) : Reads (w.alloc o) B size A n xs := h.keep fun p hp => World.cell?_alloc_lt w o p (by omega)
theorem Reads.setCell (h : Reads w B size A n xs) {p : Addr} (hB : B ≤ p.block) (u : Value) : Reads (w.setCell p u) B size A n xs :=
  h.keep fun q hq => World.cell?_setCell_other w p q u (fun e => by subst e; omega)
theorem Reads.grown (h : Reads w B size A n xs) {row : Option Nat} (hg : w.grownBy w' row) (hB : B ≤ w.heap.size) (hr : ∀ g, row = some g → B ≤ g) : Reads w' B size A n xs :=
  h.keep fun p hp => World.cell?_of_block (hg.block p.block (by omega) (fun e => by have := hr _ e.symm; omega))
theorem Reads.cut (h : Reads w B size A n xs) {k cap : Nat} (hk : k ≤ n) (hc : n ≤ cap) :
    Reads w B size (if cap = k then A else A.map (·.add (k * size))) (n - k) (xs.drop (k * size)) := by
  refine ⟨by rw [List.length_drop, h.1, Nat.sub_mul], fun hn => ?_⟩
  obtain ⟨ad, rfl, hb, hcell⟩ := h.2 (by omega)
  rw [if_neg (by omega)]
  refine ⟨ad.add (k * size), rfl, by rw [block_of_add]; exact hb, fun j u hu => ?_⟩
  rw [add_of_add]
  exact hcell _ u (by rw [← hu, List.getElem?_drop])
theorem Reads.of_own {base : Nat} {e : TypeId} {c : Nat} (h : w.ownsRow base e size (.slice A n c) n xs) : Reads w w.heap.size size A n xs := by
  refine ⟨h.1, fun hn => ?_⟩
  obtain ⟨g, cap, hv, _, hlt⟩ := h.form hn
  have hA : A = some ⟨g, 0, none⟩ := by injection hv
  subst hA
  exact ⟨_, rfl, hlt, h.cells (g := g) rfl⟩
end

def Blk (w : World) (g : Nat) (t : TypeId) (cs : Array Value) : Prop := w.heap[g]? = some (.cells cs t (0, 0))

section
variable {w w' : World} {g : Nat} {t : TypeId} {cs : Array Value}
theorem Blk.lt (h : Blk w g t cs) : g < w.heap.size := by
  rcases Nat.lt_or_ge g w.heap.size with hlt | hge
  · exact hlt
  · unfold Blk at h; rw [Array.getElem?_eq_none hge] at h; cases h
theorem Blk.cell (h : Blk w g t cs) (i : Nat) : w.cell? ⟨g, i, none⟩ = cs[i]? := cell_of_row w g i cs t (0, 0) h
theorem Blk.frozen (h : Blk w g t cs) (i : Nat) : w.frozen? ⟨g, i, none⟩ = false := by
  unfold Blk at h
  simp [World.frozen?, h]
theorem Blk.new (w : World) (t : TypeId) (cs : Array Value) : Blk (w.alloc (.cells cs t)) w.heap.size t cs := heap_alloc_new w _
theorem Blk.drew (h : Blk w g t cs) : Blk w.drew g t cs := h
theorem Blk.drewN (h : Blk w g t cs) (n : Nat) : Blk (w.drewN n) g t cs := h
theorem Blk.alloc (h : Blk w g t cs) (o : Obj) : Blk (w.alloc o) g t cs := (Below.heap_alloc w o g h.lt).trans h
theorem Blk.set_ (h : Blk w g t cs) (i : Nat) (u : Value) : Blk (w.setCell ⟨g, i, none⟩ u) g t (cs.setIfInBounds i u) := by
  unfold Blk at h ⊢
  simp [World.setCell, Array.getElem?_modify, h]
theorem Blk.far (h : Blk w g t cs) {p : Addr} (hp : g ≠ p.block) (u : Value) : Blk (w.setCell p u) g t cs := (Below.heap_setCell w p u g hp).trans h
theorem Blk.below {B : Nat} (h : Blk w g t cs) (hb : Below B w w') (hg : g < B) : Blk w' g t cs := (hb.block g hg).trans h
theorem Blk.grown {row : Option Nat} (h : Blk w g t cs) (hb : w.grownBy w' row) (hg : some g ≠ row) : Blk w' g t cs := (hb.block g h.lt hg).trans h
theorem Blk.ne_ {g' : Nat} {t' : TypeId} {cs' : Array Value} (h : Blk w g t cs) (h' : Blk w g' t' cs') (hne : t ≠ t') : g ≠ g' := by
  rintro rfl
  unfold Blk at h h'
  rw [h] at h'
  injection h' with h'
  injection h' with _ ht
  exact hne ht
theorem own_blk_ne {base : Nat} {e : TypeId} {size n : Nat} {v : Value} {xs : List Value} (h : w.ownsRow base e size v n xs) (hg : Blk w g t cs) (hne : e ≠ t) : v.ownBlock ≠ some g := by
  rcases h.2 with ⟨rfl, _⟩ | ⟨g', cap, cur, rfl, _, hh, _⟩
  · simp [Value.ownBlock]
  · intro he
    have : g' = g := by simpa [Value.ownBlock] using he
    subst this
    exact Blk.ne_ (t := e) hh hg hne rfl
end

section
variable {P : Program} (w : World)

theorem run_append_of_nil (base : Nat) (t ty e : TypeId) (i : TypeInfo) (size : Nat) (ht : P.underlying t = some (.slice e)) (hi : P.info? e = some i)
    (v : Value) (n : Nat) (xs : List Value) (hown : w.ownsRow base e size v n xs) (c : Nat) : (Builtin.append_ #[t, t] ty #[v, .slice none 0 c]).run P w = .ok v w := by
  rcases hown.2 with ⟨rfl, rfl⟩ | ⟨g, cap, cur, rfl, _, _, hnc, _⟩
  · simp [Builtin.append_, run_underlying ht, sizeOf, typeInfo, hi, Builtin.lenOf, Builtin.firstCells]
  · simp [Builtin.append_, run_underlying ht, sizeOf, typeInfo, hi, Builtin.lenOf, Builtin.firstCells, hnc, storeCells]

theorem run_append_any (base : Nat) (t ty e : TypeId) (i : TypeInfo) (z : Value) (size bytes : Nat) (ht : P.underlying t = some (.slice e)) (hi : P.info? e = some i) (hz : i.zero = some z)
    (hsize : i.size = size) (hby : i.bytes = bytes) (hzs : z.cells.size = size) (hsz : 0 < size)
    (v : Value) (n : Nat) (xs : List Value) (hown : w.ownsRow base e size v n xs)
    (B : Nat) (A : Option Addr) (m c : Nat) (news : List Value) (hr : Reads w B size A m news) (h1 : ∀ u ∈ news, u.oneCell' = true)
    (h63 : n + m ≤ maxLen) (hbytes : (n + m) * bytes ≤ 140737488355328) (hbase : base ≤ w.heap.size) :
    ∃ v' w', (Builtin.append_ #[t, t] ty #[v, .slice A m c]).run P w = .ok v' w' ∧ w'.ownsRow base e size v' (n + m) (xs ++ news) ∧ w.grownBy w' v.ownBlock ∧
      (v'.ownBlock = v.ownBlock ∨ v'.ownBlock = some w.heap.size) := by
  rcases A with _ | ad
  · have hm : m = 0 := by
      rcases Nat.eq_zero_or_pos m with h0 | h0
      · exact h0
      · obtain ⟨ad, h, _⟩ := hr.2 h0
        cases h
    subst hm
    have hn : news = [] := List.eq_nil_of_length_eq_zero (by simpa using hr.1)
    subst hn
    exact ⟨v, w, run_append_of_nil w base t ty e i size ht hi v n xs hown c, by simpa using hown, World.grownBy.refl w _, .inl rfl⟩
  · have hcells : ∀ j u, news[j]? = some u → w.cell? (ad.add j) = some u := by
      intro j u hu
      rcases Nat.eq_zero_or_pos m with h0 | h0
      · subst h0
        have hn : news = [] := List.eq_nil_of_length_eq_zero (by simpa using hr.1)
        subst hn
        simp at hu
      · obtain ⟨ad', h, _, hc⟩ := hr.2 h0
        injection h with h
        subst h
        exact hc j u hu
    obtain ⟨v', w', hrun, h2, h3, _, h5⟩ := run_append_own_at (P := P) w base t ty e i z size bytes ht hi hz hsize hby hzs hsz v n xs hown ad m c news hr.1 hcells h1 h63 hbytes hbase
    exact ⟨v', w', hrun, h2, h3, h5⟩

theorem wp_append_any {o : Oper} {a : Act} {K : Act → World → Prop} {Q : Exit → Act → World → Prop} (s x : Operand) (t : TypeId)
    (ho : o.op = .call { callee := .builtin .append, args := #[s, x], argTypes := #[t, t] })
    (base : Nat) (e : TypeId) (i : TypeInfo) (z : Value) (size bytes : Nat) (ht : P.underlying t = some (.slice e)) (hi : P.info? e = some i) (hz : i.zero = some z)
    (hsize : i.size = size) (hby : i.bytes = bytes) (hzs : z.cells.size = size) (hsz : 0 < size)
    (v : Value) (n : Nat) (xs : List Value) (hs : a.eval s = v) (hown : w.ownsRow base e size v n xs)
    (B : Nat) (A : Option Addr) (m c : Nat) (news : List Value) (hx : a.eval x = .slice A m c) (hr : Reads w B size A m news) (h1 : ∀ u ∈ news, u.oneCell' = true)
    (h63 : n + m ≤ maxLen) (hbytes : (n + m) * bytes ≤ 140737488355328) (hbase : base ≤ w.heap.size)
    (h : ∀ v' w', w'.ownsRow base e size v' (n + m) (xs ++ news) → w.grownBy w' v.ownBlock → (v'.ownBlock = v.ownBlock ∨ v'.ownBlock = some w.heap.size) → K (a.put o.dst v') w') : o.wp P a w K Q := by
  obtain ⟨v', w', hrun, h2, h3, h4⟩ := run_append_any (P := P) w base t o.type e i z size bytes ht hi hz hsize hby hzs hsz v n xs hown B A m c news hr h1 h63 hbytes hbase
  unfold Oper.wp execOp
  simp only [ho, resolve, invoke, builtin, Sem.run_bind, Sem.run_pure, Result.andThen_ok, List.map_toArray, List.map_cons, List.map_nil, hs, hx, hrun]
  exact h v' w' h2 h3 h4

theorem wpList_append_any {ops : Array Oper} {rest : List Oper} {o : Oper} {a : Act} {Q : Exit → Act → World → Prop} (hgd : o.guard = none) (s x : Operand) (t : TypeId)
    (ho : o.op = .call { callee := .builtin .append, args := #[s, x], argTypes := #[t, t] })
    (base : Nat) (e : TypeId) (i : TypeInfo) (z : Value) (size bytes : Nat) (ht : P.underlying t = some (.slice e)) (hi : P.info? e = some i) (hz : i.zero = some z)
    (hsize : i.size = size) (hby : i.bytes = bytes) (hzs : z.cells.size = size) (hsz : 0 < size)
    (v : Value) (n : Nat) (xs : List Value) (hs : a.eval s = v) (hown : w.ownsRow base e size v n xs)
    (B : Nat) (A : Option Addr) (m c : Nat) (news : List Value) (hx : a.eval x = .slice A m c) (hr : Reads w B size A m news) (h1 : ∀ u ∈ news, u.oneCell' = true)
    (h63 : n + m ≤ maxLen) (hbytes : (n + m) * bytes ≤ 140737488355328) (hbase : base ≤ w.heap.size)
    (h : ∀ v' w', w'.ownsRow base e size v' (n + m) (xs ++ news) → w.grownBy w' v.ownBlock → (v'.ownBlock = v.ownBlock ∨ v'.ownBlock = some w.heap.size) → wpList P ops Q rest (a.put o.dst v') w') : wpList P ops Q (o :: rest) a w :=
  wpList_plain hgd fun _ hK => wp_append_any w s x t ho base e i z size bytes ht hi hz hsize hby hzs hsz v n xs hs hown B A m c news hx hr h1 h63 hbytes hbase fun v' w' h2 h3 h4 => hK _ _ (h v' w' h2 h3 h4)

theorem step_append_any {ops : Array Oper} {o : Oper} {a : Act} {K : Act → World → Prop} {Q : Exit → Act → World → Prop} {E : Prop} (hgd : o.guard = none) (s x : Operand) (t : TypeId)
    (ho : o.op = .call { callee := .builtin .append, args := #[s, x], argTypes := #[t, t] })
    (base : Nat) (e : TypeId) (i : TypeInfo) (z : Value) (size bytes : Nat) (ht : P.underlying t = some (.slice e)) (hi : P.info? e = some i) (hz : i.zero = some z)
    (hsize : i.size = size) (hby : i.bytes = bytes) (hzs : z.cells.size = size) (hsz : 0 < size)
    (v : Value) (n : Nat) (xs : List Value) (hs : a.eval s = v) (hown : w.ownsRow base e size v n xs)
    (B : Nat) (A : Option Addr) (m c : Nat) (news : List Value) (hx : a.eval x = .slice A m c) (hr : Reads w B size A m news) (h1 : ∀ u ∈ news, u.oneCell' = true)
    (h63 : n + m ≤ maxLen) (hbytes : (n + m) * bytes ≤ 140737488355328) (hbase : base ≤ w.heap.size)
    (h : ∀ v' w', w'.ownsRow base e size v' (n + m) (xs ++ news) → w.grownBy w' v.ownBlock → (v'.ownBlock = v.ownBlock ∨ v'.ownBlock = some w.heap.size) → K (a.put o.dst v') w') :
    if Region.wanted o (yielded ops a.tmps) = true then Oper.wp P o a w K Q else E := by
  have hw : Region.wanted o (yielded ops a.tmps) = true := by simp [Region.wanted, hgd]
  rw [if_pos hw]
  exact wp_append_any w s x t ho base e i z size bytes ht hi hz hsize hby hzs hsz v n xs hs hown B A m c news hx hr h1 h63 hbytes hbase h
end

theorem below_drewN {B : Nat} {a w : World} (h : Below B a w) (n : Nat) : Below B a (w.drewN n) := ⟨h.os, h.tape, h.output, h.size, h.block⟩
theorem grown_trans {a b c : World} (h : Grown a b) (k : Grown b c) : Grown a c :=
  ⟨World.keptBut_trans h.1 k.1, fun x => (k.2.1 x).trans (h.2.1 x), Nat.le_trans h.2.2 k.2.2⟩

theorem only_drewN {a w : World} {row : Option Nat} (h : a.grownBy w row) (n : Nat) : a.grownBy (w.drewN n) row := ⟨h.os, h.tape, h.output, h.size, h.block⟩
theorem only_drew {a w : World} {row : Option Nat} (h : a.grownBy w row) : a.grownBy w.drew row := ⟨h.os, h.tape, h.output, h.size, h.block⟩
theorem only_alloc {a w : World} {row : Option Nat} (h : a.grownBy w row) (o : Obj) : a.grownBy (w.alloc o) row :=
  ⟨h.os, h.tape, h.output, Nat.le_trans h.size (by simp), fun i hi hne => (Below.heap_alloc w o i (Nat.lt_of_lt_of_le hi h.size)).trans (h.block i hi hne)⟩
theorem only_setCell {a w : World} {g : Nat} (h : a.grownBy w (some g)) {p : Addr} (hp : p.block = g ∨ a.heap.size ≤ p.block) (u : Value) : a.grownBy (w.setCell p u) (some g) :=
  ⟨h.os, h.tape, h.output, by simpa [World.setCell] using h.size, fun i hi hne => (Below.heap_setCell w p u i (by
    rintro rfl
    rcases hp with hp | hp
    · exact hne (by rw [hp])
    · omega)).trans (h.block i hi hne)⟩
theorem only_of_below {a w : World} (h : Below a.heap.size a w) (row : Option Nat) : a.grownBy w row := ⟨h.os, h.tape, h.output, h.size, fun i hi _ => h.block i hi⟩

theorem run_make_rowN {P : Program} (t e : TypeId) (i : TypeInfo) (z : Value) (ht : P.underlying t = some (.slice e)) (hi : P.info? e = some i) (hz : i.zero = some z)
    (kl kc : IntKind) (n c : Nat) (hnc : n ≤ c) (hbytes : i.bytes * c ≤ 281474976710656) (h63 : c ≤ 9223372036854775807) (w : World) :
    (Instr.makeSlice t (.int kl (n : Int)) (.int kc (c : Int))).run P w = .ok (.slice (some ⟨w.heap.size, 0, none⟩) n c) (w.alloc (.cells (madeCells z.cells (c * i.size)) e)) := by
  have hb : (i.bytes : Int) * (c : Int) ≤ 281474976710656 := by
    have h : ((i.bytes * c : Nat) : Int) ≤ 281474976710656 := by omega
    rwa [Int.natCast_mul] at h
  have hr := run_make (P := P) w t e i z ht hi hz kl kc n c (by omega) (by omega) hb (by omega)
  simp only [Int.toNat_natCast] at hr
  exact hr
theorem run_makeMap_hint {P : Program} (t k e : TypeId) (kd : IntKind) (n : Int) (ht : P.underlying t = some (.map k e)) (w : World) :
    (Instr.makeMap t (some (.int kd n))).run P w = .ok (.map (some w.heap.size)) (w.alloc (.map #[] 0)) := by
  simp [Instr.makeMap, run_underlying ht]; rfl

end Go.Proofs.YtclfpjfjebheoaaDoor
/- Slices that read as lists of cells, in blocks of a set S. No program in sight. -/
namespace Go.Proofs.YtclfpjfjebheoaaDoor
open Go.RowKit

structure Row (w : World) (S : Nat → Prop) (size : Nat) (v : Value) (n : Nat) (cells : List Value) : Prop where
  len : cells.length = n * size
  small : n ≤ maxLen
  is : ∃ A c, v = .slice A n c ∧ n ≤ c ∧ (0 < n → ∃ b off, A = some ⟨b, off, none⟩ ∧ S b ∧ ∀ j u, cells[j]? = some u → w.cell? ⟨b, off + j, none⟩ = some u)

section
variable {w w' : World} {S S' : Nat → Prop} {size n : Nat} {v : Value} {cells : List Value}
theorem Row.keep (h : Row w S size v n cells) (hk : ∀ p : Addr, S p.block → w'.cell? p = w.cell? p) : Row w' S size v n cells := by
  obtain ⟨hl, hs, A, c, hv, hc, hr⟩ := h
  refine ⟨hl, hs, A, c, hv, hc, fun hn => ?_⟩
  obtain ⟨b, off, hA, h1, h3⟩ := hr hn
  exact ⟨b, off, hA, h1, fun j u hu => (hk ⟨b, off + j, none⟩ h1).trans (h3 j u hu)⟩
theorem Row.more (h : Row w S size v n cells) (h1 : ∀ b, S b → S' b) : Row w S' size v n cells := by
  obtain ⟨hl, hs, A, c, hv, hc, hr⟩ := h
  refine ⟨hl, hs, A, c, hv, hc, fun hn => ?_⟩
  obtain ⟨b, off, hA, h3, h5⟩ := hr hn
  exact ⟨b, off, hA, h1 _ h3, h5⟩
theorem Row.below {B : Nat} (h : Row w S size v n cells) (hb : Below B w w') (hB : ∀ b, S b → b < B) : Row w' S size v n cells :=
  h.keep fun _ hp => hb.cell (hB _ hp)
theorem Row.nil_ (w : World) (S : Nat → Prop) (size : Nat) : Row w S size (.slice none 0 0) 0 [] := ⟨by simp, by simp [maxLen], none, 0, rfl, by omega, fun h => by omega⟩
end

def nodeCells (n : Nd) (kv : Value) : List Value :=
  [.int .u8 n.d.kind, .int .u64 n.d.s0, .int .u64 n.d.s1, .int .u64 n.d.s2, .int .u64 n.d.s3, .string ⟨n.d.text.toArray⟩, .int .i64 n.d.min, .int .i64 n.d.max, kv]
structure Dt.Ok (d : Dt) : Prop where
  kind : 0 ≤ d.kind ∧ d.kind ≤ 255
  set : (0 ≤ d.s0 ∧ d.s0 < 18446744073709551616) ∧ (0 ≤ d.s1 ∧ d.s1 < 18446744073709551616) ∧ (0 ≤ d.s2 ∧ d.s2 < 18446744073709551616) ∧ (0 ≤ d.s3 ∧ d.s3 < 18446744073709551616)
  text : d.text.length ≤ maxLen
  min : -9223372036854775808 ≤ d.min ∧ d.min ≤ 9223372036854775807
  max : -9223372036854775808 ≤ d.max ∧ d.max ≤ 9223372036854775807
def RInts (w : World) (S : Nat → Prop) (v : Value) (ks : List Int) : Prop := Row w S 1 v ks.length (ks.map (Value.int .i64))
def RNode (w : World) (S : Nat → Prop) (v : Value) (n : Nd) : Prop := ∃ kv, v = .agg (nodeCells n kv).toArray ∧ RInts w S kv n.kids ∧ n.d.Ok
def nodesCells (ns : List Nd) (kvs : List Value) : List Value := (List.zipWith nodeCells ns kvs).flatten
structure RNodes (w : World) (S : Nat → Prop) (v : Value) (ns : List Nd) : Prop where
  is : ∃ kvs : List Value, kvs.length = ns.length ∧ Row w S 9 v ns.length (nodesCells ns kvs) ∧ ∀ (j : Nat) (n : Nd) (kv : Value), ns[j]? = some n → kvs[j]? = some kv → RInts w S kv n.kids ∧ n.d.Ok
structure Tr where
  nodes : List Nd
  root : Int
def RTree (w : World) (S : Nat → Prop) (v : Value) (t : Tr) : Prop := ∃ nv, v = .agg #[nv, .int .i64 t.root] ∧ RNodes w S nv t.nodes ∧ -9223372036854775808 ≤ t.root ∧ t.root ≤ 9223372036854775807
structure RTrees (w : World) (S : Nat → Prop) (v : Value) (ts : List Tr) : Prop where
  is : ∃ nvs : List Value, nvs.length = ts.length ∧ Row w S 2 v ts.length (List.zipWith (fun t nv => [nv, Value.int .i64 t.root]) ts nvs).flatten ∧
    ∀ (j : Nat) (t : Tr) (nv : Value), ts[j]? = some t → nvs[j]? = some nv → RNodes w S nv t.nodes ∧ -9223372036854775808 ≤ t.root ∧ t.root ≤ 9223372036854775807

section
variable {w w' : World} {S S' : Nat → Prop} {v : Value}
theorem RInts.keep {ks : List Int} (h : RInts w S v ks) (hk : ∀ p : Addr, S p.block → w'.cell? p = w.cell? p) : RInts w' S v ks := Row.keep h hk
theorem RInts.more {ks : List Int} (h : RInts w S v ks) (h1 : ∀ b, S b → S' b) : RInts w S' v ks := Row.more h h1
theorem RNode.keep {n : Nd} (h : RNode w S v n) (hk : ∀ p : Addr, S p.block → w'.cell? p = w.cell? p) : RNode w' S v n := by
  obtain ⟨kv, hv, h1, h2⟩ := h
  exact ⟨kv, hv, h1.keep hk, h2⟩
theorem RNode.more {n : Nd} (h : RNode w S v n) (h1 : ∀ b, S b → S' b) : RNode w S' v n := by
  obtain ⟨kv, hv, h3, h4⟩ := h
  exact ⟨kv, hv, h3.more h1, h4⟩
theorem RNodes.keep {ns : List Nd} (h : RNodes w S v ns) (hk : ∀ p : Addr, S p.block → w'.cell? p = w.cell? p) : RNodes w' S v ns := by
  obtain ⟨kvs, hl, hr, he⟩ := h
  exact ⟨kvs, hl, hr.keep hk, fun j n kv h1 h2 => ⟨(he j n kv h1 h2).1.keep hk, (he j n kv h1 h2).2⟩⟩
theorem RNodes.more {ns : List Nd} (h : RNodes w S v ns) (h1 : ∀ b, S b → S' b) : RNodes w S' v ns := by
  obtain ⟨kvs, hl, hr, he⟩ := h
  exact ⟨kvs, hl, hr.more h1, fun j n kv h3 h4 => ⟨(he j n kv h3 h4).1.more h1, (he j n kv h3 h4).2⟩⟩
theorem RTree.keep {t : Tr} (h : RTree w S v t) (hk : ∀ p : Addr, S p.block → w'.cell? p = w.cell? p) : RTree w' S v t := by
  obtain ⟨nv, hv, h1, h2⟩ := h
  exact ⟨nv, hv, h1.keep hk, h2⟩
theorem RTree.more {t : Tr} (h : RTree w S v t) (h1 : ∀ b, S b → S' b) : RTree w S' v t := by
  obtain ⟨nv, hv, h3, h4⟩ := h
  exact ⟨nv, hv, h3.more h1, h4⟩
theorem RTrees.keep {ts : List Tr} (h : RTrees w S v ts) (hk : ∀ p : Addr, S p.block → w'.cell? p = w.cell? p) : RTrees w' S v ts := by
  obtain ⟨nvs, hl, hr, he⟩ := h
  exact ⟨nvs, hl, hr.keep hk, fun j n kv h1 h2 => ⟨(he j n kv h1 h2).1.keep hk, (he j n kv h1 h2).2⟩⟩
theorem RTrees.more {ts : List Tr} (h : RTrees w S v ts) (h1 : ∀ b, S b → S' b) : RTrees w S' v ts := by
  obtain ⟨nvs, hl, hr, he⟩ := h
  exact ⟨nvs, hl, hr.more h1, fun j n kv h3 h4 => ⟨(he j n kv h3 h4).1.more h1, (he j n kv h3 h4).2⟩⟩
variable {B : Nat}
theorem RInts.below {ks : List Int} (h : RInts w S v ks) (hb : Below B w w') (hB : ∀ b, S b → b < B) : RInts w' S v ks := h.keep fun _ hp => hb.cell (hB _ hp)
theorem RNodes.below {ns : List Nd} (h : RNodes w S v ns) (hb : Below B w w') (hB : ∀ b, S b → b < B) : RNodes w' S v ns := h.keep fun _ hp => hb.cell (hB _ hp)
theorem RNode.below {n : Nd} (h : RNode w S v n) (hb : Below B w w') (hB : ∀ b, S b → b < B) : RNode w' S v n := h.keep fun _ hp => hb.cell (hB _ hp)
theorem RTree.below {t : Tr} (h : RTree w S v t) (hb : Below B w w') (hB : ∀ b, S b → b < B) : RTree w' S v t := h.keep fun _ hp => hb.cell (hB _ hp)
theorem RTrees.below {ts : List Tr} (h : RTrees w S v ts) (hb : Below B w w') (hB : ∀ b, S b → b < B) : RTrees w' S v ts := h.keep fun _ hp => hb.cell (hB _ hp)
end
theorem zip_cells {α β : Type} (f : α → β → List Value) (m : Nat) (hf : ∀ a b, (f a b).length = m) (ls : List α) (bs : List β) (j : Nat) (a : α) (b : β) (ha : ls[j]? = some a) (hb : bs[j]? = some b) (i : Nat) (hi : i < m) :
    (List.zipWith f ls bs).flatten[j * m + i]? = (f a b)[i]? := by
  induction ls generalizing bs j with
  | nil => simp at ha
  | cons x ls ih =>
    cases bs with
    | nil => simp at hb
    | cons y bs =>
      simp only [List.zipWith_cons_cons, List.flatten_cons]
      cases j with
      | zero =>
        simp at ha hb; subst ha; subst hb
        rw [Nat.zero_mul, Nat.zero_add, List.getElem?_append_left (by rw [hf]; exact hi)]
      | succ j =>
        simp only [List.getElem?_cons_succ] at ha hb
        rw [List.getElem?_append_right (by rw [hf, Nat.succ_mul]; omega), hf, ← ih bs j ha hb]
        congr 1
        rw [Nat.succ_mul]; omega
/-- A node of a row of nodes: its nine cells. -/
theorem RNodes.at_ {w : World} {S : Nat → Prop} {v : Value} {ns : List Nd} (h : RNodes w S v ns) : ∃ A c, v = .slice A ns.length c ∧ ns.length ≤ c ∧ ns.length ≤ maxLen ∧
    (0 < ns.length → ∃ b off, A = some ⟨b, off, none⟩ ∧ S b ∧ ∀ (j : Nat) (n : Nd), ns[j]? = some n → ∃ kv, RInts w S kv n.kids ∧ n.d.Ok ∧ ∀ (i : Nat) (u : Value), (nodeCells n kv)[i]? = some u → w.cell? ⟨b, off + (j * 9 + i), none⟩ = some u) := by
  obtain ⟨kvs, hl, ⟨hcl, hs, A, c, hv, hc, hr⟩, he⟩ := h
  refine ⟨A, c, hv, hc, hs, fun hn => ?_⟩
  obtain ⟨b, off, hA, h1, h3⟩ := hr hn
  refine ⟨b, off, hA, h1, fun j n hj => ?_⟩
  have hjl : j < ns.length := (List.getElem?_eq_some_iff.1 hj).1
  have hkv : kvs[j]? = some (kvs[j]'(by omega)) := List.getElem?_eq_getElem (by omega)
  refine ⟨_, (he j n _ hj hkv).1, (he j n _ hj hkv).2, fun i u hu => h3 _ u ?_⟩
  have hi : i < 9 := by have := (List.getElem?_eq_some_iff.1 hu).1; simpa [nodeCells] using this
  rw [nodesCells, zip_cells nodeCells 9 (fun _ _ => rfl) ns kvs j n _ hj hkv i hi]
  exact hu
theorem RInts.at_ {w : World} {S : Nat → Prop} {v : Value} {ks : List Int} (h : RInts w S v ks) : ∃ A c, v = .slice A ks.length c ∧ ks.length ≤ c ∧ ks.length ≤ maxLen ∧
    (0 < ks.length → ∃ b off, A = some ⟨b, off, none⟩ ∧ S b ∧ ∀ (j : Nat) (k : Int), ks[j]? = some k → w.cell? ⟨b, off + j, none⟩ = some (.int .i64 k)) := by
  obtain ⟨_, hs, A, c, hv, hc, hr⟩ := h
  refine ⟨A, c, hv, hc, hs, fun hn => ?_⟩
  obtain ⟨b, off, hA, h1, h3⟩ := hr hn
  exact ⟨b, off, hA, h1, fun j k hk => h3 j _ (by simp [hk])⟩
theorem RTrees.at_ {w : World} {S : Nat → Prop} {v : Value} {ts : List Tr} (h : RTrees w S v ts) : ∃ A c, v = .slice A ts.length c ∧ ts.length ≤ c ∧ ts.length ≤ maxLen ∧
    (0 < ts.length → ∃ b off, A = some ⟨b, off, none⟩ ∧ S b ∧ ∀ (j : Nat) (t : Tr), ts[j]? = some t → ∃ nv, RNodes w S nv t.nodes ∧ (-9223372036854775808 ≤ t.root ∧ t.root ≤ 9223372036854775807) ∧
      w.cell? ⟨b, off + (j * 2), none⟩ = some nv ∧ w.cell? ⟨b, off + (j * 2 + 1), none⟩ = some (.int .i64 t.root)) := by
  obtain ⟨nvs, hl, ⟨hcl, hs, A, c, hv, hc, hr⟩, he⟩ := h
  refine ⟨A, c, hv, hc, hs, fun hn => ?_⟩
  obtain ⟨b, off, hA, h1, h3⟩ := hr hn
  refine ⟨b, off, hA, h1, fun j t hj => ?_⟩
  have hjl : j < ts.length := (List.getElem?_eq_some_iff.1 hj).1
  have hnv : nvs[j]? = some (nvs[j]'(by omega)) := List.getElem?_eq_getElem (by omega)
  refine ⟨_, (he j t _ hj hnv).1, (he j t _ hj hnv).2, h3 _ _ ?_, h3 _ _ ?_⟩
  · have := zip_cells (fun (t : Tr) nv => [nv, Value.int .i64 t.root]) 2 (fun _ _ => rfl) ts nvs j t _ hj hnv 0 (by omega)
    rw [Nat.add_zero] at this
    rw [this]; rfl
  · rw [zip_cells (fun (t : Tr) nv => [nv, Value.int .i64 t.root]) 2 (fun _ _ => rfl) ts nvs j t _ hj hnv 1 (by omega)]; rfl
theorem RNodes.known {w : World} {S : Nat → Prop} {b off c : Nat} {ns : List Nd} (h : RNodes w S (.slice (some ⟨b, off, none⟩) ns.length c) ns) (j : Nat) (n : Nd) (hj : ns[j]? = some n) :
    S b ∧ ∃ A ck, RInts w S (.slice A n.kids.length ck) n.kids ∧ n.d.Ok ∧ n.kids.length ≤ ck ∧ ∀ (i : Nat) (u : Value), (nodeCells n (.slice A n.kids.length ck))[i]? = some u → w.cell? ⟨b, off + (j * 9 + i), none⟩ = some u := by
  obtain ⟨A, c', hv, _, _, hr⟩ := h.at_
  injection hv with hv _ _
  subst hv
  have hjl : j < ns.length := (List.getElem?_eq_some_iff.1 hj).1
  obtain ⟨b', off', hA, h1, h3⟩ := hr (by omega)
  injection hA with hA
  injection hA with e1 e2
  subst e1; subst e2
  obtain ⟨kv, hk, hd, hc⟩ := h3 j n hj
  obtain ⟨Ak, ck, hkv, hl, _, _⟩ := hk.at_
  subst hkv
  exact ⟨h1, Ak, ck, hk, hd, hl, hc⟩
theorem RInts.get {w : World} {S : Nat → Prop} {A : Option Addr} {n c : Nat} {ks : List Int} (h : RInts w S (.slice A n c) ks) (j : Nat) (k : Int) (hj : ks[j]? = some k) : ∃ b off, A = some ⟨b, off, none⟩ ∧ S b ∧ w.cell? ⟨b, off + j, none⟩ = some (.int .i64 k) := by
  obtain ⟨A', c', hv, _, _, hr⟩ := h.at_
  injection hv with hv _ _
  subst hv
  have hjl : j < ks.length := (List.getElem?_eq_some_iff.1 hj).1
  obtain ⟨b, off, hA, h1, h3⟩ := hr (by omega)
  exact ⟨b, off, hA, h1, h3 j k hj⟩
end Go.Proofs.YtclfpjfjebheoaaDoor
/- Plain mathematics of names and numbers, with no program in sight: what is taken of a text, what a number's text comes to. No conditions. -/
namespace Go.Proofs.YtclfpjfjebheoaaDoor.Nm

def isLet (c : UInt8) : Bool := c == 95 || (decide (97 ≤ c) && decide (c ≤ 122)) || (decide (65 ≤ c) && decide (c ≤ 90))
def isDig (c : UInt8) : Bool := decide (48 ≤ c) && decide (c ≤ 57)
/-- May the byte at place k stand in a name there? -/
def ok (l : List UInt8) (k : Nat) : Bool := isLet (l.getD k 0) || (decide (0 < k) && isDig (l.getD k 0))
def cnt (l : List UInt8) : Nat → Nat → Nat
  | 0, k => k
  | f + 1, k => if k < l.length ∧ ok l k = true then cnt l f (k + 1) else k
/-- How many bytes are taken. -/
def nmLen (l : List UInt8) : Nat := cnt l l.length 0
def may (l : List UInt8) : Bool := decide (l ≠ []) && decide (l.length ≤ 32) && decide (nmLen l = l.length)

def IsTake (l : List UInt8) (k : Nat) : Prop := k ≤ l.length ∧ (∀ j, j < k → ok l j = true) ∧ (k < l.length → ok l k = false)

theorem cnt_spec (l : List UInt8) : ∀ f k, k ≤ l.length → l.length ≤ f + k → (∀ j, j < k → ok l j = true) → IsTake l (cnt l f k)
  | 0, k, h, hf, hk => by unfold cnt; exact ⟨h, hk, fun hlt => by omega⟩
  | f + 1, k, h, hf, hk => by
    unfold cnt
    by_cases hc : k < l.length ∧ ok l k = true
    · rw [if_pos hc]
      refine cnt_spec l f (k + 1) (by omega) (by omega) fun j hj => ?_
      by_cases e : j = k
      · rw [e]; exact hc.2
      · exact hk j (by omega)
    · rw [if_neg hc]
      refine ⟨h, hk, fun hlt => ?_⟩
      cases ho : ok l k
      · rfl
      · exact absurd ⟨hlt, ho⟩ hc
theorem nmLen_spec (l : List UInt8) : IsTake l (nmLen l) := cnt_spec l l.length 0 (by omega) (by omega) (fun j hj => by omega)
theorem IsTake.unique {l : List UInt8} {k m : Nat} (hk : IsTake l k) (hm : IsTake l m) : k = m := by
  rcases Nat.lt_trichotomy k m with h | h | h
  · have := hk.2.2 (by have := hm.1; omega)
    rw [hm.2.1 k h] at this; cases this
  · exact h
  · have := hm.2.2 (by have := hk.1; omega)
    rw [hk.2.1 m h] at this; cases this
theorem IsTake.eq {l : List UInt8} {k : Nat} (hk : IsTake l k) : k = nmLen l := hk.unique (nmLen_spec l)
theorem nmLen_le (l : List UInt8) : nmLen l ≤ l.length := (nmLen_spec l).1

/-- The value of a text of digits. -/
def val (l : List UInt8) : Nat := l.foldl (fun n c => 10 * n + (c.toNat - 48)) 0
theorem val_snoc (l : List UInt8) (c : UInt8) : val (l ++ [c]) = 10 * val l + (c.toNat - 48) := by simp [val, List.foldl_append]
def allDig (l : List UInt8) : Bool := l.all isDig
/-- A text that is no number's. -/
def badNum (l : List UInt8) : Bool := l.isEmpty || (decide (1 < l.length) && l.getD 0 0 == 48) || !allDig l
/-- What Num tells: the number, the error's number. -/
def num (l : List UInt8) (most : Int) : Int × Int :=
  if badNum l = true then (0, 4) else if (val l : Int) ≤ most then (val l, 0) else (0, 40)

theorem val_take_le (l : List UInt8) (k : Nat) : val (l.take k) ≤ val l := by
  have h : ∀ (r : List UInt8) (n : Nat), n ≤ r.foldl (fun n c => 10 * n + (c.toNat - 48)) n := by
    intro r
    induction r with
    | nil => intro n; exact Nat.le_refl _
    | cons c r ih => intro n; simp only [List.foldl_cons]; exact Nat.le_trans (by omega) (ih _)
  have e : val l = (l.drop k).foldl (fun n c => 10 * n + (c.toNat - 48)) (val (l.take k)) := by
    unfold val
    rw [← List.foldl_append, List.take_append_drop]
  rw [e]; exact h _ _

theorem isLet_nat (c : UInt8) : isLet c = (decide (c.toNat = 95) || (decide (97 ≤ c.toNat) && decide (c.toNat ≤ 122)) || (decide (65 ≤ c.toNat) && decide (c.toNat ≤ 90))) := by
  unfold isLet
  congr 1
  · congr 1
    rw [Bool.eq_iff_iff]; simp [← UInt8.toNat_inj]
theorem isDig_nat (c : UInt8) : isDig c = (decide (48 ≤ c.toNat) && decide (c.toNat ≤ 57)) := rfl
theorem getD_lt (l : List UInt8) (k : Nat) (h : k < l.length) : l.getD k 0 = l[k] := by simp [h]
theorem isTake_take (l : List UInt8) : IsTake (l.take (nmLen l)) (nmLen l) := by
  have h := nmLen_spec l
  refine ⟨by simp [h.1], fun j hj => ?_, fun hl => by simp at hl; omega⟩
  have h2 := h.2.1 j hj
  unfold ok at h2 ⊢
  have e : (l.take (nmLen l)).getD j 0 = l.getD j 0 := by simp [hj]
  rw [e]; exact h2
theorem may_take (l : List UInt8) : may (l.take (nmLen l)) = (decide (0 < nmLen l) && decide (nmLen l ≤ 32)) := by
  have h := (isTake_take l).eq
  have hl : (l.take (nmLen l)).length = nmLen l := by simp [nmLen_le l]
  unfold may
  rw [← h, hl]
  have e : (l.take (nmLen l) ≠ []) ↔ 0 < nmLen l := by rw [← List.length_pos_iff, hl]
  rw [Bool.eq_iff_iff]
  simp only [Bool.and_eq_true, decide_eq_true_eq, e, and_true]
theorem nm_stop {l : List UInt8} (h : nmLen l < l.length) : isLet (l.getD (nmLen l) 0) = false ∧ (0 < nmLen l → isDig (l.getD (nmLen l) 0) = false) := by
  have h2 := (nmLen_spec l).2.2 h
  unfold ok at h2
  rw [Bool.or_eq_false_iff] at h2
  refine ⟨h2.1, fun hp => ?_⟩
  have := h2.2
  rw [decide_eq_true hp] at this
  simpa using this
end Go.Proofs.YtclfpjfjebheoaaDoor.Nm
/- Contracts of the smallest functions of package name: a byte is a letter, a digit; what is taken of a text; is it a name. No conditions. -/
namespace Go.Proofs.YtclfpjfjebheoaaDoor
open Go.RowKit

theorem ret_bool {a b : Bool} (h : a = b) : Ending.returned (.bool a) = .returned (.bool b) := by rw [h]
theorem ret_str {a b : List UInt8} (h : a = b) : Ending.returned (.string ⟨a.toArray⟩) = .returned (.string ⟨b.toArray⟩) := by rw [h]

theorem let_table : ∀ n : Fin 256, (decide (n.val = 95) || (decide (97 ≤ n.val) && decide (n.val ≤ 122)) || (decide (65 ≤ n.val) && decide (n.val ≤ 90))) = (decide (n.val = 95) || (decide (97 ≤ n.val ||| 32) && decide (n.val ||| 32 ≤ 122))) := by decide +kernel
theorem isLet_or (c : UInt8) : Nm.isLet c = (decide ((c.toNat : Int) = 95) || (decide (97 ≤ bits .or .u8 (c.toNat : Int) 32) && decide (bits .or .u8 (c.toNat : Int) 32 ≤ 122))) := by
  have h := let_table ⟨c.toNat, c.toNat_lt⟩
  rw [Nm.isLet_nat, h]
  have e : bits .or .u8 (c.toNat : Int) 32 = ((c.toNat ||| 32 : Nat) : Int) := u8_or_nat c.toNat 32 c.toNat_lt (by omega)
  rw [e, Bool.eq_iff_iff]
  simp
  omega
set_option maxHeartbeats 400000 in
theorem letter_any (c : UInt8) (w : World) : Calls Tryd.prog 99 #[.int .u8 c.toNat] w fun e w' => e = .returned (.bool (Nm.isLet c)) ∧ w = w' := by
  obtain ⟨m, hm⟩ : ∃ m, m = bits .or .u8 (c.toNat : Int) 32 := ⟨_, rfl⟩
  have key := isLet_or c
  rw [← hm] at key
  rw [key]; clear key
  obtain ⟨b, hb⟩ : ∃ b : Int, b = (c.toNat : Int) := ⟨_, rfl⟩
  rw [← hb] at hm ⊢
  have Hm := Lib.hid hm.symm
  clear hm hb
  go_enter Tryd.func99, Tryd.ntmps99
  go_wp2_with (rw [Hm.out])
  all_goals go_ret
  all_goals refine ⟨ret_bool ?_, rfl⟩
  all_goals rw [Bool.eq_iff_iff]
  all_goals simp
  all_goals omega
set_option maxHeartbeats 400000 in
theorem digit_any (c : UInt8) (w : World) : Calls Tryd.prog 100 #[.int .u8 c.toNat] w fun e w' => e = .returned (.bool (Nm.isDig c)) ∧ w = w' := by
  have key : Nm.isDig c = decide (((c.toNat : Int) - 48) % 256 < 10) := by
    rw [Nm.isDig_nat]
    have := c.toNat_lt
    rw [Bool.eq_iff_iff]; simp; omega
  rw [key]; clear key
  obtain ⟨b, hb⟩ : ∃ b : Int, b = (c.toNat : Int) := ⟨_, rfl⟩
  rw [← hb]; clear hb
  go_enter Tryd.func100, Tryd.ntmps100
  go_wp2
  go_ret
  exact ⟨rfl, rfl⟩
end Go.Proofs.YtclfpjfjebheoaaDoor
/- Contracts of package name: what is taken of a text; is it a name. Condition: the text's length is a Go length. -/
namespace Go.Proofs.YtclfpjfjebheoaaDoor
open Go.RowKit

theorem str_eq {a : ByteArray} {l : List UInt8} (h : a.data.toList = l) : a = ⟨l.toArray⟩ := by
  obtain ⟨⟨x⟩⟩ := a
  simp at h
  rw [h]
theorem str_take (s : ByteArray) (k : Nat) : s.extract 0 k = ⟨(s.data.toList.take k).toArray⟩ := by
  apply str_eq
  rw [Lib.extract_data]
  simp
theorem ok_at (s : ByteArray) (k : Nat) (h : k < s.size) : Nm.ok s.data.toList k = (Nm.isLet s[k] || (decide (0 < k) && Nm.isDig s[k])) := by
  have h' : k < s.data.toList.length := by simpa using h
  have e : s.data.toList.getD k 0 = s[k] := by rw [Nm.getD_lt _ _ h']; rfl
  unfold Nm.ok
  rw [e]
theorem ok_step {l : List UInt8} {k : Nat} (h : ∀ j, j < k → Nm.ok l j = true) (hk : Nm.ok l k = true) : ∀ j, j < k + 1 → Nm.ok l j = true := fun j hj => by
  by_cases e : j = k
  · rw [e]; exact hk
  · exact h j (by omega)
theorem take_end (s : ByteArray) {k : Nat} (hk : k ≤ s.size) (h : ∀ j, j < k → Nm.ok s.data.toList j = true) (hn : k < s.size → Nm.ok s.data.toList k = false) :
    s.extract 0 k = ⟨(s.data.toList.take (Nm.nmLen s.data.toList)).toArray⟩ := by
  have : Nm.IsTake s.data.toList k := ⟨by simpa using hk, h, fun hl => hn (by simpa using hl)⟩
  rw [str_take, ← this.eq]
theorem ret_string {a b : ByteArray} (h : a = b) : Ending.returned (.string a) = .returned (.string b) := by rw [h]

set_option maxHeartbeats 400000 in
theorem take_any (s : ByteArray) (hs : s.size ≤ maxLen) (w : World) :
    Calls Tryd.prog 88 #[.string s] w fun e w' => e = .returned (.string ⟨(s.data.toList.take (Nm.nmLen s.data.toList)).toArray⟩) ∧ w = w' := by
  unfold maxLen at hs
  go_enter Tryd.func88, Tryd.ntmps88
  go_wp2
  go_loop [3] (fun i => ∃ k : Nat, k ≤ s.size ∧ i = .int .i64 k ∧ ∀ j, j < k → Nm.ok s.data.toList j = true) (fun i => s.size - (intOf i).toNat)
  case atStart => exact ⟨0, Nat.zero_le _, rfl, fun j hj => by omega⟩
  case round =>
    obtain ⟨k, hk, rfl, hok⟩ := hrel
    by_cases hlt : k < s.size
    · go_wp2_with (first | (go_at_call 99; refine (letter_any _ _).mono ?_; rintro e w' ⟨rfl, rfl⟩) | (go_at_call 100; refine (digit_any _ _).mono ?_; rintro e w' ⟨rfl, rfl⟩))
      all_goals have ho := ok_at s k hlt
      · go_round
        case rel => exact ⟨k + 1, by omega, by go_num, ok_step hok (by rw [ho]; simp [*])⟩
        case measure => simp [intOf]; omega
      · go_round
        case rel => exact ⟨k + 1, by omega, by go_num, ok_step hok (by rw [ho]; simp [*])⟩
        case measure => simp [intOf]; omega
      · go_ret
        exact ⟨ret_string (take_end s hk hok fun _ => by rw [ho]; simp [*]), rfl⟩
      · go_ret
        exact ⟨ret_string (take_end s hk hok fun _ => by rw [ho]; simp [*]), rfl⟩
    · go_wp2
      go_ret
      exact ⟨ret_string (take_end s hk hok fun h => absurd h hlt), rfl⟩

theorem take_len (l : List UInt8) : (⟨(l.take (Nm.nmLen l)).toArray⟩ : ByteArray).size = Nm.nmLen l := by
  have := Nm.nmLen_le l
  show (l.take (Nm.nmLen l)).toArray.size = _
  simp [this]
set_option maxHeartbeats 400000 in
theorem may_any (s : ByteArray) (hs : s.size ≤ maxLen) (w : World) :
    Calls Tryd.prog 76 #[.string s] w fun e w' => e = .returned (.bool (Nm.may s.data.toList)) ∧ w = w' := by
  obtain ⟨M, hM⟩ : ∃ M, M = Nm.may s.data.toList := ⟨_, rfl⟩
  rw [← hM]
  have HM := Lib.hid hM
  clear hM
  obtain ⟨t, ht⟩ : ∃ t : ByteArray, t = ⟨(s.data.toList.take (Nm.nmLen s.data.toList)).toArray⟩ := ⟨_, rfl⟩
  have hl := take_len s.data.toList
  have htake := fun wx => take_any s hs wx
  rw [← ht] at hl htake
  have Hl := Lib.hid hl
  have Ht := Lib.hid htake
  clear ht hl htake
  go_enter Tryd.func76, Tryd.ntmps76
  go_wp2_with (go_at_call 88; refine (Ht.out _).mono ?_; rintro e w' ⟨rfl, rfl⟩)
  all_goals go_ret
  all_goals refine ⟨ret_bool ?_, rfl⟩
  all_goals rw [HM.out, Nm.may, ← Hl.out]
  all_goals have hz : s.data.toList.length = s.size := by simp
  all_goals rw [hz, ← Lib.toList_data]
  all_goals rw [Bool.eq_iff_iff]
  all_goals simp [*] <;> omega
end Go.Proofs.YtclfpjfjebheoaaDoor
/- The lift from a walk to a law's row, for laws that answer true and let what was there stand. No program in sight; no conditions beyond each lemma's own. -/
namespace Go.Proofs.YtclfpjfjebheoaaDoor
open Go.ChangeShapes Go.WideShapes Go.ChangeAt Go.RowKit Go.ChangeMaps

section
variable {H : Type} {enc : TypeId × Value → H} {P : Program}
theorem post_of_below {f : Func} {s : ChangeSpec} {apart fresh handsOn again : Bool} {W W' : World} {args : Array Value} {v : Value} {ds gs : List (DataW H)} {before pa pv : List MemPlace}
    (hW : DataW.Whole enc P f.params.toList s.vars apart W args.toList ds gs before)
    (hres : ∀ (b : Nat) (sp : Nat → Bool) (hd : Bool), DataW.TrodAll enc P W' b sp hd f.resultTypes.toList (v.resultList f.resultTypes.size) (s.fn H (ds ++ gs)).results [])
    (hargs : ∀ sp : Nat → Bool, (∀ p ∈ before, sp p.block = true) → DataW.TrodAll enc P W' 0 sp true f.params.toList args.toList (s.fn H (ds ++ gs)).args pa)
    (hvars : ∀ sp : Nat → Bool, (∀ p ∈ before, sp p.block = true) → DataW.TrodVars enc P W' sp s.vars (s.fn H (ds ++ gs)).vars pv)
    (hps : before = pa ++ pv) (hb : Below W.heap.size W W')
    (hok : ∀ (j : Nat) (t : TypeId) (r : Value), f.resultTypes[j]? = some t → (v.resultList f.resultTypes.size)[j]? = some r → Value.okWide P W' .any 0 t r) :
    s.post enc P f apart fresh handsOn again W args v W' := by
  have hlt : ∀ p ∈ before, p.block < W.heap.size := fun p hp => hW.lt p hp
  have hold : ∀ p ∈ before, (fun b => decide (b < W.heap.size)) p.block = true := fun p hp => by simpa using hlt p hp
  refine ⟨ds, gs, before, [], pa, pv, hW, hres _ _ _, hargs _ hold, hvars _ hold, World.keptBut_mono (fun p hp => ⟨hp, ?_⟩) (hb.frame (· ∈ before)), fun _ => ?_⟩
  · rw [hps, List.mem_append] at hp
    exact Or.inr hp
  · obtain ⟨_, _, _, _, _, hz, hn⟩ := hW
    refine ⟨hok, _, _, ([] ++ pa) ++ pv, ⟨[] ++ pa, pv, trodAll_append (hargs _ (fun _ _ => rfl)) (hres _ _ _), hvars _ (fun _ _ => rfl), rfl, ?_, ?_⟩, ?_⟩
    · intro b off hp
      have hin : MemPlace.cell b off ∈ before := by rw [hps]; simpa using hp
      rw [hb.frozen (hlt _ hin)]
      exact hz b off hin
    · intro ha
      have := hn ha
      rw [hps] at this
      simpa using this
    · intro p hp _
      rw [hps]
      simpa using hp
end


section
variable {H : Type} {enc : TypeId × Value → H} {P : Program}
theorem trodAll_stays (hl : laidOutB P = true) {W W' : World} (hb : Below W.heap.size W W') {sp : Nat → Bool} :
    ∀ {ts : List TypeId} {vs : List Value} {ds : List (DataW H)} {ps : List MemPlace}, (∀ t ∈ ts, P.readableRec t = true ∧ t < P.types.size) → DataW.TrodAll enc P W 0 (fun _ => true) true ts vs ds ps →
      (∀ x ∈ ps, x.block < W.heap.size) → (∀ x ∈ ps, sp x.block = true) → DataW.TrodAll enc P W' 0 sp true ts vs ds ps
  | [], _, _, _, _, h, _, _ => by
    obtain ⟨rfl, rfl, rfl⟩ := trodAll_nil h
    exact trodAll_mk0
  | t :: ts, _, _, _, hr, h, hlt, hs => by
    obtain ⟨v, vs, d, ds, p, q, rfl, rfl, rfl, h1, h2⟩ := trodAll_cons h
    refine trodAll_cons_mk ?_ ?_
    · exact WideElems.Trod_stays hl (hr t (by simp)).1 (hr t (by simp)).2 h1 (fun x hx => hb.same (hlt x (by simp [hx]))) (fun x hx => hs x (by simp [hx]))
    · exact trodAll_stays hl hb (fun t ht => hr t (by simp [ht])) h2 (fun x hx => hlt x (by simp [hx])) (fun x hx => hs x (by simp [hx]))

/-- A law that answers true and lets what was there stand: the row's last step. -/
theorem post_true {f : Func} {s : ChangeSpec} {W W' : World} {args : Array Value} {ds gs : List (DataW H)} {before : List MemPlace} {tb : TypeId}
    (hl : laidOutB P = true) (hrd : f.params.toList.all (fun t => P.readableRec t && decide (t < P.types.size)) = true) (hres : f.resultTypes = #[tb]) (htb : P.underlying tb = some .bool) (hsv : s.vars = [])
    (h1 : (s.fn H (ds ++ gs)).results = [.lit (.bool true)]) (h2 : (s.fn H (ds ++ gs)).args = ds) (h3 : (s.fn H (ds ++ gs)).vars = [])
    (hW : DataW.Whole enc P f.params.toList s.vars false W args.toList ds gs before) (hb : Below W.heap.size W W') :
    s.post enc P f false true false false W args (.bool true) W' := by
  have hW2 := hW
  obtain ⟨p, q, hA, hV, hpq, hfz, hnd⟩ := hW2
  rw [hsv] at hV
  obtain ⟨rfl, rfl⟩ := trodVars_none hV
  simp only [List.append_nil] at hpq
  subst hpq
  have hlt : ∀ x ∈ before, x.block < W.heap.size := fun x hx => hW.lt x hx
  have hr : ∀ t ∈ f.params.toList, P.readableRec t = true ∧ t < P.types.size := fun t ht => by
    have := List.all_eq_true.1 hrd t ht
    simpa using this
  refine post_of_below (pa := before) (pv := []) hW (fun b sp hd => ?_) (fun sp hsp => ?_) (fun sp _ => ?_) (by simp) hb ?_
  · rw [h1, hres]
    exact trodAll_cons_mk (shut_bool htb true) trodAll_mk0
  · rw [h2]
    exact trodAll_stays hl hb hr hA hlt hsp
  · rw [h3, hsv]; rfl
  · exact ok_one hres rfl (okWide_bool_mk htb _)
end

def tabInts : DataW Unit → List Value
  | .agg ds => ds.map fun
    | .lit (.int k n) => .int k n
    | _ => undef
  | _ => []
def setTab (w : World) (g : Nat) (vs : List Value) : World :=
  { w with heap := w.heap.modify g fun
      | .cells _ t fr => .cells vs.toArray t fr
      | o => o }
theorem var_lt {P : Program} {W : World} {n : String} {g : Nat} {cs : Array Value} (hg : P.globalNamed n = some g) (h : W.var? P n = some cs) : g < W.heap.size := by
  unfold World.var? at h
  simp only [hg, Option.bind_some] at h
  rcases Nat.lt_or_ge g W.heap.size with h1 | h1
  · exact h1
  · rw [Array.getElem?_eq_none h1] at h; cases h
theorem cell_lt {w : World} {p : Addr} {v : Value} (h : w.cell? p = some v) : p.block < w.heap.size := by
  rcases Nat.lt_or_ge p.block w.heap.size with h1 | h1
  · exact h1
  · unfold World.cell? at h
    rw [Array.getElem?_eq_none h1] at h; cases h
theorem addr_plain {w : World} {p : Addr} {v : Value} (h : w.cell? p = some v) : ∃ b off, p = ⟨b, off, none⟩ := by
  obtain ⟨b, off, sp⟩ := p
  cases sp with
  | none => exact ⟨b, off, rfl⟩
  | some k =>
    unfold World.cell? at h
    split at h
    · simp at h
    · cases h
end Go.Proofs.YtclfpjfjebheoaaDoor
/- Two sets of bytes compared (==): four numbers each. -/
namespace Go.Proofs.YtclfpjfjebheoaaDoor
open Go.RowKit

theorem plain_u64 : Tryd.prog.plainKey 60 = true := by kernel_rfl
theorem cells_u64 : Tryd.prog.cellsOf 60 = 1 := by kernel_rfl
@[go_sem] theorem guard_set : Tryd.prog.eqGuardType Tryd.prog.depth 62 = false := by kernel_rfl
theorem und_set : Tryd.prog.underlying 62 = some (.array 4 60) := by kernel_rfl
@[go_sem] theorem run_eq_set (a0 a1 a2 a3 b0 b1 b2 b3 : Int) (W : World) :
    (Op.equalIn 10000 62 (.agg #[.int .u64 a0, .int .u64 a1, .int .u64 a2, .int .u64 a3]) (.agg #[.int .u64 b0, .int .u64 b1, .int .u64 b2, .int .u64 b3])).run Tryd.prog W = .ok (decide (a0 = b0 ∧ a1 = b1 ∧ a2 = b2 ∧ a3 = b3)) W := by
  obtain ⟨i', hi'⟩ := Option.isSome_iff_exists.1 (show (Tryd.prog.info? 60).isSome = true by kernel_rfl)
  rw [show (10000 : Nat) = 9999 + 1 from rfl, run_equalIn_array (P := Tryd.prog) W 9999 _ _ und_set hi']
  simp only [cells_u64, show List.range 4 = [0, 1, 2, 3] from rfl, Op.eqItems, Sem.run_bind]
  have he : ∀ a b : Int, (Op.equalIn 9999 60 (.int .u64 a) (.int .u64 b)).run Tryd.prog W = .ok (a == b) W := fun a b => run_equalIn_int W 9998 _ _ _ _ _ Tryd.underlying60
  simp only [run_part_plain W plain_u64 (xs := #[Value.int .u64 a0, .int .u64 a1, .int .u64 a2, .int .u64 a3]) (off := 0) (v := .int .u64 a0) rfl, run_part_plain W plain_u64 (xs := #[Value.int .u64 a0, .int .u64 a1, .int .u64 a2, .int .u64 a3]) (off := 1) (v := .int .u64 a1) rfl, run_part_plain W plain_u64 (xs := #[Value.int .u64 a0, .int .u64 a1, .int .u64 a2, .int .u64 a3]) (off := 2) (v := .int .u64 a2) rfl, run_part_plain W plain_u64 (xs := #[Value.int .u64 a0, .int .u64 a1, .int .u64 a2, .int .u64 a3]) (off := 3) (v := .int .u64 a3) rfl, run_part_plain W plain_u64 (xs := #[Value.int .u64 b0, .int .u64 b1, .int .u64 b2, .int .u64 b3]) (off := 0) (v := .int .u64 b0) rfl, run_part_plain W plain_u64 (xs := #[Value.int .u64 b0, .int .u64 b1, .int .u64 b2, .int .u64 b3]) (off := 1) (v := .int .u64 b1) rfl, run_part_plain W plain_u64 (xs := #[Value.int .u64 b0, .int .u64 b1, .int .u64 b2, .int .u64 b3]) (off := 2) (v := .int .u64 b2) rfl, run_part_plain W plain_u64 (xs := #[Value.int .u64 b0, .int .u64 b1, .int .u64 b2, .int .u64 b3]) (off := 3) (v := .int .u64 b3) rfl, Nat.mul_one, Result.andThen_ok, he, Sem.run_bind, Sem.run_ite, Sem.run_pure]
  by_cases h0 : a0 = b0 <;> by_cases h1 : a1 = b1 <;> by_cases h2 : a2 = b2 <;> by_cases h3 : a3 = b3 <;> simp [h0, h1, h2, h3]
end Go.Proofs.YtclfpjfjebheoaaDoor
/- The contract of tree.Fits. Conditions: the table of kids lies as laid; a node's fields as Go has them. -/
namespace Go.Proofs.YtclfpjfjebheoaaDoor
open Go.RowKit

def kidsTab : List Int := [0, 0, 0, 0, 0, 0, 0, 0, 2, -1, 2, -1, 1, 1, 1, 1, 1, 1, 1, 1]
def KTab (W : World) : Prop := W.var? Tryd.prog "bonsai/tree.kids" = some (kidsTab.map (Value.int .i64)).toArray
theorem gKids : Tryd.prog.globalNamed "bonsai/tree.kids" = some 1 := by kernel_rfl
theorem KTab.cell {W : World} (h : KTab W) (i : Nat) (hi : i < 20) : W.cell? ⟨1, i, none⟩ = some (.int .i64 (kidsTab.getD i 0)) := by
  have := World.var?_cell gKids h i
  have hl : kidsTab.length = 20 := rfl
  simpa [List.getD, hl, hi] using this
theorem KTab.lt {W : World} (h : KTab W) : 1 < W.heap.size := var_lt gKids h
theorem KTab.below {W W' : World} (h : KTab W) (hb : Below W.heap.size W W') : KTab W' := by
  unfold KTab at h ⊢
  rw [← h]
  unfold World.var?
  rw [gKids]
  simp only [Option.bind_some]
  rw [hb.block _ (KTab.lt h)]

def noSet (d : Dt) : Prop := d.s0 = 0 ∧ d.s1 = 0 ∧ d.s2 = 0 ∧ d.s3 = 0
instance (d : Dt) : Decidable (noSet d) := by unfold noSet; infer_instance
def noNum (d : Dt) : Prop := d.min = 0 ∧ d.max = 0
instance (d : Dt) : Decidable (noNum d) := by unfold noNum; infer_instance
/-- What a kind asks of its fields. -/
def fitsD (d : Dt) : Prop :=
  (d.kind = 0 ∧ noSet d ∧ d.text = [] ∧ noNum d) ∨ (d.kind = 1 ∧ d.text = [] ∧ noNum d) ∨ (d.kind = 2 ∧ noSet d ∧ d.text ≠ [] ∧ d.text.length ≤ 255 ∧ noNum d) ∨ (d.kind = 3 ∧ noSet d ∧ Nm.may d.text = true ∧ noNum d) ∨
  (d.kind = 4 ∧ noSet d ∧ d.text = [] ∧ noNum d) ∨ (d.kind = 5 ∧ noSet d ∧ d.text = [] ∧ noNum d) ∨
  (d.kind = 6 ∧ noSet d ∧ d.text = [] ∧ 0 ≤ d.min ∧ d.min ≤ 99 ∧ (d.max = -1 ∨ d.min ≤ d.max ∧ d.max ≤ 99)) ∨
  (d.kind = 7 ∧ noSet d ∧ d.text = [] ∧ noNum d) ∨ (d.kind = 8 ∧ noSet d ∧ d.text = [] ∧ noNum d) ∨ (d.kind = 9 ∧ noSet d ∧ Nm.may d.text = true ∧ noNum d)
instance (d : Dt) : Decidable (fitsD d) := by unfold fitsD; infer_instance
/-- What a kind asks of the number of kids. -/
def fitsK (kind k : Int) : Prop := (kind ≤ 3 ∧ k = 0) ∨ ((kind = 4 ∨ kind = 5) ∧ 2 ≤ k) ∨ (6 ≤ kind ∧ k = 1)
instance (a b : Int) : Decidable (fitsK a b) := by unfold fitsK; infer_instance
def fits (d : Dt) (k : Int) : Bool := decide (fitsD d ∧ fitsK d.kind k)

theorem list_mk (l : List UInt8) : (⟨l.toArray⟩ : ByteArray).toList = l := by rw [ByteArray.toList_eq]
theorem size_mk (l : List UInt8) : (⟨l.toArray⟩ : ByteArray).size = l.length := by simp [ByteArray.size]
theorem KTab.near {W : World} (ht : KTab W) (o : Obj) (i : Nat) (z : Int) (hi : i < 20) (hz : kidsTab.getD i 0 = z) : (W.alloc o).cell? ⟨1, i, none⟩ = some (.int .i64 z) := by
  rw [World.cell?_alloc_lt W o _ ht.lt, ht.cell i hi, hz]
set_option maxHeartbeats 2000000 in
theorem fits_any (n : Nd) (hn : n.d.Ok) (kv : Value) (k : Int) (W : World) (ht : KTab W) :
    Calls Tryd.prog 53 #[.agg (nodeCells n kv).toArray, .int .i64 k] W fun e w' => e = .returned (.bool (fits n.d k)) ∧ Below W.heap.size W w' := by
  obtain ⟨⟨kind, s0, s1, s2, s3, text, mn, mx⟩, kids⟩ := n
  obtain ⟨⟨k1, k2⟩, hset, htx, hmn, hmx⟩ := hn
  have htx' : (⟨text.toArray⟩ : ByteArray).size ≤ maxLen := by rw [size_mk]; exact htx
  have HM := Lib.hid (fun wx => may_any ⟨text.toArray⟩ htx' wx)
  clear hmn hmx hset htx htx'
  have c0 : ∀ o : Obj, (W.alloc o).cell? ⟨1, 0, none⟩ = some (.int .i64 0) := fun o => ht.near o 0 _ (by omega) rfl
  have c1 : ∀ o : Obj, (W.alloc o).cell? ⟨1, 1, none⟩ = some (.int .i64 0) := fun o => ht.near o 1 _ (by omega) rfl
  have c2 : ∀ o : Obj, (W.alloc o).cell? ⟨1, 2, none⟩ = some (.int .i64 0) := fun o => ht.near o 2 _ (by omega) rfl
  have c3 : ∀ o : Obj, (W.alloc o).cell? ⟨1, 3, none⟩ = some (.int .i64 0) := fun o => ht.near o 3 _ (by omega) rfl
  have c4 : ∀ o : Obj, (W.alloc o).cell? ⟨1, 4, none⟩ = some (.int .i64 0) := fun o => ht.near o 4 _ (by omega) rfl
  have c5 : ∀ o : Obj, (W.alloc o).cell? ⟨1, 5, none⟩ = some (.int .i64 0) := fun o => ht.near o 5 _ (by omega) rfl
  have c6 : ∀ o : Obj, (W.alloc o).cell? ⟨1, 6, none⟩ = some (.int .i64 0) := fun o => ht.near o 6 _ (by omega) rfl
  have c7 : ∀ o : Obj, (W.alloc o).cell? ⟨1, 7, none⟩ = some (.int .i64 0) := fun o => ht.near o 7 _ (by omega) rfl
  have c8 : ∀ o : Obj, (W.alloc o).cell? ⟨1, 8, none⟩ = some (.int .i64 2) := fun o => ht.near o 8 _ (by omega) rfl
  have c9 : ∀ o : Obj, (W.alloc o).cell? ⟨1, 9, none⟩ = some (.int .i64 (-1)) := fun o => ht.near o 9 _ (by omega) rfl
  have c10 : ∀ o : Obj, (W.alloc o).cell? ⟨1, 10, none⟩ = some (.int .i64 2) := fun o => ht.near o 10 _ (by omega) rfl
  have c11 : ∀ o : Obj, (W.alloc o).cell? ⟨1, 11, none⟩ = some (.int .i64 (-1)) := fun o => ht.near o 11 _ (by omega) rfl
  have c12 : ∀ o : Obj, (W.alloc o).cell? ⟨1, 12, none⟩ = some (.int .i64 1) := fun o => ht.near o 12 _ (by omega) rfl
  have c13 : ∀ o : Obj, (W.alloc o).cell? ⟨1, 13, none⟩ = some (.int .i64 1) := fun o => ht.near o 13 _ (by omega) rfl
  have c14 : ∀ o : Obj, (W.alloc o).cell? ⟨1, 14, none⟩ = some (.int .i64 1) := fun o => ht.near o 14 _ (by omega) rfl
  have c15 : ∀ o : Obj, (W.alloc o).cell? ⟨1, 15, none⟩ = some (.int .i64 1) := fun o => ht.near o 15 _ (by omega) rfl
  have c16 : ∀ o : Obj, (W.alloc o).cell? ⟨1, 16, none⟩ = some (.int .i64 1) := fun o => ht.near o 16 _ (by omega) rfl
  have c17 : ∀ o : Obj, (W.alloc o).cell? ⟨1, 17, none⟩ = some (.int .i64 1) := fun o => ht.near o 17 _ (by omega) rfl
  have c18 : ∀ o : Obj, (W.alloc o).cell? ⟨1, 18, none⟩ = some (.int .i64 1) := fun o => ht.near o 18 _ (by omega) rfl
  have c19 : ∀ o : Obj, (W.alloc o).cell? ⟨1, 19, none⟩ = some (.int .i64 1) := fun o => ht.near o 19 _ (by omega) rfl
  clear ht
  simp only [nodeCells] at *
  have hk : kind = 0 ∨ kind = 1 ∨ kind = 2 ∨ kind = 3 ∨ kind = 4 ∨ kind = 5 ∨ kind = 6 ∨ kind = 7 ∨ kind = 8 ∨ kind = 9 ∨ 10 ≤ kind := by omega
  rcases hk with rfl | rfl | rfl | rfl | rfl | rfl | rfl | rfl | rfl | rfl | hk
  all_goals go_enter Tryd.func53, Tryd.ntmps53
  all_goals go_wp2_with (go_at_call 76; refine (HM.out _).mono ?_; rintro e w' ⟨rfl, rfl⟩)
  all_goals go_ret
  all_goals refine ⟨ret_bool ?_, (Below.refl _ _).alloc (Nat.le_refl _) _⟩
  all_goals clear HM c0 c1 c2 c3 c4 c5 c6 c7 c8 c9 c10 c11 c12 c13 c14 c15 c16 c17 c18 c19
  all_goals rw [Bool.eq_iff_iff, fits, decide_eq_true_eq, fitsD, fitsK, noSet, noNum]
  all_goals simp [*]
  all_goals omega
end Go.Proofs.YtclfpjfjebheoaaDoor
/- Right arenas, in plain Lean: what the program goes over. No program in sight. -/
namespace Go.Proofs.YtclfpjfjebheoaaDoor
open Go.RowKit

/-- Is an arena right? -/
structure RightT (t : Tr) : Prop where
  shape : Shape t.nodes t.root
  fit : ∀ n ∈ t.nodes, fits n.d n.kids.length = true
structure OkTo (ns : List Nd) (root : Int) (i : Nat) : Prop where
  fit : ∀ (j : Nat) (n : Nd), j < i → ns[j]? = some n → fits n.d n.kids.length = true
  low : ∀ (j : Nat) (n : Nd), j < i → ns[j]? = some n → ∀ k ∈ n.kids, 0 ≤ k ∧ k < (j : Int)
  nodup : (root :: kidsOf (ns.take i)).Nodup
theorem kidsOf_take {ns : List Nd} {i : Nat} {n : Nd} (h : ns[i]? = some n) : kidsOf (ns.take (i + 1)) = kidsOf (ns.take i) ++ n.kids := by
  unfold kidsOf
  rw [List.take_add_one, h, List.flatMap_append]
  simp
theorem OkTo.zero (ns : List Nd) (root : Int) : OkTo ns root 0 := ⟨fun j n h => by omega, fun j n h => by omega, by simp [kidsOf]⟩
theorem OkTo.next {ns : List Nd} {root : Int} {i : Nat} {n : Nd} (h : OkTo ns root i) (hn : ns[i]? = some n) (hf : fits n.d n.kids.length = true) (hl : ∀ k ∈ n.kids, 0 ≤ k ∧ k < (i : Int)) (hd : (root :: (kidsOf (ns.take i) ++ n.kids)).Nodup) : OkTo ns root (i + 1) := by
  refine ⟨fun j m hj hm => ?_, fun j m hj hm => ?_, by rw [kidsOf_take hn]; exact hd⟩
  · rcases Nat.lt_succ_iff_lt_or_eq.1 hj with h1 | rfl
    · exact h.fit j m h1 hm
    · rw [hn] at hm; injection hm with hm; subst hm; exact hf
  · rcases Nat.lt_succ_iff_lt_or_eq.1 hj with h1 | rfl
    · exact h.low j m h1 hm
    · rw [hn] at hm; injection hm with hm; subst hm; exact hl
theorem rightT_iff {t : Tr} (h1 : t.root + 1 = t.nodes.length) (h2 : 0 ≤ t.root) (h : OkTo t.nodes t.root t.nodes.length) : RightT t ↔ ∀ j : Nat, j < t.nodes.length → (j : Int) ∈ t.root :: kidsOf t.nodes := by
  have hlen : ∀ (j : Nat) (n : Nd), t.nodes[j]? = some n → j < t.nodes.length := fun j n hn => (List.getElem?_eq_some_iff.1 hn).1
  have hnd := h.nodup
  rw [List.take_length] at hnd
  constructor
  · intro hr j hj
    exact hr.shape.perm.mem_iff.2 (mem_rangeI.2 ⟨by omega, by omega⟩)
  · intro hall
    refine ⟨⟨h1, h2, fun i n hn => h.low i n (hlen i n hn) hn, ?_⟩, fun n hn => ?_⟩
    · refine (List.perm_ext_iff_of_nodup hnd (nodup_rangeI _)).2 fun j => ?_
      rw [mem_rangeI]
      constructor
      · intro hj
        rcases List.mem_cons.1 hj with rfl | hj
        · omega
        · obtain ⟨i, n, hn, hk⟩ := mem_kidsOf.1 hj
          have := h.low i n (hlen i n hn) hn j hk
          have := hlen i n hn
          omega
      · rintro ⟨ha, hb⟩
        have := hall j.toNat (by omega)
        rwa [Int.toNat_of_nonneg ha] at this
    · obtain ⟨i, hi⟩ := List.getElem?_of_mem hn
      exact h.fit i n (hlen i n hi) hi
theorem not_right_fit {t : Tr} {i : Nat} {n : Nd} (hn : t.nodes[i]? = some n) (hf : fits n.d n.kids.length = false) : ¬ RightT t := fun h => by
  have := h.fit n (List.mem_of_getElem? hn)
  rw [hf] at this; cases this
theorem not_right_low {t : Tr} {i : Nat} {n : Nd} {k : Int} (hn : t.nodes[i]? = some n) (hk : k ∈ n.kids) (hf : ¬ (0 ≤ k ∧ k < (i : Int))) : ¬ RightT t := fun h => hf (h.shape.low i n hn k hk)
theorem not_right_had {t : Tr} {i m : Nat} {n : Nd} {k : Int} (hn : t.nodes[i]? = some n) (hk : n.kids[m]? = some k) (hf : k ∈ t.root :: (kidsOf (t.nodes.take i) ++ n.kids.take m)) : ¬ RightT t := fun h => by
  have hnd : (t.root :: kidsOf t.nodes).Nodup := h.shape.perm.nodup_iff.2 (nodup_rangeI _)
  have hm : m < n.kids.length := (List.getElem?_eq_some_iff.1 hk).1
  have e : kidsOf t.nodes = (kidsOf (t.nodes.take i) ++ n.kids.take m) ++ (n.kids.drop m ++ kidsOf (t.nodes.drop (i + 1))) := by
    have h1 : kidsOf t.nodes = kidsOf (t.nodes.take i) ++ kidsOf (t.nodes.drop i) := by unfold kidsOf; rw [← List.flatMap_append, List.take_append_drop]
    rw [h1, kidsOf_split hn, List.append_assoc, ← List.append_assoc (n.kids.take m), List.take_append_drop]
  rw [e, ← List.cons_append, List.nodup_append] at hnd
  have hkd : k ∈ n.kids.drop m := by
    rw [List.drop_eq_getElem_cons hm]
    have : n.kids[m] = k := by rw [List.getElem?_eq_getElem hm] at hk; injection hk
    rw [this]; simp
  exact hnd.2.2 k hf k (List.mem_append_left _ hkd) rfl
theorem not_right_root {t : Tr} (h : ¬ (t.root + 1 = t.nodes.length ∧ 0 ≤ t.root)) : ¬ RightT t := fun hr => h ⟨hr.shape.top, hr.shape.pos⟩

/-- Which numbers were told. -/
def hadOf (n : Nat) (M : List Int) : List Value := (List.range n).map fun (j : Nat) => Value.bool (decide ((j : Int) ∈ M))
@[simp] theorem hadOf_length (n : Nat) (M : List Int) : (hadOf n M).length = n := by simp [hadOf]
theorem hadOf_at {n : Nat} {M : List Int} {k : Int} (h0 : 0 ≤ k) (hk : k.toNat < n) : (hadOf n M)[k.toNat]? = some (.bool (decide (k ∈ M))) := by
  unfold hadOf
  rw [List.getElem?_map, List.getElem?_range hk]
  simp only [Option.map_some]
  rw [Int.toNat_of_nonneg h0]
theorem hadOf_set {n : Nat} {M : List Int} {k : Int} (h0 : 0 ≤ k) : (hadOf n M).set k.toNat (.bool true) = hadOf n (M ++ [k]) := by
  apply List.ext_getElem?
  intro i
  unfold hadOf
  rw [List.getElem?_set, List.getElem?_map, List.getElem?_map]
  rcases Nat.lt_or_ge i n with hi | hi
  · rw [List.getElem?_range hi]
    by_cases hki : k.toNat = i
    · subst hki
      have e : ((k.toNat : Nat) : Int) = k := by omega
      simp [hi, e]
    · rw [if_neg hki]
      have : ((i : Nat) : Int) ≠ k := by omega
      simp [this]
  · rw [List.getElem?_eq_none (by simpa using hi)]
    by_cases hki : k.toNat = i
    · rw [if_pos hki, if_neg (by simp; omega)]; rfl
    · rw [if_neg hki]; rfl
theorem hadOf_nil (n : Nat) : hadOf n [] = List.replicate n (.bool false) := by
  unfold hadOf
  apply List.ext_getElem?
  intro i
  simp [List.getElem?_replicate]
  rcases Nat.lt_or_ge i n with hi | hi
  · simp [hi]
  · simp [Nat.not_lt.2 hi]
theorem hadOf_all {n : Nat} {M : List Int} : (∀ j : Nat, j < n → (j : Int) ∈ M) ↔ Value.bool false ∉ hadOf n M := by
  unfold hadOf
  simp only [List.mem_map, List.mem_range, Value.bool.injEq, decide_eq_false_iff_not, not_exists, not_and, Decidable.not_not]
end Go.Proofs.YtclfpjfjebheoaaDoor
/- Rows of the call's own: made shorter, written over in the midst, read. No program in sight. -/
namespace Go.Proofs.YtclfpjfjebheoaaDoor
open Go.RowKit

theorem nil_or_snoc {α : Type} (l : List α) : l = [] ∨ ∃ L b, l = L ++ [b] := by
  rcases List.eq_nil_or_concat l with h | ⟨L, b, h⟩
  · exact .inl h
  · exact .inr ⟨L, b, by simpa using h⟩

section
variable {w w' : World} {base : Nat} {e : TypeId} {size n m c : Nat} {A : Option Addr} {v : Value} {xs : List Value}
theorem own_slice (h : w.ownsRow base e size v n xs) : ∃ A c, v = .slice A n c ∧ n ≤ c ∧ c ≤ maxLen ∧ (A = none → n = 0) := by
  rcases h.2 with ⟨rfl, rfl⟩ | ⟨g, cap, cur, rfl, _, _, h1, h2, _⟩
  · exact ⟨none, 0, rfl, Nat.le_refl _, by simp, fun _ => rfl⟩
  · exact ⟨_, _, rfl, h1, h2, fun h => by cases h⟩
theorem own_some (h : w.ownsRow base e size (.slice A n c) n xs) (hn : 0 < n) : ∃ g, A = some ⟨g, 0, none⟩ ∧ base ≤ g ∧ g < w.heap.size ∧ n ≤ c := by
  rcases h.2 with ⟨h1, rfl⟩ | ⟨g, cap, cur, h1, hb, hh, h2, _⟩
  · omega
  · injection h1 with h1 _ h3
    subst h3
    exact ⟨g, h1, hb, (Array.getElem?_eq_some_iff.1 hh).1, h2⟩
theorem own_shrink (h : w.ownsRow base e size (.slice A n c) n xs) (hm : m ≤ n) : w.ownsRow base e size (.slice A m c) m (xs.take (m * size)) := by
  have hmul : m * size ≤ n * size := Nat.mul_le_mul_right _ hm
  refine ⟨by rw [List.length_take, h.1]; omega, ?_⟩
  rcases h.2 with ⟨h1, rfl⟩ | ⟨g, cap, cur, h1, hb, hh, h2, h3, h4, h5⟩
  · obtain rfl : m = 0 := by omega
    exact .inl ⟨h1, rfl⟩
  · injection h1 with h1 _ hc
    subst h1; subst hc
    refine .inr ⟨g, _, cur, rfl, hb, hh, by omega, h3, h4, ?_⟩
    rw [← h5, List.take_take]
    congr 1; omega
theorem own_blk_lt (h : w.ownsRow base e size v n xs) {g : Nat} (hg : v.ownBlock = some g) : base ≤ g ∧ g < w.heap.size := h.lt g hg
theorem own_more {base' : Nat} (h : w.ownsRow base e size v n xs) (hb : base' ≤ base) : w.ownsRow base' e size v n xs := World.ownsRow.mono h hb
theorem Row.of_own {S : Nat → Prop} (h : w.ownsRow base e size v n xs) (hS : ∀ g, v.ownBlock = some g → S g) (hn : n ≤ maxLen) : Row w S size v n xs := by
  obtain ⟨A, c, rfl, h1, h2, _⟩ := own_slice h
  refine ⟨h.1, hn, A, c, rfl, h1, fun h0 => ?_⟩
  obtain ⟨g, rfl, hb, hlt, _⟩ := own_some h h0
  refine ⟨g, 0, rfl, hS g rfl, fun j u hu => ?_⟩
  have := h.cells (g := g) rfl j u hu
  have e : (⟨g, 0, none⟩ : Addr).add j = ⟨g, 0 + j, none⟩ := by
    unfold Addr.add
    split <;> simp_all
  rwa [e] at this
theorem own_small (h : w.ownsRow base e size v n xs) : n ≤ maxLen := by
  obtain ⟨A, c, rfl, h1, h2, _⟩ := own_slice h
  omega
theorem RInts.of_own {S : Nat → Prop} {ks : List Int} (h : w.ownsRow base e 1 v ks.length (ks.map (Value.int .i64))) (hS : ∀ g, v.ownBlock = some g → S g) : RInts w S v ks := Row.of_own h hS (own_small h)
theorem own_setCells {g : Nat} (h : w.ownsRow base e 1 (.slice (some ⟨g, 0, none⟩) n c) n xs) : ∀ (vs : List Value) (o : Nat), o + vs.length ≤ n →
    (w.setCells g o vs).ownsRow base e 1 (.slice (some ⟨g, 0, none⟩) n c) n (xs.take o ++ vs ++ xs.drop (o + vs.length)) := by
  intro vs
  induction vs generalizing w xs with
  | nil => intro o _; simpa [World.setCells] using h
  | cons u vs ih =>
    intro o ho
    simp only [List.length_cons] at ho
    have h1 := (h.stored o u).1
    have hl := h.1
    have h2 := ih h1 (o + 1) (by omega)
    simp only [World.setCells]
    have e : xs.take o ++ (u :: vs) ++ xs.drop (o + (vs.length + 1)) = (xs.set o u).take (o + 1) ++ vs ++ (xs.set o u).drop (o + 1 + vs.length) := by
      have e1 : (xs.set o u).take (o + 1) = xs.take o ++ [u] := by
        rw [List.take_add_one, List.take_set_of_le (by omega), List.getElem?_set_self (by omega)]; rfl
      have e2 : (xs.set o u).drop (o + 1 + vs.length) = xs.drop (o + (vs.length + 1)) := by
        rw [List.drop_set_of_lt (by omega)]; congr 1; omega
      rw [e1, e2]; simp
    rw [List.length_cons, e]
    exact h2
end
theorem grown_of_alloc {w w' : World} {o : Obj} {r : Option Nat} (h : (w.alloc o).grownBy w' r) : w.grownBy w' r :=
  ⟨h.os, h.tape, h.output, by have := h.size; simp at this; omega, fun k hk hr => (h.block k (by simp; omega) hr).trans (Below.heap_alloc w o k hk)⟩
section
variable {P : Program} (w : World)
/-- out = append(out, x): what is appended lies in a block of its own. -/
theorem wpList_append1 {ops : Array Oper} {rest : List Oper} {o : Oper} {a : Act} {Q : Exit → Act → World → Prop} (hgd : o.guard = none) (s x : Operand) (t : TypeId)
    (ho : o.op = .call { callee := .builtin .append, args := #[s, x], argTypes := #[t, t] })
    (base : Nat) (e : TypeId) (i : TypeInfo) (z : Value) (size bytes : Nat) (ht : P.underlying t = some (.slice e)) (hi : P.info? e = some i) (hz : i.zero = some z)
    (hsize : i.size = size) (hby : i.bytes = bytes) (hzs : z.cells.size = size) (hsz : 0 < size)
    (v : Value) (n : Nat) (xs : List Value) (hs : a.eval s = v) (hown : w.ownsRow base e size v n xs)
    (news : List Value) (hnl : news.length = size) (hx : a.eval x = .slice (some ⟨w.heap.size, 0, none⟩) 1 1) (h1 : ∀ u ∈ news, u.oneCell' = true)
    (h63 : n + 1 ≤ maxLen) (hbytes : (n + 1) * bytes ≤ 140737488355328) (hbase : base ≤ w.heap.size)
    (h : ∀ v' w', w'.ownsRow base e size v' (n + 1) (xs ++ news) → w.grownBy w' v.ownBlock → (v'.ownBlock = v.ownBlock ∨ v'.ownBlock = some (w.heap.size + 1)) → wpList P ops Q rest (a.put o.dst v') w') :
    wpList P ops Q (o :: rest) a (w.alloc (.cells news.toArray e)) := by
  refine wpList_append_any (w.alloc (.cells news.toArray e)) hgd s x t ho base e i z size bytes ht hi hz hsize hby hzs hsz v n xs hs (hown.alloc _) (w.heap.size + 1) (some ⟨w.heap.size, 0, none⟩) 1 1 news hx ?_ h1 h63 hbytes (by simp; omega) ?_
  · refine ⟨by rw [hnl]; omega, fun _ => ⟨_, rfl, Nat.lt_succ_self _, fun j u hu => ?_⟩⟩
    have e1 : (⟨w.heap.size, 0, none⟩ : Addr).add j = ⟨w.heap.size, j, none⟩ := by
      unfold Addr.add
      split <;> simp_all
    rw [e1, (Blk.new w e news.toArray).cell j]
    simpa using hu
  · intro v' w' h2 h3 h4
    refine h v' w' h2 (grown_of_alloc h3) ?_
    simpa using h4
end
theorem below_of_grown {w w' : World} {B : Nat} {r : Option Nat} (h : w.grownBy w' r) (hB : B ≤ w.heap.size) (hr : ∀ g, r = some g → B ≤ g) : Below B w w' :=
  ⟨h.os, h.tape, h.output, h.size, fun k hk => h.block k (by omega) (fun e => by have := hr k e.symm; omega)⟩
theorem Row.reads {w : World} {S : Nat → Prop} {B size n c : Nat} {A : Option Addr} {cells : List Value} (h : Row w S size (.slice A n c) n cells) (hS : ∀ b, S b → b < B) : Reads w B size A n cells := by
  obtain ⟨hl, _, A', c', hv, _, hr⟩ := h
  injection hv with hv _ _
  subst hv
  refine ⟨hl, fun hn => ?_⟩
  obtain ⟨b, off, rfl, h2, h3⟩ := hr hn
  refine ⟨_, rfl, hS _ h2, fun j u hu => ?_⟩
  have e1 : (⟨b, off, none⟩ : Addr).add j = ⟨b, off + j, none⟩ := by
    unfold Addr.add
    split <;> simp_all
  rw [e1]
  exact h3 j u hu
theorem grown_undrew {w w' : World} {r : Option Nat} (h : w.drew.grownBy w' r) : w.grownBy w' r := ⟨h.os, h.tape, h.output, h.size, h.block⟩
theorem own_blk_some {w : World} {base : Nat} {e : TypeId} {size n c : Nat} {a : Addr} {xs : List Value} (h : w.ownsRow base e size (.slice (some a) n c) n xs) : a = ⟨a.block, 0, none⟩ ∧ base ≤ a.block ∧ a.block < w.heap.size := by
  rcases h.2 with ⟨h1, _⟩ | ⟨g', cap, cur, h1, hb, hh, _⟩
  · simp at h1
  · injection h1 with h1 _ _
    injection h1 with h1
    subst h1
    exact ⟨rfl, hb, (Array.getElem?_eq_some_iff.1 hh).1⟩
theorem ownBlock_some (a : Addr) (n c : Nat) (h : a = ⟨a.block, 0, none⟩) : (Value.slice (some a) n c).ownBlock = some a.block := by rw [h]; simp [Value.ownBlock]
theorem grown_setCells {w0 w : World} {g : Nat} (h : w0.grownBy w (some g)) : ∀ (vs : List Value) (o : Nat), w0.grownBy (w.setCells g o vs) (some g) := by
  intro vs
  induction vs generalizing w with
  | nil => intro o; exact h
  | cons u vs ih =>
    intro o
    exact ih (only_setCell h (.inl rfl) u) (o + 1)
theorem grown_refl (w : World) (r : Option Nat) : w.grownBy w r := ⟨rfl, rfl, rfl, Nat.le_refl _, fun _ _ _ => rfl⟩
/-- The tail of a row of numbers, turned about. -/
theorem own_reversed {w : World} {base : Nat} {e : TypeId} {g c q : Nat} {T K : List Int} (h : w.ownsRow base e 1 (.slice (some ⟨g, 0, none⟩) (T ++ K).length c) (T ++ K).length ((T ++ K).map (Value.int .i64))) :
    ((w.drewN q).setCells g T.length (K.map (Value.int .i64)).reverse).ownsRow base e 1 (.slice (some ⟨g, 0, none⟩) (T ++ K.reverse).length c) (T ++ K.reverse).length ((T ++ K.reverse).map (Value.int .i64)) := by
  have h1 : (w.drewN q).ownsRow base e 1 (.slice (some ⟨g, 0, none⟩) (T ++ K).length c) (T ++ K).length ((T ++ K).map (Value.int .i64)) := h
  have h2 := own_setCells h1 (K.map (Value.int .i64)).reverse T.length (by simp)
  have e1 : (T ++ K.reverse).length = (T ++ K).length := by simp
  have e2 : ((T ++ K).map (Value.int .i64)).take T.length ++ (K.map (Value.int .i64)).reverse ++ ((T ++ K).map (Value.int .i64)).drop (T.length + (K.map (Value.int .i64)).reverse.length) = (T ++ K.reverse).map (Value.int .i64) := by
    rw [List.map_append, List.take_append_of_le_length (by simp), List.drop_of_length_le (by simp)]
    simp [List.take_of_length_le]
  rw [e1, ← e2]
  exact h2
theorem grown_set1 (w : World) (g i : Nat) (a : Value) : w.grownBy (w.setCell ⟨g, i, none⟩ a) (some g) := only_setCell (p := ⟨g, i, none⟩) (grown_refl w (some g)) (.inl rfl) a
theorem grown_set2 (w : World) (g i j : Nat) (a b : Value) : w.grownBy ((w.setCell ⟨g, i, none⟩ a).setCell ⟨g, j, none⟩ b) (some g) := only_setCell (p := ⟨g, j, none⟩) (grown_set1 w g i a) (.inl rfl) b
end Go.Proofs.YtclfpjfjebheoaaDoor
/- Rows of nodes of the call's own; a map from numbers to numbers. No program in sight but for types' numbers. -/
namespace Go.Proofs.YtclfpjfjebheoaaDoor
open Go.RowKit Go.WideShapes Go.Maps

/-- Nothing of block b is frozen. -/
def Soft (w : World) (b : Nat) : Prop := ∀ o, w.frozen? ⟨b, o, none⟩ = false
theorem Soft.of_block {w w' : World} {b : Nat} (h : Soft w b) (e : w'.heap[b]? = w.heap[b]?) : Soft w' b := fun o => by
  have := h o
  unfold World.frozen? at this ⊢
  simp only at this ⊢
  rw [e]; exact this
theorem Soft.grown {w w' : World} {b : Nat} {r : Option Nat} (h : Soft w b) (hg : w.grownBy w' r) (hb : b < w.heap.size) (hr : some b ≠ r) : Soft w' b := h.of_block (hg.block b hb hr)
theorem Soft.below {w w' : World} {b B : Nat} (h : Soft w b) (hg : Below B w w') (hb : b < B) : Soft w' b := h.of_block (hg.block b hb)
theorem Blk.soft {w : World} {g : Nat} {t : TypeId} {cs : Array Value} (h : Blk w g t cs) : Soft w g := fun o => h.frozen o
theorem Soft.setCell {w : World} {b : Nat} (h : Soft w b) (p : Addr) (u : Value) : Soft (w.setCell p u) b := fun o => by
  have := h o
  rw [← this]
  unfold World.frozen? World.setCell
  simp only [Array.getElem?_modify]
  by_cases e : p.block = b
  · rw [if_pos e]
    cases hh : w.heap[b]? with
    | none => rfl
    | some o => cases o <;> rfl
  · rw [if_neg e]
theorem own_soft {w : World} {base : Nat} {e : TypeId} {size n g : Nat} {v : Value} {xs : List Value} (h : w.ownsRow base e size v n xs) (hg : v.ownBlock = some g) : Soft w g := by
  rcases h.2 with ⟨rfl, _⟩ | ⟨g', cap, cur, rfl, _, hh, _⟩
  · simp [Value.ownBlock] at hg
  · have : g' = g := by simpa [Value.ownBlock] using hg
    subst this
    exact Blk.soft (t := e) hh
def KidSet (w : World) (base : Nat) (X : Nat → Prop) (v : Value) (b : Nat) : Prop := base ≤ b ∧ b < w.heap.size ∧ v.ownBlock ≠ some b ∧ X b ∧ Soft w b
structure OwnNK (w : World) (e : TypeId) (base : Nat) (X : Nat → Prop) (v : Value) (ns : List Nd) (kvs : List Value) : Prop where
  len : kvs.length = ns.length
  row : w.ownsRow base e 9 v ns.length (nodesCells ns kvs)
  kid : ∀ (j : Nat) (n : Nd) (kv : Value), ns[j]? = some n → kvs[j]? = some kv → RInts w (KidSet w base X v) kv n.kids ∧ n.d.Ok
def OwnNodes (w : World) (e : TypeId) (base : Nat) (X : Nat → Prop) (v : Value) (ns : List Nd) : Prop := ∃ kvs, OwnNK w e base X v ns kvs

section
variable {w w' : World} {e : TypeId} {base : Nat} {X Y : Nat → Prop} {v v' : Value} {ns : List Nd} {kvs : List Value}
theorem OwnNK.nil_ (w : World) (e : TypeId) (base : Nat) (X : Nat → Prop) : OwnNK w e base X (.slice none 0 0) [] [] := ⟨rfl, World.ownsRow_nil _ _ _ _, fun j n kv h => by simp at h⟩
theorem OwnNK.frame {r : Option Nat} (h : OwnNK w e base X v ns kvs) (hg : w.grownBy w' r) (hv : v.ownBlock = none ∨ v.ownBlock ≠ r) (hX : ∀ g, r = some g → ¬ X g) : OwnNK w' e base X v ns kvs := by
  refine ⟨h.len, h.row.kept hg hv, fun j n kv h1 h2 => ?_⟩
  obtain ⟨hk, hd⟩ := h.kid j n kv h1 h2
  refine ⟨(RInts.keep hk fun p hp => ?_).more fun _ hb => ⟨hb.1, Nat.lt_of_lt_of_le hb.2.1 hg.size, hb.2.2.1, hb.2.2.2.1, hb.2.2.2.2.grown hg hb.2.1 (fun e => hX _ e.symm hb.2.2.2.1)⟩, hd⟩
  exact World.cell?_of_block (hg.block p.block hp.2.1 (fun e => hX _ e.symm hp.2.2.2.1))
theorem OwnNK.weaken (h : OwnNK w e base X v ns kvs) (hX : ∀ b, base ≤ b → b < w.heap.size → X b → Y b) : OwnNK w e base Y v ns kvs :=
  ⟨h.len, h.row, fun j n kv h1 h2 => ⟨(h.kid j n kv h1 h2).1.more fun _ hb => ⟨hb.1, hb.2.1, hb.2.2.1, hX _ hb.1 hb.2.1 hb.2.2.2.1, hb.2.2.2.2⟩, (h.kid j n kv h1 h2).2⟩⟩
theorem OwnNK.base_ {base' : Nat} (h : OwnNK w e base X v ns kvs) (hb : base' ≤ base) : OwnNK w e base' X v ns kvs :=
  ⟨h.len, own_more h.row hb, fun j n kv h1 h2 => ⟨(h.kid j n kv h1 h2).1.more fun _ hb2 => ⟨Nat.le_trans hb hb2.1, hb2.2.1, hb2.2.2.1, hb2.2.2.2⟩, (h.kid j n kv h1 h2).2⟩⟩
theorem OwnNodes.base_ {base' : Nat} (h : OwnNodes w e base X v ns) (hb : base' ≤ base) : OwnNodes w e base' X v ns := by
  obtain ⟨kvs, h⟩ := h
  exact ⟨kvs, h.base_ hb⟩
/-- Writes to one block below, and new blocks, leave it. -/
theorem OwnNodes.low {g : Nat} (h : OwnNodes w e base X v ns) (hg : w.grownBy w' (some g)) (hlt : g < base) : OwnNodes w' e base X v ns := by
  obtain ⟨kvs, h⟩ := h
  refine ⟨kvs, ((h.weaken (Y := fun b => base ≤ b ∧ X b) (fun b h1 _ h3 => ⟨h1, h3⟩)).frame hg ?_ (fun r e hX => ?_)).weaken (fun _ _ _ h => h.2)⟩
  · rcases hv : v.ownBlock with _ | r
    · exact .inl rfl
    · refine .inr fun e => ?_
      injection e with e
      have := (own_blk_lt h.row hv).1
      omega
  · injection e with e
    have := hX.1
    omega
theorem OwnNodes.weaken (h : OwnNodes w e base X v ns) (hX : ∀ b, base ≤ b → b < w.heap.size → X b → Y b) : OwnNodes w e base Y v ns := by
  obtain ⟨kvs, h⟩ := h
  exact ⟨kvs, h.weaken hX⟩
theorem OwnNodes.frame {r : Option Nat} (h : OwnNodes w e base X v ns) (hg : w.grownBy w' r) (hv : v.ownBlock = none ∨ v.ownBlock ≠ r) (hX : ∀ g, r = some g → ¬ X g) : OwnNodes w' e base X v ns := by
  obtain ⟨kvs, h⟩ := h
  exact ⟨kvs, h.frame hg hv hX⟩
theorem OwnNodes.below (h : OwnNodes w e base X v ns) (hb : Below w.heap.size w w') : OwnNodes w' e base X v ns := by
  obtain ⟨kvs, h⟩ := h
  exact ⟨kvs, h.frame (only_of_below hb none) (by cases v.ownBlock <;> simp) (fun g e => by cases e)⟩
theorem nodesCells_snoc {n : Nd} {kv : Value} (h : kvs.length = ns.length) : nodesCells (ns ++ [n]) (kvs ++ [kv]) = nodesCells ns kvs ++ nodeCells n kv := by
  unfold nodesCells
  rw [List.zipWith_append h.symm]
  simp
theorem OwnNK.push {n : Nd} {kv : Value} (h : OwnNK w e base X v ns kvs) (hk : RInts w (KidSet w base X v) kv n.kids) (hd : n.d.Ok)
    (hown : w'.ownsRow base e 9 v' (ns.length + 1) (nodesCells ns kvs ++ nodeCells n kv)) (hg : w.grownBy w' v.ownBlock) (hat : v'.ownBlock = v.ownBlock ∨ ∀ g, v'.ownBlock = some g → w.heap.size ≤ g) : OwnNK w' e base X v' (ns ++ [n]) (kvs ++ [kv]) := by
  have hset : ∀ b, KidSet w base X v b → KidSet w' base X v' b := fun b hb => ⟨hb.1, Nat.lt_of_lt_of_le hb.2.1 hg.size, fun e => by
    rcases hat with h1 | h1
    · exact hb.2.2.1 (h1 ▸ e)
    · have := h1 b e; have := hb.2.1; omega, hb.2.2.2.1, hb.2.2.2.2.grown hg hb.2.1 (fun e => hb.2.2.1 e.symm)⟩
  have hkeep : ∀ p : Addr, KidSet w base X v p.block → w'.cell? p = w.cell? p := fun p hp => World.cell?_of_block (hg.block p.block hp.2.1 (fun e => hp.2.2.1 e.symm))
  refine ⟨by simp [h.len], by rw [List.length_append, nodesCells_snoc h.len]; exact hown, fun j m kv' h1 h2 => ?_⟩
  rcases Nat.lt_or_ge j ns.length with hj | hj
  · rw [List.getElem?_append_left hj] at h1
    rw [List.getElem?_append_left (by have := h.len; omega)] at h2
    obtain ⟨a, b⟩ := h.kid j m kv' h1 h2
    exact ⟨(a.keep hkeep).more hset, b⟩
  · rw [List.getElem?_append_right hj] at h1
    rw [List.getElem?_append_right (by have := h.len; omega), h.len] at h2
    have hj0 : j - ns.length = 0 := by
      rcases Nat.eq_zero_or_pos (j - ns.length) with h0 | h0
      · exact h0
      · rw [List.getElem?_eq_none (by simp; omega)] at h1; cases h1
    rw [hj0] at h1 h2
    simp at h1 h2
    subst h1; subst h2
    exact ⟨(hk.keep hkeep).more hset, hd⟩
theorem OwnNK.nodes {S : Nat → Prop} (h : OwnNK w e base X v ns kvs) (hS : ∀ b, base ≤ b → b < w.heap.size → (v.ownBlock = some b ∨ X b) → S b) : RNodes w S v ns := by
  refine ⟨⟨kvs, h.len, Row.of_own h.row (fun g hg => ?_) (own_small h.row), fun j n kv h1 h2 => ⟨(h.kid j n kv h1 h2).1.more fun b hb => hS b hb.1 hb.2.1 (.inr hb.2.2.2.1), (h.kid j n kv h1 h2).2⟩⟩⟩
  obtain ⟨h1, h2⟩ := own_blk_lt h.row hg
  exact hS g h1 h2 (.inl hg)
theorem OwnNK.nodesS {S : Nat → Prop} (h : OwnNK w e base X v ns kvs) (hS : ∀ b, base ≤ b → b < w.heap.size → (v.ownBlock = some b ∨ X b) → Soft w b → S b) : RNodes w S v ns := by
  refine ⟨⟨kvs, h.len, Row.of_own h.row (fun g hg => ?_) (own_small h.row), fun j n kv h1 h2 => ⟨(h.kid j n kv h1 h2).1.more fun b hb => hS b hb.1 hb.2.1 (.inr hb.2.2.2.1) hb.2.2.2.2, (h.kid j n kv h1 h2).2⟩⟩⟩
  obtain ⟨h1, h2⟩ := own_blk_lt h.row hg
  exact hS g h1 h2 (.inl hg) (own_soft h.row hg)
theorem RNodes.grown {r : Option Nat} {S : Nat → Prop} (h : RNodes w S v ns) (hg : w.grownBy w' r) (hS : ∀ b, S b → b < w.heap.size ∧ r ≠ some b) : RNodes w' S v ns :=
  h.keep fun p hp => World.cell?_of_block (hg.block p.block (hS _ hp).1 (fun e => (hS _ hp).2 e.symm))
end

/-- Block M is a map of at most n entries that reads as this function. -/
def MapIs (P : Program) (w : World) (k e : TypeId) (M n : Nat) (place : Int → Int) : Prop :=
  ∃ D : DataW Unit, w.ownsMap P k (plainElem P e) M n D ∧ IsMap D ∧ ∀ z : Int, D.atKey (.int .i64 z) (.lit (.int .i64 0)) = .lit (.int .i64 (place z))
section
variable {P : Program} {w w' : World} {k e : TypeId} {M n : Nat} {place : Int → Int} {z x : Int}
theorem MapIs.new (P : Program) (w : World) (k e : TypeId) : MapIs P (w.alloc (.map #[] 0)) k e w.heap.size 0 (fun _ => 0) :=
  ⟨.map [], World.ownsMap_made _ _ _ _, isMap_empty, fun _ => rfl⟩
theorem MapIs.kept {row : Option Nat} (h : MapIs P w k e M n place) (hg : w.grownBy w' row) (hne : some M ≠ row) : MapIs P w' k e M n place := by
  obtain ⟨D, h1, h2, h3⟩ := h
  exact ⟨D, h1.kept hg hne, h2, h3⟩
theorem MapIs.lt (h : MapIs P w k e M n place) : M < w.heap.size := by
  obtain ⟨D, h1, _⟩ := h
  exact h1.lt
theorem MapIs.put {D : DataW Unit} (h1 : w'.ownsMap P k (plainElem P e) M (n + 1) (D.put (.int .i64 z) (.lit (.int .i64 x)))) (h2 : IsMap D) (h3 : ∀ z : Int, D.atKey (.int .i64 z) (.lit (.int .i64 0)) = .lit (.int .i64 (place z))) :
    MapIs P w' k e M (n + 1) (fun j => if j = z then x else place j) := by
  refine ⟨_, h1, h2.put _ _, fun y => ?_⟩
  show _ = DataW.lit (.int .i64 (if y = z then x else place y))
  by_cases hy : y = z
  · subst hy
    rw [if_pos rfl]
    exact atKey_put_same h2 (by trivial) _ _
  · rw [if_neg hy, atKey_put_other (by intro e; injection e with _ e; exact hy e)]
    exact h3 y
end
/-- copy(new, old), both of n numbers. -/
theorem wpList_copy_all {P : Program} {w : World} {ops : Array Oper} {rest : List Oper} {o : Oper} {a : Act} {Q : Exit → Act → World → Prop} (hgd : o.guard = none) (d s : Operand) (dT sT : TypeId)
    (ho : o.op = .call { callee := .builtin .copy, args := #[d, s], argTypes := #[dT, sT] }) (elem : TypeId) (hu : P.underlying dT = some (.slice elem)) (hsz : (P.info? elem).map (·.size) = some 1)
    (g n c B : Nat) (A : Option Addr) (hd : a.eval d = .slice (some ⟨g, 0, none⟩) n n) (hs : a.eval s = .slice A n c) (cur : Array Value) (t : TypeId) (hg : Blk w g t cur) (hcur : cur.size = n) (cs : List Value)
    (hr : Reads w B 1 A n cs) (h1 : ∀ v ∈ cs, v.oneCell' = true)
    (h : ∀ w' r, Blk w' g t cs.toArray → w.grownBy w' (some g) → wpList P ops Q rest (a.put o.dst r) w') : wpList P ops Q (o :: rest) a w := by
  have hl : cs.length = n := by rw [hr.1, Nat.mul_one]
  rcases Nat.eq_zero_or_pos n with h0 | h0
  · subst h0
    refine wpList_copy_nothing hgd d s dT sT ho elem hu hsz _ _ _ _ _ _ hd hs (by simp) (h w _ ?_ (grown_refl _ _))
    have : cs = [] := List.eq_nil_of_length_eq_zero hl
    subst this
    have e : cur = #[] := Array.eq_empty_of_size_eq_zero hcur
    rw [e] at hg
    exact hg
  · obtain ⟨ad, rfl, _, hc⟩ := hr.2 h0
    refine wpList_copy_own hgd d s dT sT ho elem hu hsz g 0 n n ad n c hd hs cur t hg cs (by rw [hl]; simp) hc (by omega) h1 (h _ _ ?_ ?_)
    · have e : cur.toList.take 0 ++ (cs ++ cur.toList.drop (0 + cs.length)) = cs := by
        rw [List.drop_of_length_le (by simp; omega)]; simp
      rw [e]
      exact setRow_heap w g cur cs.toArray t (0, 0) hg
    · exact ⟨rfl, rfl, rfl, by simp [World.setRow], fun k _ hk => setRow_other w g k _ (fun e => hk (by rw [e]))⟩
theorem Blk.new1 (w : World) (o : Obj) (t : TypeId) (cs : Array Value) : Blk ((w.alloc o).alloc (.cells cs t)) (w.heap.size + 1) t cs := by
  have := Blk.new (w.alloc o) t cs
  simpa using this
theorem Blk.nine {w : World} {g : Nat} {t : TypeId} {c0 c1 c2 c3 c4 c5 c6 c7 c8 : Value} (h : Blk w g t #[c0, c1, c2, c3, c4, c5, c6, c7, c8]) :
    w.cell? ⟨g, 0, none⟩ = some c0 ∧ w.cell? ⟨g, 1, none⟩ = some c1 ∧ w.cell? ⟨g, 2, none⟩ = some c2 ∧ w.cell? ⟨g, 3, none⟩ = some c3 ∧ w.cell? ⟨g, 4, none⟩ = some c4 ∧ w.cell? ⟨g, 5, none⟩ = some c5 ∧
      w.cell? ⟨g, 6, none⟩ = some c6 ∧ w.cell? ⟨g, 7, none⟩ = some c7 ∧ w.cell? ⟨g, 8, none⟩ = some c8 :=
  ⟨h.cell 0, h.cell 1, h.cell 2, h.cell 3, h.cell 4, h.cell 5, h.cell 6, h.cell 7, h.cell 8⟩
theorem RInts.of_blk {w : World} {S : Nat → Prop} {g : Nat} {t : TypeId} {ks : List Int} (h : Blk w g t (ks.map (Value.int .i64)).toArray) (hS : S g) (hk : ks.length ≤ maxLen) : RInts w S (.slice (some ⟨g, 0, none⟩) ks.length ks.length) ks := by
  refine ⟨by simp, hk, _, _, rfl, Nat.le_refl _, fun _ => ⟨g, 0, rfl, hS, fun j u hu => ?_⟩⟩
  rw [Nat.zero_add, h.cell j, List.getElem?_toArray]
  exact hu
end Go.Proofs.YtclfpjfjebheoaaDoor
/-
  DERIVED: THE SHELF's CONTRACTS AT THIS DUMP, IN PLAIN WORDS (tools/lay-plain.mjs out of 'TrydShelf.lean', which tools/lay-shelf.mjs wrote): THE SAME DECLARATIONS UNDER THE SAME NAMES: 'import', 'namespace', 'open', 'def', 'theorem' AND NOTHING ELSE: no command of the shelf's: FOR A HAND-IN. Each laying: the table of numbers ('.._ren') and one theorem, a field a fact of the dump's own or the kernel's comparison; each contract: ONE APPLICATION.
-/
namespace Go.Proofs
open Go.Shelf
def Tryd.lays112_ren : Go.Shelf.Ren := ⟨fun | 112 => 85 | n => n, fun | 28 => 63 | 3 => 3 | 4 => 4 | 0 => 0 | n => n, fun | n => n⟩
theorem Tryd.lays112 : Go.Proofs.Lays.n112 Tryd.prog Tryd.lays112_ren := {
  mixed := by kernel_rfl
  f112 := Tryd.func85.trans (congrArg some (by kernel_rfl))
  t0 := Tryd.underlying0
  a0 := Tryd.isAgg0
  z0 := Tryd.sizeOf0
  v0 := Tryd.zeroValue0
  t3 := Tryd.underlying3
  a3 := Tryd.isAgg3
  z3 := Tryd.sizeOf3
  v3 := Tryd.zeroValue3
  t4 := Tryd.underlying4
  a4 := Tryd.isAgg4
  z4 := Tryd.sizeOf4
  v4 := Tryd.zeroValue4
  t28 := Tryd.underlying63
  a28 := Tryd.isAgg63
  z28 := Tryd.sizeOf63
  v28 := Tryd.zeroValue63 }
open Go.RowKit Go.Lib Go.Sort in
/-- slices.Reverse at []int, over an array: Go's loop from the two ends inward is walked; it makes 'Sort.reverseLoop 0 (len - 1)', which is 'Array.reverse' (Derived/Lib/SlicesMore.lean). (LAID: no walk: one application.) -/
theorem Tryd.slices_Reverse_int_arr (blk off cap : Nat) (d : Array Int) (w : World) (hH : Holds encI w blk off d) (hsz : d.size ≤ 9223372036854775807) :
    Calls Tryd.prog 85 #[.slice (some ⟨blk, off, none⟩) d.size cap] w fun e w' => e = .returned (.tuple #[]) ∧ ∃ n, w' = putRow encI (Sort.ahead w n) blk off d.reverse := Any.slices_Reverse_int_arr Tryd.lays112 blk off cap d w hH hsz
open Go.RowKit Go.Lib Go.Sort in
/-- slices.Reverse at []int: "Reverse reverses the elements of the slice in place.": THE SLICE's CELLS HOLD 'zs.reverse' BEHIND THE CALL; all else is as it was, but for the count of draws (the exchange 's[i], s[j] = s[j], s[i]' draws its order, once a round). IN THE WORDS OF slices.Sort's CONTRACT: 'Holds': the cells hold zs and none is frozen; 'putRow': the world with those cells holding another array. A slice of length 0 that is not nil is among them ('zs = []'); nil: '.._nil'. (LAID: no walk: one application.) -/
theorem Tryd.slices_Reverse_int (blk off cap : Nat) (zs : List Int) (w : World) (hH : Holds (Value.int .i64) w blk off zs.toArray) (hsz : zs.length ≤ 9223372036854775807) :
    Calls Tryd.prog 85 #[.slice (some ⟨blk, off, none⟩) zs.length cap] w fun e w' => e = .returned (.tuple #[]) ∧ ∃ n, w' = putRow (Value.int .i64) (Sort.ahead w n) blk off zs.reverse.toArray := Any.slices_Reverse_int Tryd.lays112 blk off cap zs w hH hsz
open Go.RowKit Go.Lib Go.Sort in
/-- The same at a slice of length 0, a nil one too: nothing is read, nothing written, nothing drawn. (LAID: no walk: one application.) -/
theorem Tryd.slices_Reverse_int_empty (a : Option Addr) (cap : Nat) (w : World) :
    Calls Tryd.prog 85 #[.slice a 0 cap] w fun e w' => e = .returned (.tuple #[]) ∧ w' = w := Any.slices_Reverse_int_empty Tryd.lays112 a cap w
def Tryd.lays111_ren : Go.Shelf.Ren := ⟨fun | 111 => 70 | n => n, fun | 28 => 63 | 3 => 3 | 4 => 4 | 0 => 0 | n => n, fun | n => n⟩
theorem Tryd.lays111 : Go.Proofs.Lays.n111 Tryd.prog Tryd.lays111_ren := {
  mixed := by kernel_rfl
  f111 := Tryd.func70.trans (congrArg some (by kernel_rfl))
  t0 := Tryd.underlying0
  a0 := Tryd.isAgg0
  z0 := Tryd.sizeOf0
  v0 := Tryd.zeroValue0
  t3 := Tryd.underlying3
  a3 := Tryd.isAgg3
  z3 := Tryd.sizeOf3
  v3 := Tryd.zeroValue3
  t4 := Tryd.underlying4
  a4 := Tryd.isAgg4
  z4 := Tryd.sizeOf4
  v4 := Tryd.zeroValue4
  t28 := Tryd.underlying63
  a28 := Tryd.isAgg63
  z28 := Tryd.sizeOf63
  v28 := Tryd.zeroValue63 }
open Go.RowKit Go.Lib in
/-- slices.Equal at []int: "Equal reports whether two slices are equal: the same length and all elements equal. If the lengths are different, Equal returns false. Otherwise, the elements are compared in increasing index order, and the comparison stops at the first unequal pair. Empty and nil slices are considered equal.": IT RETURNS WHETHER THE TWO LISTS OF ELEMENTS ARE ONE; the world is as it was but for the count of draws (the test 's1[i] != s2[i]' has two reads, whose order the model draws, once a round). 'xs', 'ys': what the cells behind the two addresses hold (the spare capacity too, if you have it); 'xs.take n', 'ys.take m': the elements. THE TWO SLICES MAY OVERLAP. (LAID: no walk: one application.) -/
theorem Tryd.slices_Equal_int (b1 o1 n c b2 o2 m d : Nat) (xs ys : List Int) (w : World) (hx : n ≤ xs.length) (hy : m ≤ ys.length) (hbig : n ≤ 9223372036854775807) (hbig2 : m ≤ 9223372036854775807) (hc1 : ∀ j, j < xs.length → w.cell? ⟨b1, o1 + j, none⟩ = some (.int .i64 (xs.getD j 0))) (hc2 : ∀ j, j < ys.length → w.cell? ⟨b2, o2 + j, none⟩ = some (.int .i64 (ys.getD j 0))) :
    Calls Tryd.prog 70 #[.slice (some ⟨b1, o1, none⟩) n c, .slice (some ⟨b2, o2, none⟩) m d] w fun e w' => e = .returned (.bool (xs.take n == ys.take m)) ∧ ∃ q, w' = w.drewN q := Any.slices_Equal_int Tryd.lays111 b1 o1 n c b2 o2 m d xs ys w hx hy hbig hbig2 hc1 hc2
open Go.RowKit Go.Lib in
/-- The same where the first is of length 0 (a nil one too): no cell is asked for. (LAID: no walk: one application.) -/
theorem Tryd.slices_Equal_int_empty (a1 a2 : Option Addr) (c m d : Nat) (w : World) (hbig2 : m ≤ 9223372036854775807) :
    Calls Tryd.prog 70 #[.slice a1 0 c, .slice a2 m d] w fun e w' => e = .returned (.bool (decide (m = 0))) ∧ w' = w := Any.slices_Equal_int_empty Tryd.lays111 a1 a2 c m d w hbig2
open Go.RowKit Go.Lib Go.Sort in
/-- slices.Reverse at []int, of an argument: the n cells hold the elements in reverse. (LAID: no walk: one application.) -/
theorem Tryd.slices_Reverse_int_cells (b off n c : Nat) (zs : List Int) (w : World) (hz : n ≤ zs.length) (hbig : n ≤ 9223372036854775807) (hc : ∀ j, j < zs.length → w.cell? ⟨b, off + j, none⟩ = some (.int .i64 (zs.getD j 0))) (hf : ∀ j, j < n → w.frozen? ⟨b, off + j, none⟩ = false) :
    Calls Tryd.prog 85 #[.slice (some ⟨b, off, none⟩) n c] w fun e w' => e = .returned (.tuple #[]) ∧ ∃ q, w' = (w.drewN q).setCells b off ((zs.take n).reverse.map (Value.int .i64)) := Any.slices_Reverse_int_cells Tryd.lays112 b off n c zs w hz hbig hc hf
open Go.RowKit Go.Lib in
theorem Tryd.slices_Equal_int_lens (a1 a2 : Option Addr) (n c m d : Nat) (w : World) (hnm : n ≠ m) :
    Calls Tryd.prog 70 #[.slice a1 n c, .slice a2 m d] w fun e w' => e = .returned (.bool false) ∧ w' = w := Any.slices_Equal_int_lens Tryd.lays111 a1 a2 n c m d w hnm
end Go.Proofs
/- The contracts of slices.Contains (of bools) and of tree.Right. -/
namespace Go.Proofs.YtclfpjfjebheoaaDoor
open Go.RowKit

theorem index_bool (g n c : Nat) (bs : List Bool) (x : Bool) (w : World) (hl : bs.length = n) (hn : n ≤ 1000000) (hc : ∀ (j : Nat) (y : Bool), bs[j]? = some y → w.cell? ⟨g, j, none⟩ = some (.bool y)) :
    Calls Tryd.prog 77 #[.slice (some ⟨g, 0, none⟩) n c, .bool x] w fun e w' => (∃ r : Int, e = .returned (.int .i64 r) ∧ (0 ≤ r ↔ x ∈ bs)) ∧ Below w.heap.size w w' := by
  go_enter Tryd.func77, Tryd.ntmps77
  go_wp2
  go_loopw [8] (fun i wr => ∃ k : Nat, k ≤ n ∧ i = .int .i64 k ∧ x ∉ bs.take k ∧ Below w.heap.size w wr) (fun i _ => n - (intOf i).toNat)
  case atStart => exact ⟨0, Nat.zero_le _, rfl, by simp, Below.refl _ _⟩
  case round =>
    obtain ⟨k, hk, rfl, hno, hb⟩ := hrel
    by_cases hlt : k < n
    · obtain ⟨y, hy⟩ : ∃ y, bs[k]? = some y := ⟨_, List.getElem?_eq_getElem (by omega)⟩
      have hcy := hc k y hy
      have hcy : wr.cell? ⟨g, k, none⟩ = some (.bool y) := (hb.cell (p := ⟨g, k, none⟩) (by have := World.block_lt_of_cell? w ⟨g, k, none⟩ hcy; exact this)).trans hcy
      have hno2 : x ≠ y → x ∉ bs.take (k + 1) := fun hne => by rw [List.take_add_one, hy]; simp [hno, hne]
      have hyes : x = y → x ∈ bs := fun e => e ▸ List.mem_of_getElem? hy
      have HNO := Lib.hid hno2
      have HYES := Lib.hid hyes
      clear hno2 hyes hy hc hno
      by_cases hxy : x = y
      · subst hxy
        go_wp2
        go_ret
        have hin : x ∈ bs := by simpa using HYES.out
        exact ⟨⟨_, rfl, by simp [hin]⟩, hb⟩
      · have hne : (x == y) = false := by simpa using hxy
        go_wp2
        go_roundw
        case rel => exact ⟨k + 1, by omega, by go_num, HNO.out hxy, hb⟩
        case measure => simp [intOf]; omega
    · go_wp2
      go_ret
      exact ⟨⟨_, rfl, by have : bs.take k = bs := List.take_of_length_le (by omega); rw [this] at hno; simp [hno]⟩, hb⟩

theorem contains_bool (g n c : Nat) (bs : List Bool) (x : Bool) (w : World) (hl : bs.length = n) (hn : n ≤ 1000000) (hc : ∀ (j : Nat) (y : Bool), bs[j]? = some y → w.cell? ⟨g, j, none⟩ = some (.bool y)) :
    Calls Tryd.prog 54 #[.slice (some ⟨g, 0, none⟩) n c, .bool x] w fun e w' => e = .returned (.bool (decide (x ∈ bs))) ∧ Below w.heap.size w w' := by
  have HI := Lib.hid (index_bool g n c bs x w hl hn hc)
  clear hc
  go_enter Tryd.func54, Tryd.ntmps54
  go_wp2_with (go_at_call 77; refine HI.out.mono ?_; rintro e w' ⟨⟨r, rfl, hr⟩, hb⟩)
  go_ret
  exact ⟨ret_bool (by simp), hb⟩

theorem make_bools (n : Nat) (hn : n ≤ 1000000) : ∀ wx : World, (Instr.makeSlice 83 (.int .i64 (n : Int)) (.int .i64 (n : Int))).run Tryd.prog wx = .ok (.slice (some ⟨wx.heap.size, 0, none⟩) n n) (wx.alloc (.cells (hadOf n []).toArray 4)) := by
  have hb : (Tryd.prog.info? 4).map (fun i => (i.zero, i.size, i.bytes)) = some (some (.bool false), 1, 1) := by kernel_rfl
  obtain ⟨i0, hi0, hz0, hz1, hz2⟩ := info_parts hb
  intro wx
  have e : (hadOf n []).toArray = madeCells (Value.cells (.bool false)) (n * i0.size) := by
    rw [hz1, hadOf_nil, Nat.mul_one]
    apply Array.ext'
    symm
    simp only [madeCells, Value.cells]
    apply List.ext_getElem <;> simp [Nat.mod_one]
  rw [e]
  exact run_make_rowN _ _ i0 _ Tryd.underlying83 hi0 hz0 _ _ n n (Nat.le_refl _) (by rw [hz2]; omega) (by omega) wx

structure RightRel (ns : List Nd) (root : Int) (n : Nat) (w : World) (B : Nat) (nv : Value) (te : TypeId) (j : Nat) (wr : World) : Prop where
  ok : OkTo ns root j
  box : Blk wr B te #[nv, .int .i64 root]
  had : Blk wr (B + 1) 4 (hadOf n (root :: kidsOf (ns.take j))).toArray
  below : Below B w wr
structure RightIn (ns : List Nd) (root : Int) (n : Nat) (w : World) (B : Nat) (nv : Value) (te : TypeId) (j : Nat) (kids : List Int) (q : Nat) (wr : World) : Prop where
  low : ∀ k ∈ kids.take q, 0 ≤ k ∧ k < (j : Int)
  nodup : (root :: (kidsOf (ns.take j) ++ kids.take q)).Nodup
  box : Blk wr B te #[nv, .int .i64 root]
  had : Blk wr (B + 1) 4 (hadOf n (root :: (kidsOf (ns.take j) ++ kids.take q))).toArray
  below : Below B w wr

open Classical in
set_option maxHeartbeats 1000000 in
theorem right_any (t : Tr) (v : Value) (S : Nat → Prop) (w : World) (ht : RTree w S v t) (hS : ∀ b, S b → b < w.heap.size) (hk : KTab w) (hsz : t.nodes.length ≤ 1000000) :
    Calls Tryd.prog 16 #[v] w fun e w' => e = .returned (.bool (decide (RightT t))) ∧ Below w.heap.size w w' := by
  obtain ⟨nv, rfl, hns, hr1, hr2⟩ := ht
  obtain ⟨A, c, rfl, hc, hs, hcells⟩ := hns.at_
  clear hcells
  have hmk := make_bools t.nodes.length hsz
  by_cases hroot : t.root + 1 = t.nodes.length ∧ 0 ≤ t.root
  · obtain ⟨hr3, hr4⟩ := hroot
    obtain ⟨ns, root⟩ := t
    simp only at *
    obtain ⟨m, hm⟩ : ∃ m, ns.length = m + 1 := ⟨ns.length - 1, by omega⟩
    obtain rfl : root = (m : Int) := by omega
    obtain ⟨A', c', hv, _, _, hcells⟩ := hns.at_
    injection hv with h1 _ h3
    subst h1
    subst h3
    obtain ⟨b, off, rfl, hbS, _⟩ := hcells (by omega)
    have hbB := hS b hbS
    clear hcells
    obtain ⟨Z, hZ⟩ : ∃ Z, Z = (hadOf ns.length []).toArray := ⟨_, rfl⟩
    rw [← hZ] at hmk
    have HZ := Lib.hid hZ
    have hcz : ∀ o : Obj, ((w.alloc o).alloc (.cells Z 4)).cell? ⟨w.heap.size + 1, m, none⟩ = some (.bool false) := fun o => by
      rw [(Blk.new1 w o 4 Z).cell, hZ, List.getElem?_toArray]
      have := hadOf_at (n := ns.length) (M := []) (k := (m : Int)) (by omega) (by simp; omega)
      simpa using this
    have hfz : ∀ o : Obj, ((w.alloc o).alloc (.cells Z 4)).frozen? ⟨w.heap.size + 1, m, none⟩ = false := fun o => (Blk.new1 w o 4 Z).frozen m
    have HNS := Lib.hid hns
    rw [hm] at hmk hsz hc hs HNS
    have HM := Lib.hid hm
    rw [show ((m + 1 : Nat) : Int) = (m : Int) + 1 by omega] at hmk
    clear hZ hr3 hns
    go_enter Tryd.func16, Tryd.ntmps16
    go_wp2
    go_loopw [31] (fun i wr => ∃ j : Nat, j ≤ m + 1 ∧ i = .int .i64 j ∧ Hid (RightRel ns m (m + 1) w w.heap.size (.slice (some ⟨b, off, none⟩) (m + 1) c) 34 j wr)) (fun i _ => m + 1 - (intOf i).toNat)
    case atStart =>
      refine ⟨0, Nat.zero_le _, rfl, Lib.hid ⟨OkTo.zero _ _, ?_, ?_, ((Below.refl _ _).alloc (Nat.le_refl _) _).alloc (by simp) _⟩⟩
      · exact (Blk.new w _ _).alloc _
      · have h1 : Z.setIfInBounds m (.bool true) = (hadOf (m + 1) ((m : Int) :: kidsOf (ns.take 0))).toArray := by
          rw [HZ.out, HM.out, List.setIfInBounds_toArray]
          have := hadOf_set (n := m + 1) (M := []) (k := (m : Int)) (by omega)
          rw [Int.toNat_natCast] at this
          rw [this]; rfl
        rw [h1]
        exact Blk.new1 _ _ _ _
    case round =>
      obtain ⟨wo, rfl⟩ : ∃ wo, wo = wr := ⟨_, rfl⟩
      obtain ⟨j, hj, rfl, HR⟩ := hrel
      by_cases hlt : j < m + 1
      · obtain ⟨N, hN⟩ : ∃ N, ns[j]? = some N := ⟨_, List.getElem?_eq_getElem (by rw [HM.out]; exact hlt)⟩
        have hns2 : RNodes wo S (.slice (some ⟨b, off, none⟩) ns.length c) ns := by
          rw [HM.out]; exact HNS.out.below HR.out.below hS
        obtain ⟨_, Ak, ck, hki, hdo, hck, hkc⟩ := hns2.known j N hN
        have c0 : wo.cell? ⟨b, off + j * 9, none⟩ = some (.int .u8 N.d.kind) := hkc 0 _ rfl
        have c1 : wo.cell? ⟨b, off + j * 9 + 1, none⟩ = some (.int .u64 N.d.s0) := hkc 1 _ rfl
        have c2 : wo.cell? ⟨b, off + j * 9 + 2, none⟩ = some (.int .u64 N.d.s1) := hkc 2 _ rfl
        have c3 : wo.cell? ⟨b, off + j * 9 + 3, none⟩ = some (.int .u64 N.d.s2) := hkc 3 _ rfl
        have c4 : wo.cell? ⟨b, off + j * 9 + 4, none⟩ = some (.int .u64 N.d.s3) := hkc 4 _ rfl
        have c5 : wo.cell? ⟨b, off + j * 9 + 5, none⟩ = some (.string ⟨N.d.text.toArray⟩) := hkc 5 _ rfl
        have c6 : wo.cell? ⟨b, off + j * 9 + 6, none⟩ = some (.int .i64 N.d.min) := hkc 6 _ rfl
        have c7 : wo.cell? ⟨b, off + j * 9 + 7, none⟩ = some (.int .i64 N.d.max) := hkc 7 _ rfl
        have c8 : wo.cell? ⟨b, off + j * 9 + 8, none⟩ = some (.slice Ak N.kids.length ck) := hkc 8 _ rfl
        have hF := fun (o : Obj) => fits_any N hdo (.slice Ak N.kids.length ck) (N.kids.length : Int) (wo.alloc o) (hk.below (HR.out.below.alloc HR.out.below.size o))
        have hbs := HR.out.below.size
        have HN := Lib.hid hN
        have HKI := Lib.hid hki
        have hkl : N.kids.length ≤ maxLen := hki.small
        unfold maxLen at hkl
        clear hkc hns2 hki hN
        cases hf : fits N.d (N.kids.length : Int)
        · rw [hf] at hF
          have HF := Lib.hid hF
          have HNR := Lib.hid (not_right_fit (t := ⟨ns, (m : Int)⟩) HN.out hf)
          clear hF hf
          go_wp2_with (go_at_call 53; refine (HF.out _).mono ?_; rintro e w5 ⟨rfl, hb5⟩)
          go_ret
          exact ⟨ret_bool (by simp [HNR.out]), (HR.out.below.alloc HR.out.below.size _).trans (hb5.mono (by simp; omega))⟩
        · rw [hf] at hF
          have HF := Lib.hid hF
          have HFT := Lib.hid hf
          clear hF hf
          go_wp2_with (first
            | (go_at_call 53
               refine (HF.out _).mono ?_
               rintro e w5 ⟨rfl, hb5⟩
               have hc5 : w5.cell? ⟨wo.heap.size, 8, none⟩ = some (.slice Ak N.kids.length ck) := (hb5.cell (p := ⟨wo.heap.size, 8, none⟩) (by simp)).trans ((Blk.new wo _ _).cell 8))
            | fail)
          obtain ⟨w5', hw5'⟩ : ∃ w5', w5' = w5 := ⟨_, rfl⟩
          have hb50 : Below w.heap.size w w5 := (HR.out.below.alloc HR.out.below.size _).trans (hb5.mono (by simp; omega))
          have HB5 := Lib.hid (hb5.mono (B' := wo.heap.size) (by simp))
          go_loopw [45] (fun i wr => ∃ q : Nat, q ≤ N.kids.length ∧ i = .int .i64 q ∧ Hid (RightIn ns m (m + 1) w w.heap.size (.slice (some ⟨b, off, none⟩) (m + 1) c) 34 j N.kids q wr) ∧ Hid (RInts wr S (.slice Ak N.kids.length ck) N.kids)) (fun i _ => N.kids.length - (intOf i).toNat)
          case atStart =>
            refine ⟨0, Nat.zero_le _, rfl, Lib.hid ⟨by simp, by simpa using HR.out.ok.nodup, ?_, ?_, hb50⟩, Lib.hid ?_⟩
            · exact (HR.out.box.alloc _).below hb5 (by have := HR.out.box.lt; simp; omega)
            · simpa using (HR.out.had.alloc _).below hb5 (by have := HR.out.had.lt; simp; omega)
            · exact (HKI.out.keep fun p hp => World.cell?_alloc_lt _ _ _ (by have := hS _ hp; omega)).below hb5 (fun b hb => by have := hS _ hb; simp; omega)
          case round =>
            obtain ⟨q, hq, rfl, HI, HK⟩ := hrel
            by_cases hql : q < N.kids.length
            · obtain ⟨k, hkq⟩ : ∃ k, N.kids[q]? = some k := ⟨_, List.getElem?_eq_getElem hql⟩
              obtain ⟨bk, ok, rfl, hbk, hkc⟩ := HK.out.get q k hkq
              have hkm : k ∈ N.kids := List.mem_of_getElem? hkq
              by_cases hkr : 0 ≤ k ∧ k < (j : Int)
              · obtain ⟨hk0, hk1⟩ := hkr
                have hck : wr.cell? ⟨w.heap.size + 1, k.toNat, none⟩ = some (.bool (decide (k ∈ (m : Int) :: (kidsOf (ns.take j) ++ N.kids.take q)))) := by
                  rw [HI.out.had.cell, List.getElem?_toArray, hadOf_at hk0 (by omega)]
                have hfk := HI.out.had.frozen k.toNat
                have hkM : k < (m : Int) + 1 := by omega
                by_cases hin : k ∈ (m : Int) :: (kidsOf (ns.take j) ++ N.kids.take q)
                · rw [decide_eq_true hin] at hck
                  have HNR := Lib.hid (not_right_had (t := ⟨ns, (m : Int)⟩) HN.out hkq hin)
                  clear hin hkq hkm
                  go_wp2
                  go_ret
                  exact ⟨ret_bool (by simp [HNR.out]), HI.out.below⟩
                · rw [decide_eq_false hin] at hck
                  have HIN := Lib.hid hin
                  have HKQ := Lib.hid hkq
                  have HKM := Lib.hid hkm
                  clear hin hkq hkm
                  go_wp2
                  go_roundw
                  case measure => simp [intOf]; omega
                  case rel =>
                    have et : N.kids.take (q + 1) = N.kids.take q ++ [k] := by rw [List.take_add_one, HKQ.out]; rfl
                    refine ⟨q + 1, by omega, by go_num, Lib.hid ⟨fun z hz => ?_, ?_, ?_, ?_, ?_⟩, Lib.hid (HK.out.keep fun p hp => World.cell?_setCell_other _ _ _ _ (fun e => by have := hS _ hp; rw [← e] at this; simp at this; omega))⟩
                    · rw [et] at hz
                      rcases List.mem_append.1 hz with hz | hz
                      · exact HI.out.low z hz
                      · simp at hz; subst hz; exact ⟨hk0, hk1⟩
                    · rw [et, ← List.append_assoc, ← List.cons_append, List.nodup_append]
                      exact ⟨HI.out.nodup, by simp, fun a ha b hb e => HIN.out (by simp at hb; rw [← hb, ← e]; exact ha)⟩
                    · exact HI.out.box.far (by simp) _
                    · have h1 := HI.out.had.set_ k.toNat (.bool true)
                      rw [List.setIfInBounds_toArray, hadOf_set hk0] at h1
                      rw [et]
                      simpa using h1
                    · exact HI.out.below.setCell (by simp) _
              · have HNR := Lib.hid (not_right_low (t := ⟨ns, (m : Int)⟩) HN.out hkm hkr)
                clear hkq hkm
                rcases Int.lt_or_le k 0 with hk0 | hk0
                · go_wp2
                  go_ret
                  exact ⟨ret_bool (by simp [HNR.out]), HI.out.below⟩
                · have hk1 : (j : Int) ≤ k := by omega
                  clear hkr
                  go_wp2
                  go_ret
                  exact ⟨ret_bool (by simp [HNR.out]), HI.out.below⟩
            · have hqe : q = N.kids.length := by omega
              subst hqe
              have hI := HI.out
              have htl : N.kids.take N.kids.length = N.kids := List.take_length
              go_wp2
              go_roundw
              case measure => simp [intOf]; omega
              case rel =>
                refine ⟨j + 1, by omega, by go_num, Lib.hid ⟨HR.out.ok.next HN.out HFT.out (by have := hI.low; rwa [htl] at this) (by have := hI.nodup; rwa [htl] at this), hI.box, ?_, hI.below⟩⟩
                have := hI.had
                rw [htl] at this
                rw [kidsOf_take HN.out]
                exact this
      · have hje : j = m + 1 := by omega
        subst hje
        have hiff := rightT_iff (t := ⟨ns, (m : Int)⟩) (by simp only; rw [HM.out]; omega) (by simp only; omega) (by simp only; rw [HM.out]; exact HR.out.ok)
        simp only [HM.out] at hiff
        have htk : ns.take (m + 1) = ns := List.take_of_length_le (by rw [HM.out]; exact Nat.le_refl _)
        have hhad := HR.out.had
        rw [htk] at hhad
        have HC := Lib.hid (contains_bool (w.heap.size + 1) (m + 1) (m + 1) ((List.range (m + 1)).map fun (j : Nat) => decide ((j : Int) ∈ (m : Int) :: kidsOf ns)) false wo (by simp) hsz (fun i y hy => by
          rw [hhad.cell, List.getElem?_toArray]
          unfold hadOf
          rw [List.getElem?_map] at hy ⊢
          cases hx : (List.range (m + 1))[i]? with
          | none => rw [hx] at hy; cases hy
          | some x => rw [hx] at hy; simp at hy ⊢; exact hy))
        have hfin : (!decide (false ∈ (List.range (m + 1)).map fun (j : Nat) => decide ((j : Int) ∈ (m : Int) :: kidsOf ns))) = decide (RightT ⟨ns, (m : Int)⟩) := by
          rw [Bool.eq_iff_iff, decide_eq_true_eq, hiff, Bool.not_eq_true', decide_eq_false_iff_not]
          simp only [List.mem_map, List.mem_range, decide_eq_false_iff_not, not_exists, not_and, Decidable.not_not]
        obtain ⟨X, hX⟩ : ∃ X, X = decide (false ∈ (List.range (m + 1)).map fun (j : Nat) => decide ((j : Int) ∈ (m : Int) :: kidsOf ns)) := ⟨_, rfl⟩
        rw [← hX] at HC hfin
        have HFIN := Lib.hid hfin
        clear hiff hfin hX hhad htk
        go_wp2_with (go_at_call 54; refine HC.out.mono ?_; rintro e w5 ⟨rfl, hb5⟩)
        go_ret
        exact ⟨ret_bool HFIN.out, HR.out.below.trans (hb5.mono HR.out.below.size)⟩
  · have hno := not_right_root hroot
    have HNO := Lib.hid hno
    clear hno
    go_enter Tryd.func16, Tryd.ntmps16
    go_wp2
    all_goals go_ret
    all_goals exact ⟨ret_bool (by simp [HNO.out]), (Below.refl _ _).alloc (Nat.le_refl _) _⟩
end Go.Proofs.YtclfpjfjebheoaaDoor
/- The contract of tree.walk: the row of what stands at a node. -/
namespace Go.Proofs.YtclfpjfjebheoaaDoor
open Go.RowKit

def pushed (forth : Bool) (ns : List Nd) (i : Nat) : List Int := match ns[i]? with
  | none => []
  | some n => if forth then n.kids.reverse else n.kids
theorem pushed_of {forth : Bool} {ns : List Nd} {i : Nat} {N : Nd} (h : ns[i]? = some N) : pushed forth ns i = if forth then N.kids.reverse else N.kids := by unfold pushed; rw [h]
def gRow (forth : Bool) (ns : List Nd) (i : Nat) : List Int := if forth then pre ns i else (post ns i).reverse
def rest (forth : Bool) (ns : List Nd) (Td : List Int) : List Int := Td.reverse.flatMap fun k => gRow forth ns k.toNat
theorem rev_flatten_map {α : Type} (f : Int → List α) (l : List Int) : ((l.map f).flatten).reverse = l.reverse.flatMap fun k => (f k).reverse := by
  induction l with
  | nil => rfl
  | cons k l ih => simp [ih]
theorem gRow_eq {ns : List Nd} (h : Low ns) (forth : Bool) {i : Nat} {n : Nd} (hn : ns[i]? = some n) : gRow forth ns i = (i : Int) :: rest forth ns (pushed forth ns i) := by
  unfold gRow rest pushed
  simp only [hn]
  cases forth
  · simp only [Bool.false_eq_true, if_false, gRow]
    rw [post_eq h hn, List.reverse_append, rev_flatten_map]
    rfl
  · simp only [if_true, gRow]
    rw [pre_eq h hn, List.reverse_reverse, List.flatMap_def]
theorem rest_snoc {ns : List Nd} (h : Low ns) (forth : Bool) (Td : List Int) (k : Int) (h0 : 0 ≤ k) (hk : k.toNat < ns.length) : rest forth ns (Td ++ [k]) = k :: rest forth ns (Td ++ pushed forth ns k.toNat) := by
  have e := gRow_eq h forth (List.getElem?_eq_getElem hk)
  have hk2 : ((k.toNat : Nat) : Int) = k := by omega
  rw [hk2] at e
  show (Td ++ [k]).reverse.flatMap _ = _
  rw [List.reverse_append, List.reverse_singleton, List.singleton_append, List.flatMap_cons, e]
  show k :: rest forth ns (pushed forth ns k.toNat) ++ _ = _
  rw [List.cons_append]
  congr 1
  unfold rest
  rw [List.reverse_append, List.flatMap_append]
theorem rest_length {ns : List Nd} (forth : Bool) (Td : List Int) (h : ∀ k ∈ Td, 0 < (gRow forth ns k.toNat).length) : Td.length ≤ (rest forth ns Td).length := by
  have : ∀ l : List Int, (∀ k ∈ l, 0 < (gRow forth ns k.toNat).length) → l.length ≤ (l.flatMap fun k => gRow forth ns k.toNat).length := by
    intro l
    induction l with
    | nil => intro _; simp
    | cons k l ih =>
      intro hl
      have h1 := hl k (by simp)
      have h2 := ih fun k hk => hl k (by simp [hk])
      simp only [List.flatMap_cons, List.length_append, List.length_cons]
      omega
  have := this Td.reverse (fun k hk => h k (by simpa using hk))
  simpa [rest] using this
theorem gRow_pos {ns : List Nd} (h : Low ns) (forth : Bool) (i : Nat) (hi : i < ns.length) : 0 < (gRow forth ns i).length := by
  rw [gRow_eq h forth (List.getElem?_eq_getElem hi)]; simp
theorem pushed_ok {ns : List Nd} (h : Low ns) (forth : Bool) (i : Nat) (hi : i < ns.length) : ∀ k ∈ pushed forth ns i, 0 ≤ k ∧ k.toNat < ns.length := by
  intro k hk
  unfold pushed at hk
  rw [List.getElem?_eq_getElem hi] at hk
  have : k ∈ (ns[i]).kids := by cases forth <;> simpa using hk
  have := h i _ (List.getElem?_eq_getElem hi) k this
  omega

def lenOf : Value → Nat
  | .slice _ n _ => n
  | _ => 0

structure WalkRel (ns : List Nd) (forth : Bool) (B : Nat) (w : World) (nv : Value) (R O Td : List Int) (Ao : Option Addr) (co : Nat) (At : Option Addr) (ct : Nat) (wr : World) : Prop where
  out : wr.ownsRow (B + 1) 3 1 (.slice Ao O.length co) O.length (O.map (Value.int .i64))
  todo : wr.ownsRow (B + 1) 3 1 (.slice At Td.length ct) Td.length (Td.map (Value.int .i64))
  apart : Ao = none ∨ Ao ≠ At
  row : R = O ++ rest forth ns Td
  fine : ∀ k ∈ Td, 0 ≤ k ∧ k.toNat < ns.length
  box : wr.cell? ⟨B, 0, none⟩ = some nv
  below : Below B w wr

theorem int_info : (Tryd.prog.info? 3).map (fun i => (i.zero, i.size, i.bytes)) = some (some (.int .i64 0), 1, 8) := by kernel_rfl
theorem walk_step1 {t : Tr} {forth : Bool} {S : Nat → Prop} {w wr w2 : World} {nv : Value} {R O T : List Int} {Ao : Option Addr} {co : Nat} {g ct : Nat} {k : Int} {v1 : Value} (hns : RNodes w S nv t.nodes) (hS : ∀ b, S b → b < w.heap.size)
    (h : WalkRel t.nodes forth w.heap.size w nv R O (T ++ [k]) Ao co (some ⟨g, 0, none⟩) ct wr) (hown : w2.ownsRow (w.heap.size + 1) 3 1 v1 (O.length + 1) (O.map (Value.int .i64) ++ [.int .i64 k]))
    (hg : wr.grownBy w2 (Value.slice Ao O.length co).ownBlock) (hat : v1.ownBlock = (Value.slice Ao O.length co).ownBlock ∨ v1.ownBlock = some (wr.heap.size + 1)) :
    ∃ A1 c1, v1 = .slice A1 (O ++ [k]).length c1 ∧ w2.ownsRow (w.heap.size + 1) 3 1 (.slice A1 (O ++ [k]).length c1) (O ++ [k]).length ((O ++ [k]).map (Value.int .i64)) ∧
      w2.ownsRow (w.heap.size + 1) 3 1 (.slice (some ⟨g, 0, none⟩) (T ++ [k]).length ct) (T ++ [k]).length ((T ++ [k]).map (Value.int .i64)) ∧ (A1 = none ∨ A1 ≠ some ⟨g, 0, none⟩) ∧ w2.cell? ⟨w.heap.size, 0, none⟩ = some nv ∧ Below w.heap.size w w2 ∧ RNodes w2 S nv t.nodes := by
  have hblk : ∀ r, (Value.slice Ao O.length co).ownBlock = some r → w.heap.size + 1 ≤ r := fun r hr => (own_blk_lt h.out hr).1
  have hgT := own_blk_lt h.todo (g := g) rfl
  have hne : (Value.slice (some ⟨g, 0, none⟩) (T ++ [k]).length ct).ownBlock ≠ (Value.slice Ao O.length co).ownBlock := by
    intro e
    rcases Ao with _ | ⟨ab, ao, sp⟩
    · simp [Value.ownBlock] at e
    · have he : ab = g := by simpa [Value.ownBlock] using e.symm
      obtain ⟨A', c', hv, _, _, _⟩ := own_slice h.out
      rcases h.out.2 with ⟨h1, _⟩ | ⟨g', cap, cur, h1, _⟩
      · simp at h1
      · injection h1 with h1 _ _
        injection h1 with h1
        injection h1 with e1 e2 e3
        subst e1 e2 e3
        rcases h.apart with h2 | h2
        · cases h2
        · exact h2 (by rw [he])
  obtain ⟨A1, c1, rfl, _, _, _⟩ := own_slice hown
  have hlen : (O ++ [k]).length = O.length + 1 := by simp
  have hb2 : Below w.heap.size w w2 := h.below.trans (below_of_grown hg h.below.size (fun r hr => by have := hblk r hr; omega))
  refine ⟨A1, c1, by rw [hlen], by rw [hlen, List.map_append]; exact hown, h.todo.kept hg (.inr hne), ?_, ?_, hb2, hns.below hb2 hS⟩
  · rcases A1 with _ | a1
    · exact .inl rfl
    · refine .inr fun e => ?_
      injection e with e
      subst e
      rcases hat with e1 | e1
      · exact hne e1
      · have : g = wr.heap.size + 1 := by simpa [Value.ownBlock] using e1
        omega
  · refine hg.cell h.box (fun e => ?_)
    have h9 : w.heap.size + 1 ≤ w.heap.size := hblk _ e.symm
    omega

theorem walk_step2 {w w2 w3 : World} {O2 T K : List Int} {A1 : Option Addr} {c1 g ct : Nat} {v3 : Value} (hO : w2.ownsRow (w.heap.size + 1) 3 1 (.slice A1 O2.length c1) O2.length (O2.map (Value.int .i64)))
    (hgl : w.heap.size + 1 ≤ g) (hne : A1 = none ∨ A1 ≠ some ⟨g, 0, none⟩) (hown : w3.ownsRow (w.heap.size + 1) 3 1 v3 (T.length + K.length) (T.map (Value.int .i64) ++ K.map (Value.int .i64)))
    (hg' : w2.drew.grownBy w3 (Value.slice (some ⟨g, 0, none⟩) T.length ct).ownBlock) (hat : v3.ownBlock = (Value.slice (some ⟨g, 0, none⟩) T.length ct).ownBlock ∨ v3.ownBlock = some w2.drew.heap.size) (hb : Below w.heap.size w w2) :
    ∃ A3 c3, v3 = .slice A3 (T ++ K).length c3 ∧ w3.ownsRow (w.heap.size + 1) 3 1 (.slice A1 O2.length c1) O2.length (O2.map (Value.int .i64)) ∧
      w3.ownsRow (w.heap.size + 1) 3 1 (.slice A3 (T ++ K).length c3) (T ++ K).length ((T ++ K).map (Value.int .i64)) ∧ (A1 = none ∨ A1 ≠ A3) ∧ Below w.heap.size w w3 := by
  have hg := grown_undrew hg'
  have hlen : (T ++ K).length = T.length + K.length := by simp
  obtain ⟨A3, c3, rfl, _, _, _⟩ := own_slice hown
  have hb3 : Below w.heap.size w w3 := hb.trans (below_of_grown hg hb.size (fun r hr => by
    have : g = r := by simpa [Value.ownBlock] using hr
    omega))
  refine ⟨A3, c3, by rw [hlen], hO.kept hg ?_, by rw [hlen, List.map_append]; exact hown, ?_, hb3⟩
  · rcases A1 with _ | a1
    · exact .inl (by simp [Value.ownBlock])
    · refine .inr fun e => ?_
      obtain ⟨h1, h2, h3⟩ := own_blk_some hO
      rw [ownBlock_some _ _ _ h1] at e
      have : a1.block = g := by simpa [Value.ownBlock] using e
      rw [this] at h1
      rcases hne with h | h
      · cases h
      · exact h (by rw [h1])
  · rcases A1 with _ | a1
    · exact .inl rfl
    · refine .inr fun e => ?_
      subst e
      obtain ⟨h1, h2, h3⟩ := own_blk_some hO
      rw [ownBlock_some _ _ _ h1] at hat
      rcases hat with e | e
      · have : a1.block = g := by simpa [Value.ownBlock] using e
        rw [this] at h1
        rcases hne with h | h
        · cases h
        · exact h (by rw [h1])
      · have : a1.block = w2.heap.size := by simpa using e
        omega
theorem walk_row {t : Tr} {forth : Bool} {w wr : World} {nv : Value} {R O T : List Int} {Ao At : Option Addr} {co ct : Nat} {k : Int} (hlow : Low t.nodes) (h : WalkRel t.nodes forth w.heap.size w nv R O (T ++ [k]) Ao co At ct wr) :
    R = (O ++ [k]) ++ rest forth t.nodes (T ++ pushed forth t.nodes k.toNat) ∧ ∀ j ∈ T ++ pushed forth t.nodes k.toNat, 0 ≤ j ∧ j.toNat < t.nodes.length := by
  have hk := h.fine k (by simp)
  refine ⟨?_, fun j hj => ?_⟩
  · rw [h.row, rest_snoc hlow forth T k hk.1 hk.2]; simp
  · rcases List.mem_append.1 hj with hj | hj
    · exact h.fine j (by simp [hj])
    · exact pushed_ok hlow forth _ hk.2 j hj

set_option maxHeartbeats 1000000 in
theorem walk_any (t : Tr) (v : Value) (S : Nat → Prop) (node : Int) (forth : Bool) (w : World) (ht : RTree w S v t) (hS : ∀ b, S b → b < w.heap.size) (hlow : Low t.nodes) (h0 : 0 ≤ node) (hn : node.toNat < t.nodes.length)
    (hsz : (gRow forth t.nodes node.toNat).length ≤ 1000000000) :
    Calls Tryd.prog 84 #[v, .int .i64 node, .bool forth] w fun e w' => ∃ u, e = .returned u ∧
      w'.ownsRow w.heap.size 3 1 u (gRow forth t.nodes node.toNat).length ((gRow forth t.nodes node.toNat).map (Value.int .i64)) ∧ Below w.heap.size w w' := by
  obtain ⟨nv, rfl, hns, _⟩ := ht
  obtain ⟨A, c, rfl, hc, hs, hcells⟩ := hns.at_
  obtain ⟨b, off, rfl, hb1, hcell⟩ := hcells (by omega)
  have hbB := hS b hb1
  generalize hR : gRow forth t.nodes node.toNat = R at hsz ⊢
  obtain ⟨w1, hw1⟩ : ∃ w1, w1 = w.alloc (.cells #[.slice (some ⟨b, off, none⟩) t.nodes.length c, .int .i64 t.root] 34) := ⟨_, rfl⟩
  go_enter Tryd.func84, Tryd.ntmps84
  go_wp2
  go_loopw [7, 8] (fun vo vt wr => ∃ (O Td : List Int) (Ao : Option Addr) (co : Nat) (At : Option Addr) (ct : Nat), vo = .slice Ao O.length co ∧ vt = .slice At Td.length ct ∧ Hid (WalkRel t.nodes forth w.heap.size w (.slice (some ⟨b, off, none⟩) t.nodes.length c) R O Td Ao co At ct wr)) (fun vo _ _ => R.length - lenOf vo)
  case atStart =>
    refine ⟨[], [node], none, 0, some ⟨w.heap.size + 1, 0, none⟩, 1, rfl, rfl, Lib.hid ⟨World.ownsRow_nil _ _ _ _, ?_, .inl rfl, ?_, fun k hk => ?_, ?_, ?_⟩⟩
    · simpa using World.ownsRow_lit (base := w.heap.size + 1) (e := 3) (size := 1) (w.alloc (.cells #[.slice (some ⟨b, off, none⟩) t.nodes.length c, .int .i64 t.root] 34)) #[.int .i64 node] 1 (by simp) (by simp [maxLen]) rfl
    · rw [← hR]; simp [rest]
    · simp at hk; subst hk; exact ⟨h0, hn⟩
    · rw [World.cell?_alloc_lt _ _ _ (by simp)]
      simp [Blk.cell (Blk.new w _ _)]
    · exact ((Below.refl _ _).alloc (Nat.le_refl _) _).alloc (by simp) _
  case round =>
    obtain ⟨O, Td, Ao, co, At, ct, rfl, rfl, HR⟩ := hrel
    rcases nil_or_snoc Td with rfl | ⟨T, k, rfl⟩
    · go_wp2
      go_ret
      have hr : R = O := by have := HR.out.row; simpa [rest] using this
      subst hr
      exact ⟨_, rfl, own_more HR.out.out (by omega), HR.out.below⟩
    · obtain ⟨g, rfl, hg1, hg2, hg3⟩ := own_some HR.out.todo (by simp)
      have hTl : T.length + 1 ≤ 1000000000 := by
        have h1 := rest_length forth _ (fun k hk => gRow_pos hlow forth _ (HR.out.fine k hk).2)
        have h2 := HR.out.row
        rw [h2] at hsz
        simp only [List.length_append, List.length_cons, List.length_nil] at h1 hsz
        omega
      have hOl : O.length + 1 ≤ 1000000000 := by
        have h1 := rest_length forth _ (fun k hk => gRow_pos hlow forth _ (HR.out.fine k hk).2)
        have h2 := HR.out.row
        rw [h2] at hsz
        simp only [List.length_append, List.length_cons, List.length_nil] at h1 hsz
        omega
      have hk : wr.cell? ⟨g, T.length, none⟩ = some (.int .i64 k) := by
        have := HR.out.todo.cellAt T.length (by simp)
        rw [this]; simp
      simp only [List.length_append, List.length_cons, List.length_nil, Nat.zero_add] at hg3 ⊢
      obtain ⟨i0, hi0, hz0, hz1, hz2⟩ := info_parts int_info
      go_wp2_with (at_builtin; go_loud (refine wpList_append1 wr rfl (.tmp 21) (.tmp 23) _ rfl (w.heap.size + 1) 3 i0 _ 1 8 Tryd.underlying63 hi0 hz0 hz1 hz2 rfl (by omega) (.slice Ao O.length co) O.length (O.map (Value.int .i64)) rfl HR.out.out [.int .i64 k] rfl rfl (by simp [Value.oneCell']) (by unfold maxLen; omega) (by omega) (by omega) ?_); intro v1 w2 hown1 hg1 hat1)
      obtain ⟨A1, c1, rfl, hO2, hT2, hne2, hbox2, hb2, hns2⟩ := walk_step1 hns hS HR.out hown1 hg1 hat1
      have HO2 := Lib.hid hO2
      have HT2 := Lib.hid hT2
      have hkf := HR.out.fine k (by simp)
      have hsz2 : w.heap.size + 1 ≤ w2.heap.size := by have := (own_blk_lt HT2.out (g := g) rfl).2; omega
      obtain ⟨N, hN⟩ : ∃ N, t.nodes[k.toNat]? = some N := ⟨_, List.getElem?_eq_getElem hkf.2⟩
      obtain ⟨_, Ak, ck, hki, _, hck, hkc⟩ := hns2.known k.toNat N hN
      have hkc8 : w2.cell? ⟨b, off + k.toNat * 9 + 8, none⟩ = some (.slice Ak N.kids.length ck) := by rw [Nat.add_assoc]; exact hkc 8 _ rfl
      have hk0 : 0 ≤ k := hkf.1
      have hkl : k < (t.nodes.length : Int) := by omega
      have hwr : IntKind.i64.wrap (T.length : Int) = T.length := by
        exact IntWalk.i64_in _ (by omega)
      have hTi : (0 : Int) ≤ (T.length : Int) := by omega
      have hTc : (T.length : Int) ≤ (ct : Int) := by omega
      have hTs := own_shrink (m := T.length) HT2.out (by simp)
      have hTs2 : w2.ownsRow (w.heap.size + 1) 3 1 (.slice (some ⟨g, 0, none⟩) T.length ct) T.length (T.map (Value.int .i64)) := by
        have e : ((T ++ [k]).map (Value.int .i64)).take (T.length * 1) = T.map (Value.int .i64) := by simp
        rw [e] at hTs; exact hTs
      have HTs := Lib.hid hTs2
      have HKr := Lib.hid (Row.reads hki (B := w2.heap.size) (fun b hb => Nat.lt_of_lt_of_le (hS b hb) hb2.size))
      have hpl : (pushed forth t.nodes k.toNat).length = N.kids.length := by
        unfold pushed; rw [hN]; cases forth <;> simp
      have hKl : N.kids.length + T.length ≤ 1000000000 := by
        have h1 := rest_length forth (T ++ pushed forth t.nodes k.toNat) (fun j hj => gRow_pos hlow forth _ (by
          rcases List.mem_append.1 hj with hj | hj
          · exact (HR.out.fine j (by simp [hj])).2
          · exact (pushed_ok hlow forth _ hkf.2 j hj).2))
        have h2 := HR.out.row
        rw [rest_snoc hlow forth T k hkf.1 hkf.2] at h2
        rw [h2] at hsz
        simp only [List.length_append, List.length_cons, hpl] at h1 hsz
        omega
      clear hown1 hg1 hat1 hO2 hT2 hns2 hkc hkf hTs hTs2 hki hpl
      go_region_held3 (fun w' => w'.cell? ⟨w.heap.size, 0, none⟩ = some (.slice (some ⟨b, off, none⟩) t.nodes.length c) ∧ w'.cell? ⟨b, off + k.toNat * 9 + 8, none⟩ = some (.slice Ak N.kids.length ck)) (first | go_keep | (go_split_ands; refine ⟨hg4.cell (by assumption) (by simp [Value.ownBlock]; omega), hg4.cell (by assumption) (by simp [Value.ownBlock]; omega)⟩)) ((refine step_append_any _ (by rfl) (.tmp 29) (.tmp 35) _ (by rfl) (w.heap.size + 1) 3 i0 _ 1 8 Tryd.underlying63 hi0 hz0 hz1 hz2 (by rfl) (by omega) (.slice (some ⟨g, 0, none⟩) T.length ct) T.length (T.map (Value.int .i64)) (by rfl) HTs.out w2.heap.size Ak N.kids.length ck (N.kids.map (Value.int .i64)) (by rfl) HKr.out (by simp [Value.oneCell']) (by unfold maxLen; omega) (by omega) hsz2 ?_; intro v3 w3 hown3 hg4 hat3))
      obtain ⟨hbox3, hkc3⟩ := ‹w3.cell? ⟨w.heap.size, 0, none⟩ = _ ∧ _›
      obtain ⟨A3, c3, rfl, hO3, hT3, hne3, hb3⟩ := walk_step2 HO2.out hg1 hne2 hown3 hg4 hat3 hb2
      have HO3 := Lib.hid hO3
      have HT3 := Lib.hid hT3
      have HW := Lib.hid (walk_row hlow HR.out)
      have hmeas : R.length - (O ++ [k]).length < R.length - O.length := by
        have := HR.out.row
        rw [this]
        have h2 := rest_length forth _ (fun k hk => gRow_pos hlow forth _ (HR.out.fine k hk).2)
        simp only [List.length_append, List.length_cons, List.length_nil] at h2 ⊢
        omega
      clear hO3 hT3 hown3 hg4 hat3 HO2 HT2 HTs HKr hkc8 hbox2 hb2 hne2 hk hwr
      cases forth
      · go_wp2
        go_roundw
        case rel => 
          refine ⟨O ++ [k], T ++ N.kids, A1, c1, A3, c3, rfl, rfl, Lib.hid ?_⟩
          have hp : pushed false t.nodes k.toNat = N.kids := by rw [pushed_of hN]; rfl
          rw [hp] at HW
          exact ⟨HO3.out, HT3.out, hne3, HW.out.1, HW.out.2, hbox3, hb3⟩
        case measure => exact hmeas
      · rcases Nat.eq_zero_or_pos N.kids.length with hz | hz
        · go_wp2_with (go_at_call 85; refine (Tryd.slices_Reverse_int_empty _ _ _).mono ?_; rintro e w' ⟨rfl, rfl⟩)
          all_goals go_roundw
          all_goals try exact hmeas
          all_goals try exact (by simpa using hmeas : R.length - (O.length + 1) < R.length - O.length)
          all_goals
            have hK : N.kids = [] := List.eq_nil_of_length_eq_zero hz
            refine ⟨O ++ [k], T ++ N.kids, A1, c1, A3, c3, by simp, by simp [hK], Lib.hid ?_⟩
            have hp : pushed true t.nodes k.toNat = N.kids := by rw [pushed_of hN, hK]; rfl
            rw [hp] at HW
            exact ⟨HO3.out, HT3.out, hne3, HW.out.1, HW.out.2, hbox3, hb3⟩
        · obtain ⟨g3, rfl, hg31, hg32, hg33⟩ := own_some HT3.out (by simp; omega)
          have hc3 : ¬ c3 = T.length := by simp at hg33; omega
          have hcell3 : ∀ j, j < N.kids.length → w3.cell? ⟨g3, T.length + j, none⟩ = some (.int .i64 (N.kids.getD j 0)) := by
            intro j hj
            have := HT3.out.cellAt (T.length + j) (by simp; omega)
            rw [this]
            simp [hj]
          have hrev := Lib.hid (fun c => Tryd.slices_Reverse_int_cells g3 T.length N.kids.length c N.kids w3 (Nat.le_refl _) (by omega) hcell3 (fun j _ => HT3.out.frozenAt _))
          clear hcell3
          go_wp2_with (go_at_call 85; go_loud (refine (hrev.out _).mono ?_); rintro e w' ⟨rfl, q, rfl⟩)
          have hgr : w3.grownBy ((w3.drewN q).setCells g3 T.length (N.kids.map (Value.int .i64)).reverse) (some g3) := grown_setCells (only_drewN (grown_refl _ _) q) _ _
          have hp : pushed true t.nodes k.toNat = N.kids.reverse := by rw [pushed_of hN]; rfl
          rw [hp] at HW
          go_roundw
          case measure => simpa [lenOf] using hmeas
          case rel =>
            refine ⟨O ++ [k], T ++ N.kids.reverse, A1, c1, some ⟨g3, 0, none⟩, c3, by simp, by simp, Lib.hid ⟨HO3.out.kept hgr ?_, own_reversed HT3.out, hne3, HW.out.1, HW.out.2, hgr.cell hbox3 (by simp; omega), ?_⟩⟩
            · rcases A1 with _ | a1
              · exact .inl (by simp [Value.ownBlock])
              · refine .inr fun e => ?_
                obtain ⟨h1, h2, h3⟩ := own_blk_some HO3.out
                rw [ownBlock_some _ _ _ h1] at e
                have : a1.block = g3 := by simpa using e
                rw [this] at h1
                rcases hne3 with h | h
                · cases h
                · exact h (by rw [h1])
            · exact hb3.trans (below_of_grown hgr hb3.size (fun r hr => by
                have : g3 = r := by simpa using hr
                omega))
end Go.Proofs.YtclfpjfjebheoaaDoor
/- The contract of tree.put: what stands at a node, clean, behind other nodes. -/
namespace Go.Proofs.YtclfpjfjebheoaaDoor
open Go.RowKit Go.WideShapes Go.Maps

theorem gRow_false (ns : List Nd) (i : Nat) : gRow false ns i = (post ns i).reverse := rfl
theorem node_info : (Tryd.prog.info? 65).map (fun i => (i.zero, i.size, i.bytes)) = some (some (.agg #[.int .u8 0, .int .u64 0, .int .u64 0, .int .u64 0, .int .u64 0, .string ⟨#[]⟩, .int .i64 0, .int .i64 0, .slice none 0 0]), 9, 96) := by kernel_rfl

theorem int_keys : Keyed Tryd.prog 3 := int_keyed Tryd.underlying3
theorem zero_int (w : World) : (zeroValue 3).run Tryd.prog w = .ok (.int .i64 0) w := by kernel_rfl
theorem int_size : (Tryd.prog.info? 3).map (·.size) = some 1 := by kernel_rfl
/-- make([]int, n) -/
theorem make_ints (n : Nat) (hn : n ≤ 1000000) : ∃ Z : Array Value, Z.size = n ∧ ∀ wx : World, (Instr.makeSlice 63 (.int .i64 (n : Int)) (.int .i64 (n : Int))).run Tryd.prog wx = .ok (.slice (some ⟨wx.heap.size, 0, none⟩) n n) (wx.alloc (.cells Z 3)) := by
  obtain ⟨i0, hi0, hz0, hz1, hz2⟩ := info_parts int_info
  refine ⟨madeCells (Value.cells (.int .i64 0)) (n * i0.size), ?_, fun wx => run_make_rowN _ _ i0 _ Tryd.underlying63 hi0 hz0 _ _ n n (Nat.le_refl _) (by rw [hz2]; omega) (by omega) wx⟩
  rw [hz1]
  simp [madeCells, Value.cells]

theorem half_at {ks : List Int} {place : Int → Int} {m : Nat} {z : Int} (hz : ks[m]? = some z) : ((ks.take m).map place ++ ks.drop m)[m]? = some z := by
  have hm : m < ks.length := (List.getElem?_eq_some_iff.1 hz).1
  have hl : ((ks.take m).map place).length = m := by simp; omega
  rw [List.getElem?_append_right (by omega), hl, Nat.sub_self, List.getElem?_drop]
  exact hz
theorem half_set {ks : List Int} {place : Int → Int} {m : Nat} {z : Int} (hz : ks[m]? = some z) : ((ks.take m).map place ++ ks.drop m).set m (place z) = (ks.take (m + 1)).map place ++ ks.drop (m + 1) := by
  have hm : m < ks.length := (List.getElem?_eq_some_iff.1 hz).1
  have hl : ((ks.take m).map place).length = m := by simp; omega
  rw [List.set_append_right _ _ (by omega), hl, Nat.sub_self, List.drop_eq_getElem_cons hm, List.set_cons_zero, List.take_add_one, hz]
  simp

structure PutRel (ns : List Nd) (base B gR M : Nat) (w : World) (nv : Value) (vo0 : Value) (X : Nat → Prop) (R : List Int) (outs : List Nd) (j : Nat) (vo : Value) (ns' : List Nd) (kvs : List Value) (place : Int → Int) (wr : World) : Prop where
  st : (R.take j).foldl (putStep ns) (outs, fun _ => 0) = (ns', place)
  out : OwnNK wr 65 base X vo ns' kvs
  new : vo.ownBlock = vo0.ownBlock ∨ ∀ g, vo.ownBlock = some g → M < g
  grown : w.grownBy wr vo0.ownBlock
  box : wr.cell? ⟨B, 0, none⟩ = some nv
  row : ∀ (i : Nat) (k : Int), R[i]? = some k → wr.cell? ⟨gR, i, none⟩ = some (.int .i64 k)
  map : MapIs Tryd.prog wr 3 3 M j place

theorem put_row2 {w : World} {base g c : Nat} {e : TypeId} {R : List Int} (h : w.ownsRow base e 1 (.slice (some ⟨g, 0, none⟩) R.length c) R.length (R.reverse.map (Value.int .i64))) :
    ∀ j, j < R.reverse.length → w.cell? ⟨g, 0 + j, none⟩ = some (.int .i64 (R.reverse.getD j 0)) := by
  intro j hj
  have hj2 : j < R.length := by simpa using hj
  rw [Nat.zero_add, h.cellAt j (by omega)]
  rw [List.getElem?_map, List.getD_eq_getElem?_getD, List.getElem?_eq_getElem hj]; rfl

theorem put_start {ns : List Nd} {base gR cu q : Nat} {w w2 w3 : World} {nv rv vo : Value} {te : TypeId} {R : List Int} {outs : List Nd} {kvs : List Value} {X0 : Nat → Prop} (hout : OwnNK w 65 base X0 vo outs kvs)
    (hO : w2.ownsRow (w.alloc (.cells #[nv, rv] te)).heap.size 3 1 (.slice (some ⟨gR, 0, none⟩) R.length cu) R.length (R.reverse.map (Value.int .i64))) (hb : Below (w.alloc (.cells #[nv, rv] te)).heap.size (w.alloc (.cells #[nv, rv] te)) w2)
    (h3 : w3 = (w2.drewN q).setCells gR 0 ((R.reverse.take R.length).reverse.map (Value.int .i64))) :
    PutRel ns base w.heap.size gR w3.heap.size w nv vo (fun b => (b < w.heap.size ∧ X0 b) ∨ w3.heap.size < b) R outs 0 vo outs kvs (fun _ => 0) (w3.alloc (.map #[] 0)) ∧ gR < w3.heap.size ∧ w.heap.size < gR := by
  have hlt := own_blk_lt hO (g := gR) rfl
  have hsz : (w.alloc (.cells #[nv, rv] te)).heap.size = w.heap.size + 1 := by simp
  have hK : (R.reverse.take R.length).reverse.map (Value.int .i64) = (R.reverse.map (Value.int .i64)).reverse := by
    rw [List.take_of_length_le (by simp), List.map_reverse, List.map_reverse]
  have hg3 : w2.grownBy w3 (some gR) := by rw [h3]; exact grown_setCells (only_drewN (grown_refl _ _) q) _ _
  have hrow : w3.ownsRow (w.alloc (.cells #[nv, rv] te)).heap.size 3 1 (.slice (some ⟨gR, 0, none⟩) R.length cu) R.length (R.map (Value.int .i64)) := by
    have h := own_reversed (T := []) (K := R.reverse) (q := q) (by simpa using hO)
    rw [h3, hK]
    simpa using h
  have hbw : Below w.heap.size w (w3.alloc (.map #[] 0)) := by
    have h1 : Below w.heap.size w w2 := ((Below.refl _ _).alloc (Nat.le_refl _) _).trans (hb.mono (by omega))
    have h2 := h1.trans (below_of_grown hg3 (by have := hb.size; omega) (fun r hr => by have : gR = r := by simpa using hr
                                                                                        omega))
    exact h2.alloc h2.size _
  have h3s := hg3.size
  refine ⟨⟨rfl, (hout.weaken (Y := fun b => (b < w.heap.size ∧ X0 b) ∨ w3.heap.size < b) (fun b _ h hx => .inl ⟨h, hx⟩)).frame (only_of_below hbw none) ?_ (fun g h => by cases h), .inl rfl, only_of_below hbw _, ?_, fun i k hk => ?_, MapIs.new _ _ _ _⟩, by omega, by omega⟩
  · cases h : vo.ownBlock with
    | none => exact .inl rfl
    | some g => exact .inr (by simp)
  · have h1 : (w.alloc (.cells #[nv, rv] te)).cell? ⟨w.heap.size, 0, none⟩ = some nv := by simp [Blk.cell (Blk.new w _ _)]
    have h2 : w2.cell? ⟨w.heap.size, 0, none⟩ = some nv := (hb.cell (p := ⟨w.heap.size, 0, none⟩) (by simp)).trans h1
    have h4 : w3.cell? ⟨w.heap.size, 0, none⟩ = some nv := hg3.cell h2 (by simp; omega)
    rw [World.cell?_alloc_lt _ _ _ (cell_lt h4)]
    exact h4
  · have hi : i < R.length := (List.getElem?_eq_some_iff.1 hk).1
    have h1 := hrow.cellAt i (by omega)
    rw [List.getElem?_map, hk] at h1
    rw [World.cell?_alloc_lt _ _ _ (by show gR < _; omega)]
    exact h1
theorem post_mem {ns : List Nd} (h : Low ns) {i : Nat} (hi : i < ns.length) {j : Nat} {k : Int} (hk : (post ns i)[j]? = some k) : 0 ≤ k ∧ k.toNat < ns.length := by
  have := mem_pre h i hi k ((post_perm h i hi).mem_iff.1 (List.mem_of_getElem? hk))
  omega

theorem putStep_length (ns : List Nd) : ∀ (l : List Int) (s : List Nd × (Int → Int)), (l.foldl (putStep ns) s).1.length ≤ s.1.length + l.length := by
  intro l
  induction l with
  | nil => intro s; simp
  | cons k l ih =>
    intro s
    have h1 := ih (putStep ns s k)
    have h2 : (putStep ns s k).1.length ≤ s.1.length + 1 := by unfold putStep; split <;> simp
    simp only [List.foldl_cons, List.length_cons]
    omega
theorem put_round {ns : List Nd} {base B gR M j : Nat} {w wo wy w6 w8 : World} {nv vo0 vo v8 kv : Value} {R : List Int} {outs ns' : List Nd} {kvs' : List Value} {place : Int → Int} {k : Int} {N : Nd} {D : DataW Unit}
    {X : Nat → Prop} (hXM : ¬ X M) (hXn : ∀ b, M < b → X b) (h : PutRel ns base B gR M w nv vo0 X R outs j vo ns' kvs' place wo) (hB : B = w.heap.size) (hbase : base ≤ B) (hBg : B < gR) (hgM : gR < M) (hMo : M < wo.heap.size) (hv0 : ∀ g, vo0.ownBlock = some g → g < B) (hk : R[j]? = some k) (hN : ns[k.toNat]? = some N)
    (hby : Below wo.heap.size wo wy) (hkv : RInts wy (fun b => wo.heap.size ≤ b ∧ b < wy.heap.size ∧ Soft wy b) kv (N.kids.map place)) (hd : N.d.Ok)
    (hm6 : w6.ownsMap Tryd.prog 3 (plainElem Tryd.prog 3) M (j + 1) (D.put (.int .i64 k) (.lit (.int .i64 (ns'.length : Int))))) (hD2 : IsMap D) (hD3 : ∀ z : Int, D.atKey (.int .i64 z) (.lit (.int .i64 0)) = .lit (.int .i64 (place z)))
    (hg6 : wy.grownBy w6 (some M)) (hown8 : w8.ownsRow base 65 9 v8 (ns'.length + 1) (nodesCells ns' kvs' ++ nodeCells ⟨N.d, N.kids.map place⟩ kv)) (hg8 : w6.grownBy w8 vo.ownBlock)
    (hat8 : v8.ownBlock = vo.ownBlock ∨ v8.ownBlock = some (w6.heap.size + 1)) :
    PutRel ns base B gR M w nv vo0 X R outs (j + 1) v8 (ns' ++ [⟨N.d, N.kids.map place⟩]) (kvs' ++ [kv]) (fun i => if i = k then (ns'.length : Int) else place i) w8 := by
  have hvo : ∀ g, vo.ownBlock = some g → g < B ∨ M < g := fun g hg => by
    rcases h.new with e | e
    · exact .inl (hv0 g (e ▸ hg))
    · exact .inr (e g hg)
  have hvl : ∀ g, vo.ownBlock = some g → g < wo.heap.size := fun g hg => (own_blk_lt h.out.row hg).2
  have s1 := hby.size
  have s2 := hg6.size
  have s3 := hg8.size
  have s0 := h.grown.size
  have hchain : ∀ i, i < wo.heap.size → i ≠ M → vo.ownBlock ≠ some i → w8.heap[i]? = wo.heap[i]? := fun i h1 h2 h3 =>
    (hg8.block i (by omega) (fun e => h3 e.symm)).trans ((hg6.block i (by omega) (by simpa using h2)).trans (hby.block i h1))
  have hcell : ∀ a : Addr, a.block < wo.heap.size → a.block ≠ M → vo.ownBlock ≠ some a.block → w8.cell? a = wo.cell? a := fun a h1 h2 h3 => World.cell?_of_block (hchain _ h1 h2 h3)
  have hn1 : some M ≠ vo.ownBlock := fun e => by have := hvo M e.symm; omega
  refine ⟨?_, ?_, ?_, ?_, ?_, ?_, ?_⟩
  · rw [List.take_add_one, hk, List.foldl_append, h.st]
    simp [putStep, hN]
  · have o1 := h.out.frame (only_of_below hby none) (by cases vo.ownBlock <;> simp) (fun g e => by cases e)
    have o2 := o1.frame hg6 (.inr (fun e => hn1 e.symm)) (fun g e hX => by
      have : M = g := by simpa using e
      exact hXM (this ▸ hX))
    refine o2.push ?_ hd hown8 hg8 ?_
    · refine (RInts.keep hkv fun p hp => World.cell?_of_block (hg6.block p.block hp.2.1 (by have := hp.1; simp; omega))).more fun b hb => ⟨by have := hb.1; omega, by have := hb.2.1; omega, fun e => ?_, hXn b (by have := hb.1; omega), hb.2.2.grown hg6 hb.2.1 (by have := hb.1; simp; omega)⟩
      have hb1 := hb.1
      have := hvl b e
      omega
    · rcases hat8 with e | e
      · exact .inl e
      · exact .inr fun g hg => by rw [e] at hg; injection hg; omega
  · rcases hat8 with e | e
    · rw [e]; exact h.new
    · refine .inr fun g hg => ?_
      rw [e] at hg; injection hg with hg; omega
  · refine ⟨hg8.os.trans (hg6.os.trans (hby.os.trans h.grown.os)), hg8.tape.trans (hg6.tape.trans (hby.tape.trans h.grown.tape)), hg8.output.trans (hg6.output.trans (hby.output.trans h.grown.output)), by omega, fun i hi hne => ?_⟩
    rw [hchain i (by omega) (by omega) (fun e => ?_)]
    · exact h.grown.block i hi hne
    · rcases h.new with e1 | e1
      · exact hne (by rw [← e1, e])
      · have := e1 i e; omega
  · rw [hcell _ (by show B < _; omega) (by show B ≠ _; omega) (fun e => by have := hvo B e; omega)]
    exact h.box
  · intro i z hz
    rw [hcell _ (by show gR < _; omega) (by show gR ≠ _; omega) (fun e => by have := hvo gR e; omega)]
    exact h.row i z hz
  · exact (MapIs.put hm6 hD2 hD3).kept hg8 hn1

set_option maxHeartbeats 1000000 in
theorem put_any (t : Tr) (tv : Value) (S : Nat → Prop) (node : Int) (vo : Value) (outs : List Nd) (kvs : List Value) (base : Nat) (w : World) (ht : RTree w S tv t) (hS : ∀ b, S b → b < w.heap.size ∧ vo.ownBlock ≠ some b)
    (hbase : base ≤ w.heap.size) (X0 : Nat → Prop) (hout : OwnNK w 65 base X0 vo outs kvs) (hlow : Low t.nodes) (h0 : 0 ≤ node) (hn : node.toNat < t.nodes.length) (hnd : (post t.nodes node.toNat).Nodup)
    (hsz : (D t.nodes node.toNat).size + outs.length ≤ 1000000) (hks : ∀ n ∈ t.nodes, n.kids.length ≤ 1000000) :
    Calls Tryd.prog 68 #[vo, tv, .int .i64 node] w fun e w' => ∃ u, e = .returned u ∧ OwnNodes w' 65 base (fun b => X0 b ∨ w.heap.size ≤ b) u (outs ++ flatAt outs.length (D t.nodes node.toNat)) ∧
      w.grownBy w' vo.ownBlock ∧ (u.ownBlock = vo.ownBlock ∨ ∀ g, u.ownBlock = some g → w.heap.size ≤ g) := by
  have hps := post_size hlow _ hn
  have hR0 := gRow_pos hlow false _ hn
  have HW := fun (o : Obj) => walk_any t tv S node false (w.alloc o) (ht.keep (fun p hp => World.cell?_alloc_lt w o p (hS _ hp).1)) (fun b hb => by simp; have := (hS b hb).1; omega) hlow h0 hn (by rw [gRow_false, List.length_reverse, hps]; omega)
  simp only [gRow_false, List.length_reverse] at HW hR0
  obtain ⟨R, hR⟩ : ∃ R, R = post t.nodes node.toNat := ⟨_, rfl⟩
  rw [← hR] at HW hps hnd hR0
  have HRd := Lib.hid hR
  have HW := Lib.hid HW
  clear hR
  obtain ⟨nv, rfl, hns, _⟩ := ht
  obtain ⟨A, c, rfl, hc, hs, hcells⟩ := hns.at_
  obtain ⟨b, off, rfl, hb1, hcell⟩ := hcells (by omega)
  obtain ⟨Ao, co, rfl, hco1, hco2, _⟩ := own_slice hout.row
  clear hcell hcells
  have hv0 : ∀ g, (Value.slice Ao outs.length co).ownBlock = some g → g < w.heap.size := fun g hg => (own_blk_lt hout.row hg).2
  have HV0 := Lib.hid hv0
  clear hv0
  have hmm : ∀ wx, (Instr.makeMap 113 (some (.int .i64 (R.length : Int)))).run Tryd.prog wx = .ok (.map (some wx.heap.size)) (wx.alloc (.map #[] 0)) := fun wx => run_makeMap_hint _ _ _ _ _ Tryd.underlying113 wx
  have hRl : R.length ≤ 1000000 := by omega
  have HPS := Lib.hid hps
  clear hps
  go_enter Tryd.func68, Tryd.ntmps68
  go_wp2_with (first
    | (go_at_call 84
       go_loud (refine (HW.out _).mono ?_)
       rintro e w2 ⟨u, rfl, hown2, hb2⟩
       obtain ⟨Au, cu, rfl, hcu1, hcu2, _⟩ := own_slice hown2
       obtain ⟨gR, rfl, hgR1, hgR2, _⟩ := own_some hown2 hR0
       have hrc := put_row2 hown2
       have hw2 := hb2.size
       have HO2 := Lib.hid hown2
       have Hb2 := Lib.hid hb2
       have HRV := Lib.hid (fun cx => Tryd.slices_Reverse_int_cells gR 0 R.length cx R.reverse w2 (by simp) (by omega) hrc (fun j _ => hown2.frozenAt _))
       clear hown2 hrc hb2)
    | (go_at_call 85
       go_loud (refine (HRV.out _).mono ?_)
       rintro e w3 ⟨rfl, q, hw3⟩
       have HW3 := Lib.hid hw3
       clear hw3)
    | fail)
  obtain ⟨hstart, hgR3, hgR4⟩ := put_start (ns := t.nodes) hout HO2.out Hb2.out HW3.out
  have HST := Lib.hid hstart
  clear hstart
  go_loopw [0, 24] (fun vo i wr => ∃ j : Nat, j ≤ R.length ∧ i = .int .i64 j ∧ ∃ (ns' : List Nd) (kvs' : List Value) (place : Int → Int) (A' : Option Addr) (c' : Nat), vo = .slice A' ns'.length c' ∧
    Hid (PutRel t.nodes base w.heap.size gR w3.heap.size w (.slice (some ⟨b, off, none⟩) t.nodes.length c) (.slice Ao outs.length co) (fun b => (b < w.heap.size ∧ X0 b) ∨ w3.heap.size < b) R outs j (.slice A' ns'.length c') ns' kvs' place wr)) (fun _ i _ => R.length - (intOf i).toNat)
  case atStart => exact ⟨0, Nat.zero_le _, rfl, outs, kvs, _, Ao, co, rfl, HST⟩
  case round =>
    obtain ⟨wo, rfl⟩ : ∃ wo, wo = wr := ⟨_, rfl⟩
    obtain ⟨j, hj, rfl, ns', kvs', place, A', c', rfl, HR⟩ := hrel
    by_cases hlt : j < R.length
    · obtain ⟨k, hk⟩ : ∃ k, R[j]? = some k := ⟨_, List.getElem?_eq_getElem hlt⟩
      have hkr := HR.out.row j k hk
      have hkb := post_mem hlow hn (by rw [← HRd.out]; exact hk)
      obtain ⟨N, hN⟩ : ∃ N, t.nodes[k.toNat]? = some N := ⟨_, List.getElem?_eq_getElem hkb.2⟩
      obtain ⟨_, Ak, ck, hki, hdo, hck, hkc⟩ := (hns.grown HR.out.grown hS).known k.toNat N hN
      have c0 : wo.cell? ⟨b, off + k.toNat * 9, none⟩ = some (.int .u8 N.d.kind) := hkc 0 _ rfl
      have c1 : wo.cell? ⟨b, off + k.toNat * 9 + 1, none⟩ = some (.int .u64 N.d.s0) := hkc 1 _ rfl
      have c2 : wo.cell? ⟨b, off + k.toNat * 9 + 2, none⟩ = some (.int .u64 N.d.s1) := hkc 2 _ rfl
      have c3 : wo.cell? ⟨b, off + k.toNat * 9 + 3, none⟩ = some (.int .u64 N.d.s2) := hkc 3 _ rfl
      have c4 : wo.cell? ⟨b, off + k.toNat * 9 + 4, none⟩ = some (.int .u64 N.d.s3) := hkc 4 _ rfl
      have c5 : wo.cell? ⟨b, off + k.toNat * 9 + 5, none⟩ = some (.string ⟨N.d.text.toArray⟩) := hkc 5 _ rfl
      have c6 : wo.cell? ⟨b, off + k.toNat * 9 + 6, none⟩ = some (.int .i64 N.d.min) := hkc 6 _ rfl
      have c7 : wo.cell? ⟨b, off + k.toNat * 9 + 7, none⟩ = some (.int .i64 N.d.max) := hkc 7 _ rfl
      have c8 : wo.cell? ⟨b, off + k.toNat * 9 + 8, none⟩ = some (.slice Ak N.kids.length ck) := hkc 8 _ rfl
      have hbox := HR.out.box
      have hk0 : 0 ≤ k := hkb.1
      have hkl : k < (t.nodes.length : Int) := by omega
      have hnk := hks N (List.mem_of_getElem? hN)
      obtain ⟨Z, hZ, hmk⟩ := make_ints N.kids.length hnk
      have HKR := Lib.hid (Row.reads hki (B := wo.heap.size) (fun b hb => by have := (hS b hb).1; have := HR.out.grown.size; omega))
      obtain ⟨Dm, hD1, hD2, hD3⟩ := HR.out.map
      have hMo := hD1.lt
      have HD := Lib.hid hD1
      have HD3 := Lib.hid hD3
      clear hkc hki hkb hD1 hD3
      go_wp2_with (first
        | (refine wpList_copy_all rfl (.tmp 37) (.tmp 39) _ _ rfl 3 Tryd.underlying63 int_size (wo.heap.size + 1) N.kids.length ck wo.heap.size Ak rfl rfl Z 3 (Blk.new1 _ _ _ _) hZ (N.kids.map (Value.int .i64)) ((HKR.out.alloc (Nat.le_refl _) _).alloc (by simp) _) (by simp [Value.oneCell']) ?_
           intro w5 r5 hB5 hg5
           have HB5 := Lib.hid hB5
           have HG5 := Lib.hid hg5
           clear hB5 hg5)
        | fail)
      have hC5 : Blk w5 wo.heap.size 65 #[.int .u8 N.d.kind, .int .u64 N.d.s0, .int .u64 N.d.s1, .int .u64 N.d.s2, .int .u64 N.d.s3, .string ⟨N.d.text.toArray⟩, .int .i64 N.d.min, .int .i64 N.d.max, .slice Ak N.kids.length ck] :=
        ((Blk.new wo _ _).alloc _).grown HG5.out (by simp)
      have hb5 : Below wo.heap.size wo w5 := (((Below.refl _ _).alloc (Nat.le_refl _) _).alloc (by simp) _).trans (below_of_grown HG5.out (by simp; omega) (fun r hr => by
        have : wo.heap.size + 1 = r := by simpa using hr
        omega))
      have HC5 := Lib.hid hC5
      have Hb5 := Lib.hid hb5
      clear hC5 hb5 hmk c0 c1 c2 c3 c4 c5 c6 c7 c8
      go_loopw [43] (fun i wr => ∃ m : Nat, m ≤ N.kids.length ∧ i = .int .i64 m ∧ Hid (Blk wr (wo.heap.size + 1) 3 (((N.kids.take m).map place ++ N.kids.drop m).map (Value.int .i64)).toArray) ∧
        Hid (Blk wr wo.heap.size 65 #[.int .u8 N.d.kind, .int .u64 N.d.s0, .int .u64 N.d.s1, .int .u64 N.d.s2, .int .u64 N.d.s3, .string ⟨N.d.text.toArray⟩, .int .i64 N.d.min, .int .i64 N.d.max, .slice Ak N.kids.length ck]) ∧ Hid (Below wo.heap.size wo wr)) (fun i _ => N.kids.length - (intOf i).toNat)
      case atStart => exact ⟨0, Nat.zero_le _, rfl, Lib.hid (by simpa using HB5.out), HC5, Hb5⟩
      case round =>
        obtain ⟨m, hm, rfl, HB6, HC6, Hb6⟩ := hrel
        by_cases hml : m < N.kids.length
        · obtain ⟨z, hz⟩ : ∃ z, N.kids[m]? = some z := ⟨_, List.getElem?_eq_getElem hml⟩
          have hzb := hlow _ N hN z (List.mem_of_getElem? hz)
          have hcm : wr.cell? ⟨wo.heap.size + 1, m, none⟩ = some (.int .i64 z) := by
            rw [HB6.out.cell m, List.getElem?_toArray, List.getElem?_map, half_at hz]; rfl
          have hfm := HB6.out.frozen m
          have hwi := Hb6.out.size
          have HD6 := Lib.hid (HD.out.kept (only_of_below Hb6.out none) (by simp))
          have hsl : (t.nodes.length : Int) ≤ 9223372036854775807 := by have := hs; unfold maxLen at this; omega
          have hzw : (Lit.int .i64 z).wf = true := WalkArith.wf_i64 (by omega)
          go_wp2_with (first
            | (at_lookup
               go_loud (refine wpList_lookup_own_int _ rfl (.tmp 48) (.tmp 52) 113 rfl 3 3 .i64 int_keys Tryd.underlying113 Tryd.underlying3 (zero_int _) w3.heap.size j Dm rfl HD6.out _ _ rfl (keyOf_int_mk Tryd.underlying3 hzw) ?_)
               intro x hat hwx
               obtain rfl : x = place z := by rw [HD3.out z] at hat; injection hat with hat; injection hat with _ hat; exact hat.symm)
            | fail)
          go_roundw
          case rel =>
            refine ⟨m + 1, by omega, by go_num, Lib.hid ?_, Lib.hid (HC6.out.far (by simp) _), Lib.hid (Hb6.out.setCell (by simp) _)⟩
            have := HB6.out.set_ m (.int .i64 (place z))
            rw [List.setIfInBounds_toArray, ← List.map_set, half_set hz] at this
            exact this
          case measure => simp [intOf]; omega
        · have hme : m = N.kids.length := by omega
          subst hme
          have hK6 : Blk wr (wo.heap.size + 1) 3 ((N.kids.map place).map (Value.int .i64)).toArray := by
            have := HB6.out
            simpa using this
          have HK6 := Lib.hid hK6
          obtain ⟨d0, d1, d2, d3, d4, d5, d6, d7, d8⟩ := HC6.out.nine
          have hf8 := HC6.out.frozen 8
          have hwi := Hb6.out.size
          have HD6 := Lib.hid (HD.out.kept (only_of_below Hb6.out none) (by simp))
          clear hK6
          have hnl : ns'.length ≤ 1000000 := by
            have h1 := putStep_length t.nodes (R.take j) (outs, fun _ => 0)
            rw [HR.out.st] at h1
            have h2 := HPS.out
            simp only [List.length_take] at h1
            omega
          have HY := fun u => Lib.hid (World.ownsMap.setCell HD6.out (a := ⟨wo.heap.size, 8, none⟩) (by show w3.heap.size ≠ wo.heap.size; omega) u)
          have hkw : (Lit.int .i64 k).wf = true := WalkArith.wf_i64 (by have := hs; unfold maxLen at this; omega)
          have hnw : (Lit.int .i64 (ns'.length : Int)).wf = true := WalkArith.wf_i64 (by omega)
          obtain ⟨i1, hi1, hy0, hy1, hy2⟩ := info_parts node_info
          have HVM : Hid ((Value.slice A' ns'.length c').ownBlock ≠ some w3.heap.size) := Lib.hid fun e => by
            rcases HR.out.new with e1 | e1
            · have := HV0.out _ (e1 ▸ e); omega
            · have := e1 _ e; omega
          rcases Nat.eq_zero_or_pos N.kids.length with hz | hz
          · have HBY : Hid (Below wo.heap.size wo (wr.setCell ⟨wo.heap.size, 8, none⟩ (.slice none 0 0))) := Lib.hid (Hb6.out.setCell (Nat.le_refl _) _)
            go_wp2_with (first
              | (at_mapUpdate
                 go_loud (refine wpList_mapUpdate_own _ rfl (.tmp 62) (.tmp 63) (.tmp 65) 113 rfl 3 3 int_keys Tryd.underlying113 _ w3.heap.size j Dm rfl (HY _).out (by unfold maxLen; omega) _ _ (.int .i64 k) rfl rfl (keyOf_int_mk Tryd.underlying3 hkw) (.lit (.int .i64 (ns'.length : Int))) [] (plainElem_int Tryd.underlying3 hnw) ?_)
                 intro w6 hm6 hg6
                 obtain ⟨e0, e1, e2, e3, e4, e5, e6, e7, e8⟩ := ((HC6.out.set_ 8 (.slice none 0 0)).grown hg6 (by simp; omega)).nine
                 have hO6 := ((HR.out.out.frame (only_of_below HBY.out none) (by cases A' <;> simp [Value.ownBlock]) (fun g e => by cases e)).row).kept hg6 (.inr HVM.out)
                 have HO6 := Lib.hid hO6
                 have hs6 : base ≤ w6.heap.size := Nat.le_trans hbase (Nat.le_trans HR.out.grown.size (Nat.le_trans HBY.out.size hg6.size))
                 clear hO6)
              | (at_builtin
                 go_loud (refine wpList_append1 w6 rfl (.tmp 66) (.tmp 68) _ rfl base 65 i1 _ 9 96 Tryd.underlying32 hi1 hy0 hy1 hy2 rfl (by omega) (.slice A' ns'.length c') ns'.length (nodesCells ns' kvs') rfl HO6.out [_, _, _, _, _, _, _, _, _] rfl rfl (by simp [Value.oneCell']) (by unfold maxLen; omega) (by omega) (by omega) ?_)
                 intro v8 w8 hown8 hg8 hat8)
              | fail)
            go_roundw
            case measure => simp [intOf]; omega
            case rel =>
              obtain ⟨A8, c8, rfl, _, _, _⟩ := own_slice hown8
              have hK0 : N.kids = [] := List.eq_nil_of_length_eq_zero hz
              have hpr := put_round (by omega) (fun _ h => .inr h) HR.out rfl hbase hgR4 hgR3 hMo HV0.out hk hN HBY.out (kv := .slice none 0 0) (by rw [hK0]; exact Row.nil_ _ _ _) hdo hm6 hD2 HD3.out hg6 hown8 hg8 hat8
              have e : (ns' ++ [(⟨N.d, N.kids.map place⟩ : Nd)]).length = ns'.length + 1 := by simp
              exact ⟨j + 1, by omega, by go_num, ns' ++ [⟨N.d, N.kids.map place⟩], _, _, A8, c8, by rw [e], Lib.hid (by rw [e]; exact hpr)⟩
          · have HBY : Hid (Below wo.heap.size wo ((wr.setCell ⟨wo.heap.size, 8, none⟩ (.slice none 0 0)).setCell ⟨wo.heap.size, 8, none⟩ (.slice (some ⟨wo.heap.size + 1, 0, none⟩) N.kids.length N.kids.length))) := Lib.hid ((Hb6.out.setCell (Nat.le_refl _) _).setCell (Nat.le_refl _) _)
            go_wp2_with (first
              | (at_mapUpdate
                 go_loud (refine wpList_mapUpdate_own _ rfl (.tmp 62) (.tmp 63) (.tmp 65) 113 rfl 3 3 int_keys Tryd.underlying113 _ w3.heap.size j Dm rfl (World.ownsMap.setCell (HY _).out (a := ⟨wo.heap.size, 8, none⟩) (by show w3.heap.size ≠ wo.heap.size; omega) _) (by unfold maxLen; omega) _ _ (.int .i64 k) rfl rfl (keyOf_int_mk Tryd.underlying3 hkw) (.lit (.int .i64 (ns'.length : Int))) [] (plainElem_int Tryd.underlying3 hnw) ?_)
                 intro w6 hm6 hg6
                 obtain ⟨e0, e1, e2, e3, e4, e5, e6, e7, e8⟩ := (((HC6.out.set_ 8 (.slice none 0 0)).set_ 8 (.slice (some ⟨wo.heap.size + 1, 0, none⟩) N.kids.length N.kids.length)).grown hg6 (by simp; omega)).nine
                 have hO6 := ((HR.out.out.frame (only_of_below HBY.out none) (by cases A' <;> simp [Value.ownBlock]) (fun g e => by cases e)).row).kept hg6 (.inr HVM.out)
                 have HO6 := Lib.hid hO6
                 have hs6 : base ≤ w6.heap.size := Nat.le_trans hbase (Nat.le_trans HR.out.grown.size (Nat.le_trans HBY.out.size hg6.size))
                 clear hO6)
              | (at_builtin
                 go_loud (refine wpList_append1 w6 rfl (.tmp 66) (.tmp 68) _ rfl base 65 i1 _ 9 96 Tryd.underlying32 hi1 hy0 hy1 hy2 rfl (by omega) (.slice A' ns'.length c') ns'.length (nodesCells ns' kvs') rfl HO6.out [_, _, _, _, _, _, _, _, _] rfl rfl (by simp [Value.oneCell']) (by unfold maxLen; omega) (by omega) (by omega) ?_)
                 intro v8 w8 hown8 hg8 hat8)
              | fail)
            go_roundw
            case measure => simp [intOf]; omega
            case rel =>
              obtain ⟨A8, c8, rfl, _, _, _⟩ := own_slice hown8
              have hpr := put_round (by omega) (fun _ h => .inr h) HR.out rfl hbase hgR4 hgR3 hMo HV0.out hk hN HBY.out (kv := .slice (some ⟨wo.heap.size + 1, 0, none⟩) N.kids.length N.kids.length)
                (by
                  have hsoft := ((HK6.out.far (p := ⟨wo.heap.size, 8, none⟩) (by simp) (.slice none 0 0)).far (p := ⟨wo.heap.size, 8, none⟩) (by simp) (.slice (some ⟨wo.heap.size + 1, 0, none⟩) N.kids.length N.kids.length)).soft
                  have := RInts.of_blk (S := fun b => wo.heap.size ≤ b ∧ b < ((wr.setCell ⟨wo.heap.size, 8, none⟩ (.slice none 0 0)).setCell ⟨wo.heap.size, 8, none⟩ (.slice (some ⟨wo.heap.size + 1, 0, none⟩) N.kids.length N.kids.length)).heap.size ∧ Soft ((wr.setCell ⟨wo.heap.size, 8, none⟩ (.slice none 0 0)).setCell ⟨wo.heap.size, 8, none⟩ (.slice (some ⟨wo.heap.size + 1, 0, none⟩) N.kids.length N.kids.length)) b)
                    ((HK6.out.far (p := ⟨wo.heap.size, 8, none⟩) (by simp) (.slice none 0 0)).far (p := ⟨wo.heap.size, 8, none⟩) (by simp) (.slice (some ⟨wo.heap.size + 1, 0, none⟩) N.kids.length N.kids.length)) ⟨by omega, by have := HK6.out.lt; simpa [World.setCell] using this, hsoft⟩ (by simp [maxLen]; omega)
                  simpa using this)
                hdo hm6 hD2 HD3.out hg6 hown8 hg8 hat8
              have e : (ns' ++ [(⟨N.d, N.kids.map place⟩ : Nd)]).length = ns'.length + 1 := by simp
              exact ⟨j + 1, by omega, by go_num, ns' ++ [⟨N.d, N.kids.map place⟩], _, _, A8, c8, by rw [e], Lib.hid (by rw [e]; exact hpr)⟩
    · have hjR : j = R.length := by omega
      subst hjR
      obtain ⟨place', e1, _, _⟩ := put_post hlow _ hn (by rw [← HRd.out]; exact hnd) outs (fun _ => 0)
      have hst := HR.out.st
      rw [List.take_length, HRd.out, e1] at hst
      injection hst with hst _
      subst hst
      clear e1
      have HE := Lib.hid (HR.out.out.weaken (Y := fun b => X0 b ∨ w.heap.size ≤ b) (fun b _ _ h => h.elim (fun h => .inl h.2) (fun h => .inr (by omega))))
      go_wp2
      go_ret
      refine ⟨_, rfl, ⟨_, HE.out⟩, HR.out.grown, ?_⟩
      rcases HR.out.new with e1 | e1
      · exact .inl e1
      · exact .inr fun g hg => by have := e1 g hg; omega
end Go.Proofs.YtclfpjfjebheoaaDoor
/- The contract of tree.depth. -/
namespace Go.Proofs.YtclfpjfjebheoaaDoor
open Go.RowKit

def tabOf (n : Nat) (F : Nat → Int) : List Value := (List.range n).map fun j => Value.int .i64 (F j)
theorem tabOf_at {n k : Nat} {F : Nat → Int} (hk : k < n) : (tabOf n F)[k]? = some (.int .i64 (F k)) := by
  unfold tabOf
  rw [List.getElem?_map, List.getElem?_range hk]; rfl
theorem tabOf_set {n k : Nat} {F G : Nat → Int} (x : Int) (h : ∀ j, j < n → G j = if j = k then x else F j) : (tabOf n F).set k (.int .i64 x) = tabOf n G := by
  apply List.ext_getElem?
  intro i
  unfold tabOf
  rw [List.getElem?_set, List.getElem?_map, List.getElem?_map]
  rcases Nat.lt_or_ge i n with hi | hi
  · rw [List.getElem?_range hi]
    simp only [Option.map_some, h i hi]
    by_cases hki : k = i
    · subst hki; simp [hi]
    · rw [if_neg hki, if_neg (fun e => hki e.symm)]
  · rw [List.getElem?_eq_none (by simpa using hi)]
    by_cases hki : k = i
    · rw [if_pos hki, if_neg (by simp; omega)]; rfl
    · rw [if_neg hki]; rfl
theorem tabOf_congr {n : Nat} {F G : Nat → Int} (h : ∀ j, j < n → G j = F j) : tabOf n F = tabOf n G := by
  unfold tabOf
  refine List.map_congr_left fun j hj => ?_
  rw [h j (by simpa using hj)]
theorem make_zeros (n : Nat) (hn : n ≤ 1000000) : ∀ wx : World, (Instr.makeSlice 63 (.int .i64 (n : Int)) (.int .i64 (n : Int))).run Tryd.prog wx = .ok (.slice (some ⟨wx.heap.size, 0, none⟩) n n) (wx.alloc (.cells (tabOf n fun _ => 0).toArray 3)) := by
  obtain ⟨i0, hi0, hz0, hz1, hz2⟩ := info_parts int_info
  intro wx
  have e : (tabOf n fun _ => 0).toArray = madeCells (Value.cells (.int .i64 0)) (n * i0.size) := by
    rw [hz1, Nat.mul_one]
    apply Array.ext'
    symm
    simp only [madeCells, Value.cells, tabOf]
    apply List.ext_getElem <;> simp [Nat.mod_one]
  rw [e]
  exact run_make_rowN _ _ i0 _ Tryd.underlying63 hi0 hz0 _ _ n n (Nat.le_refl _) (by rw [hz2]; omega) (by omega) wx
theorem depths_snoc (l : List T) (x : T) : depths (l ++ [x]) = Nat.max (depths l) x.depth := by
  induction l with
  | nil => simp [depths]
  | cons y l ih => simp only [List.cons_append, depths, ih]; show max _ (max _ _) = max (max _ _) _; omega
theorem depths_le (l : List T) (b : Nat) (h : ∀ t ∈ l, t.depth ≤ b) : depths l ≤ b := by
  induction l with
  | nil => simp [depths]
  | cons y l ih => simp only [depths]; exact Nat.max_le.2 ⟨h y (by simp), ih fun t ht => h t (by simp [ht])⟩
theorem depth_le {ns : List Nd} (h : Low ns) : ∀ i, i < ns.length → (D ns i).depth ≤ i + 1 :=
  node_ind h fun i n hn ih => by
    rw [D_eq h hn]
    simp only [T.depth]
    have : depths (n.kids.map fun k => D ns k.toNat) ≤ i := depths_le _ _ fun t ht => by
      obtain ⟨k, hk, rfl⟩ := List.mem_map.1 ht
      have h1 := ih k hk
      have h2 := h i n hn k hk
      omega
    omega
def dOuter (ns : List Nd) (i j : Nat) : Int := if j < i then ((D ns j).depth : Int) else 0
def dInner (ns : List Nd) (kids : List Int) (i q j : Nat) : Int := if j < i then ((D ns j).depth : Int) else if j = i then (depths ((kids.take q).map fun k => D ns k.toNat) : Int) else 0

end Go.Proofs.YtclfpjfjebheoaaDoor
/- The contracts of tree's small functions: Sub, Clean, Walk, Root, Size, Depth, May, leaf, Empty, Text, Rule. -/
namespace Go.Proofs.YtclfpjfjebheoaaDoor
open Go.RowKit

def flatT (x : T) : Tr := ⟨flatAt 0 x, (x.size : Int) - 1⟩
def zeroT : Tr := ⟨[], 0⟩
/-- A tree whose nodes lie in memory of the call's own. -/
def OwnTree (w : World) (base : Nat) (v : Value) (t : Tr) : Prop := ∃ nv, v = .agg #[nv, .int .i64 t.root] ∧ OwnNodes w 65 base (fun _ => True) nv t.nodes
theorem OwnTree.zero (w : World) (base : Nat) : OwnTree w base (.agg #[.slice none 0 0, .int .i64 0]) zeroT := ⟨_, rfl, _, OwnNK.nil_ _ _ _ _⟩
theorem OwnTree.read {w : World} {base : Nat} {v : Value} {t : Tr} {S : Nat → Prop} (h : OwnTree w base v t) (hS : ∀ b, base ≤ b → b < w.heap.size → S b) (h1 : -9223372036854775808 ≤ t.root) (h2 : t.root ≤ 9223372036854775807) : RTree w S v t := by
  obtain ⟨nv, rfl, kvs, hk⟩ := h
  exact ⟨nv, rfl, hk.nodes fun b h1 h2 _ => hS b h1 h2, h1, h2⟩
theorem RightT.kids_le {t : Tr} (h : RightT t) : ∀ n ∈ t.nodes, n.kids.length ≤ t.nodes.length := by
  intro n hn
  have h1 := h.shape.perm.length_eq
  rw [length_rangeI] at h1
  have h2 : n.kids.length ≤ (kidsOf t.nodes).length := by
    unfold kidsOf
    obtain ⟨a, b, e⟩ := List.append_of_mem hn
    rw [e]; simp; omega
  simp at h1
  omega
/-- The tree that a right arena stands for. -/
def treeOf (t : Tr) : T := D t.nodes t.root.toNat
theorem RightT.size {t : Tr} (h : RightT t) : (treeOf t).size = t.nodes.length := h.shape.size
/-- Conditions that all of tree's functions ask of a tree that is handed in. -/
structure Given (t : Tr) (v : Value) (S : Nat → Prop) (w : World) : Prop where
  read : RTree w S v t
  old : ∀ b, S b → b < w.heap.size
  tab : KTab w
  small : t.nodes.length ≤ 500000
theorem Given.below {t : Tr} {v : Value} {S : Nat → Prop} {w w' : World} (h : Given t v S w) (hb : Below w.heap.size w w') : Given t v S w' :=
  ⟨h.read.below hb h.old, fun b hs => Nat.lt_of_lt_of_le (h.old b hs) hb.size, h.tab.below hb, h.small⟩
open Classical in
theorem right_g {t : Tr} {v : Value} {S : Nat → Prop} {w : World} (h : Given t v S w) : Calls Tryd.prog 16 #[v] w fun e w' => e = .returned (.bool (decide (RightT t))) ∧ Below w.heap.size w w' :=
  right_any t v S w h.read h.old h.tab (by have := h.small; omega)
theorem put_g {t : Tr} {v : Value} {S : Nat → Prop} {w : World} (h : Given t v S w) (hr : RightT t) (node : Int) (h0 : 0 ≤ node) (hn : node.toNat < t.nodes.length) (vo : Value) (outs : List Nd) (base : Nat) (hbase : base ≤ w.heap.size) (X0 : Nat → Prop) (ho : OwnNodes w 65 base X0 vo outs)
    (hS : ∀ b, S b → vo.ownBlock ≠ some b) (hl : outs.length ≤ 500000) :
    Calls Tryd.prog 68 #[vo, v, .int .i64 node] w fun e w' => ∃ u, e = .returned u ∧ OwnNodes w' 65 base (fun b => X0 b ∨ w.heap.size ≤ b) u (outs ++ flatAt outs.length (D t.nodes node.toNat)) ∧
      w.grownBy w' vo.ownBlock ∧ (u.ownBlock = vo.ownBlock ∨ ∀ g, u.ownBlock = some g → w.heap.size ≤ g) := by
  obtain ⟨kvs, hk⟩ := ho
  exact put_any t v S node vo outs kvs base w h.read (fun b hb => ⟨h.old b hb, hS b hb⟩) hbase X0 hk hr.shape.low h0 hn (post_nodup hr.shape _ hn) (by have := size_le hr.shape _ hn; have := h.small; omega) (fun n hn => by have := hr.kids_le n hn; have := h.small; omega)
theorem put_nil {t : Tr} {v : Value} {S : Nat → Prop} {w : World} (h : Given t v S w) (hr : RightT t) (node : Int) (h0 : 0 ≤ node) (hn : node.toNat < t.nodes.length) (base : Nat) (hbase : base ≤ w.heap.size) :
    Calls Tryd.prog 68 #[.slice none 0 0, v, .int .i64 node] w fun e w' => ∃ A c, e = .returned (.slice A (D t.nodes node.toNat).size c) ∧ OwnNodes w' 65 base (fun _ => True) (.slice A (D t.nodes node.toNat).size c) (flatAt 0 (D t.nodes node.toNat)) ∧ Below w.heap.size w w' := by
  refine (put_g h hr node h0 hn (.slice none 0 0) [] base hbase (fun _ => True) ⟨_, OwnNK.nil_ _ _ _ _⟩ (fun b _ => by simp [Value.ownBlock]) (by simp)).mono ?_
  rintro e w' ⟨u, rfl, ⟨kvs, ho⟩, hg, _⟩
  simp only [List.nil_append, List.length_nil] at ho
  obtain ⟨A, c, rfl, _, _, _⟩ := own_slice ho.row
  rw [flatAt_length] at ho ⊢
  exact ⟨A, c, rfl, ⟨kvs, ho.weaken fun _ _ _ _ => trivial⟩, below_of_grown hg (Nat.le_refl _) (fun g e => by simp [Value.ownBlock] at e)⟩

theorem results_cell2 {P : Program} {fn : Func} {p u : Tmp} {ty : TypeId} (h : fn.results = #[.cell p ty, .tmp u]) (tmps : Array Value) (w : World) (g : Nat) (t : TypeId) (cs : Array Value) (d : TypeDesc)
    (hp : tmps.getD p undef = .pointer (some ⟨g, 0, none⟩)) (hg : Blk w g t cs) (hu : P.underlying ty = some d) (hd : (match d with | .struct _ | .array _ _ => true | _ => false) = true) (hi : (P.info? ty).map (·.size) = some cs.size) :
    (results fn tmps).run P w = .ok (.tuple #[.agg cs, tmps.getD u undef]) w := by
  rw [results_cell_tmp h, hp]
  simp [asAddr, run_loadVar_row w g t ty cs (0, 0) d hg hu hd hi]
theorem tree_size : (Tryd.prog.info? 34).map (·.size) = some 2 := by kernel_rfl

/-- What Sub tells. -/
structure IsSub (t : Tr) (node : Int) (x : Tr) (is : Bool) : Prop where
  yes : RightT t → 0 ≤ node → node < t.nodes.length → is = true ∧ x = flatT (D t.nodes node.toNat)
  no : ¬ (RightT t ∧ 0 ≤ node ∧ node < t.nodes.length) → is = false ∧ x = zeroT
set_option maxHeartbeats 2000000 in
theorem sub_g {t : Tr} {v : Value} {S : Nat → Prop} {w : World} (h : Given t v S w) (node : Int) :
    Calls Tryd.prog 71 #[v, .int .i64 node] w fun e w' => ∃ u x is, e = .returned (.tuple #[u, .bool is]) ∧ OwnTree w' w.heap.size u x ∧ IsSub t node x is ∧ Below w.heap.size w w' := by
  classical
  have HR := Lib.hid (fun wx (hx : Below w.heap.size w wx) => right_g (h.below hx))
  obtain ⟨nv, rfl, hns, hr1, hr2⟩ := h.read
  obtain ⟨A, c, rfl, hc, hs, _⟩ := hns.at_
  have HG := Lib.hid h
  by_cases hin : RightT t ∧ 0 ≤ node ∧ node < (t.nodes.length : Int)
  · obtain ⟨hr, h0, hn⟩ := hin
    · have HP := Lib.hid (fun wx (hx : Below w.heap.size w wx) => put_nil (h.below hx) hr node h0 (by omega) wx.heap.size (Nat.le_refl _))
      rw [decide_eq_true hr] at HR
      have hsp := (D t.nodes node.toNat).size_pos
      have hsl := size_le hr.shape node.toNat (by omega)
      have hsm := h.small
      have HRT := Lib.hid hr
      obtain ⟨n, hn2⟩ : ∃ n, n = (D t.nodes node.toNat).size := ⟨_, rfl⟩
      rw [← hn2] at HP hsp hsl
      have HN := Lib.hid hn2
      clear h hns hr hn2
      go_enter Tryd.func71, Tryd.ntmps71
      go_wp2_with (first
        | (go_at_call 16
           refine (HR.out _ (((Below.refl _ _).alloc (Nat.le_refl _) _).alloc (by simp) _)).mono ?_
           rintro e w1 ⟨rfl, hb1⟩
           have hb01 : Below w.heap.size w w1 := (((Below.refl _ _).alloc (Nat.le_refl _) _).alloc (by simp) _).trans (hb1.mono (by simp; omega))
           have d0 : w1.cell? ⟨w.heap.size, 0, none⟩ = some (.slice A t.nodes.length c) := by
             rw [hb1.cell (p := ⟨w.heap.size, 0, none⟩) (by simp; omega)]; exact ((Blk.new w _ _).alloc _).cell 0
           have d1 : w1.cell? ⟨w.heap.size, 1, none⟩ = some (.int .i64 t.root) := by
             rw [hb1.cell (p := ⟨w.heap.size, 1, none⟩) (by simp; omega)]; exact ((Blk.new w _ _).alloc _).cell 1
           have hB1 : Blk w1 (w.heap.size + 1) 34 #[.slice none 0 0, .int .i64 0] := (Blk.new1 _ _ _ _).below hb1 (by simp)
           have HB1 := Lib.hid hB1
           have hsz1 := hB1.lt
           clear hb1 hB1)
        | (go_at_call 68
           refine (HP.out _ hb01).mono ?_
           rintro e w2 ⟨A2, c2, rfl, ho, hb2⟩
           have hB2 := HB1.out.below hb2 hsz1
           have f0 := hB2.frozen 0
           have f1 := hB2.frozen 1
           have e0 : w2.cell? ⟨w.heap.size + 1, 0, none⟩ = some (.slice none 0 0) := hB2.cell 0
           have e1 : w2.cell? ⟨w.heap.size + 1, 1, none⟩ = some (.int .i64 0) := hB2.cell 1)
        | fail)
      have hb02 := (hb01.trans (hb2.mono hb01.size))
      obtain ⟨w3, hw3⟩ : ∃ w3, w3 = (w2.setCell ⟨w.heap.size + 1, 0, none⟩ (.slice A2 n c2)).setCell ⟨w.heap.size + 1, 1, none⟩ (.int .i64 ((n : Int) - 1)) := ⟨_, rfl⟩
      have hB3 : Blk w3 (w.heap.size + 1) 34 #[.slice A2 n c2, .int .i64 ((n : Int) - 1)] := by
        rw [hw3]; exact (hB2.set_ 0 (.slice A2 n c2)).set_ 1 (.int .i64 ((n : Int) - 1))
      have ho2 : OwnNodes w3 65 w1.heap.size (fun _ => True) (.slice A2 n c2) (flatAt 0 (D t.nodes node.toNat)) := by
        rw [hw3]
        exact ho.low (g := w.heap.size + 1) (grown_set2 _ _ _ _ _ _) hsz1
      have hb3 : Below w.heap.size w w3 := by
        rw [hw3]
        exact (hb02.setCell (by simp) _).setCell (by simp) _
      have hO : OwnTree w3 w.heap.size (.agg #[.slice A2 n c2, .int .i64 ((n : Int) - 1)]) (flatT (D t.nodes node.toNat)) := by
        refine ⟨.slice A2 n c2, ?_, ho2.base_ hb01.size⟩
        rw [flatT, ← HN.out]
      rw [← hw3]
      refine bodyPost_ret (results_cell2 rfl _ _ (w.heap.size + 1) _ _ _ rfl hB3 Tryd.underlying34 rfl tree_size) rfl ?_
      exact ⟨_, _, _, rfl, hO, ⟨fun _ _ _ => ⟨rfl, rfl⟩, fun hno => absurd ⟨HRT.out, h0, hn⟩ hno⟩, hb3⟩
  · have HIN := Lib.hid hin
    have hcase : ¬ RightT t ∨ (RightT t ∧ node < 0) ∨ (RightT t ∧ 0 ≤ node ∧ (t.nodes.length : Int) ≤ node) := by
      by_cases hr : RightT t
      · by_cases h0 : 0 ≤ node
        · exact .inr (.inr ⟨hr, h0, by
            rcases Int.lt_or_le node (t.nodes.length : Int) with h1 | h1
            · exact absurd ⟨hr, h0, h1⟩ hin
            · exact h1⟩)
        · exact .inr (.inl ⟨hr, by omega⟩)
      · exact .inl hr
    clear hin h hns
    rcases hcase with hr | ⟨hr, hn0⟩ | ⟨hr, hn0, hn1⟩
    · rw [decide_eq_false hr] at HR
      clear hr
      go_enter Tryd.func71, Tryd.ntmps71
      go_wp2_with (first
        | (go_at_call 16
           refine (HR.out _ (((Below.refl _ _).alloc (Nat.le_refl _) _).alloc (by simp) _)).mono ?_
           rintro e w1 ⟨rfl, hb1⟩
           have hb01 : Below w.heap.size w w1 := (((Below.refl _ _).alloc (Nat.le_refl _) _).alloc (by simp) _).trans (hb1.mono (by simp; omega))
           have d0 : w1.cell? ⟨w.heap.size, 0, none⟩ = some (.slice A t.nodes.length c) := by
             rw [hb1.cell (p := ⟨w.heap.size, 0, none⟩) (by simp; omega)]; exact ((Blk.new w _ _).alloc _).cell 0
           have hB1 : Blk w1 (w.heap.size + 1) 34 #[.slice none 0 0, .int .i64 0] := (Blk.new1 _ _ _ _).below hb1 (by simp)
           have f0 := hB1.frozen 0
           have f1 := hB1.frozen 1
           have e0 : w1.cell? ⟨w.heap.size + 1, 0, none⟩ = some (.slice none 0 0) := hB1.cell 0
           have e1 : w1.cell? ⟨w.heap.size + 1, 1, none⟩ = some (.int .i64 0) := hB1.cell 1
           have HB1 := Lib.hid hB1
           clear hb1 hB1)
        | fail)
      obtain ⟨w3, hw3⟩ : ∃ w3, w3 = (w1.setCell ⟨w.heap.size + 1, 0, none⟩ (.slice none 0 0)).setCell ⟨w.heap.size + 1, 1, none⟩ (.int .i64 0) := ⟨_, rfl⟩
      have hB3 : Blk w3 (w.heap.size + 1) 34 #[.slice none 0 0, .int .i64 0] := by
        rw [hw3]; exact (HB1.out.set_ 0 (.slice none 0 0)).set_ 1 (.int .i64 0)
      have hb3 : Below w.heap.size w w3 := by
        rw [hw3]
        exact (hb01.setCell (by simp) _).setCell (by simp) _
      rw [← hw3]
      refine bodyPost_ret (results_cell2 rfl _ _ (w.heap.size + 1) _ _ _ rfl hB3 Tryd.underlying34 rfl tree_size) rfl ?_
      exact ⟨_, _, _, rfl, OwnTree.zero _ _, ⟨fun a b c => absurd ⟨a, b, c⟩ HIN.out, fun _ => ⟨rfl, rfl⟩⟩, hb3⟩
    · rw [decide_eq_true hr] at HR
      clear hr
      go_enter Tryd.func71, Tryd.ntmps71
      go_wp2_with (first
        | (go_at_call 16
           refine (HR.out _ (((Below.refl _ _).alloc (Nat.le_refl _) _).alloc (by simp) _)).mono ?_
           rintro e w1 ⟨rfl, hb1⟩
           have hb01 : Below w.heap.size w w1 := (((Below.refl _ _).alloc (Nat.le_refl _) _).alloc (by simp) _).trans (hb1.mono (by simp; omega))
           have d0 : w1.cell? ⟨w.heap.size, 0, none⟩ = some (.slice A t.nodes.length c) := by
             rw [hb1.cell (p := ⟨w.heap.size, 0, none⟩) (by simp; omega)]; exact ((Blk.new w _ _).alloc _).cell 0
           have hB1 : Blk w1 (w.heap.size + 1) 34 #[.slice none 0 0, .int .i64 0] := (Blk.new1 _ _ _ _).below hb1 (by simp)
           have f0 := hB1.frozen 0
           have f1 := hB1.frozen 1
           have e0 : w1.cell? ⟨w.heap.size + 1, 0, none⟩ = some (.slice none 0 0) := hB1.cell 0
           have e1 : w1.cell? ⟨w.heap.size + 1, 1, none⟩ = some (.int .i64 0) := hB1.cell 1
           have HB1 := Lib.hid hB1
           clear hb1 hB1)
        | fail)
      obtain ⟨w3, hw3⟩ : ∃ w3, w3 = (w1.setCell ⟨w.heap.size + 1, 0, none⟩ (.slice none 0 0)).setCell ⟨w.heap.size + 1, 1, none⟩ (.int .i64 0) := ⟨_, rfl⟩
      have hB3 : Blk w3 (w.heap.size + 1) 34 #[.slice none 0 0, .int .i64 0] := by
        rw [hw3]; exact (HB1.out.set_ 0 (.slice none 0 0)).set_ 1 (.int .i64 0)
      have hb3 : Below w.heap.size w w3 := by
        rw [hw3]
        exact (hb01.setCell (by simp) _).setCell (by simp) _
      rw [← hw3]
      refine bodyPost_ret (results_cell2 rfl _ _ (w.heap.size + 1) _ _ _ rfl hB3 Tryd.underlying34 rfl tree_size) rfl ?_
      exact ⟨_, _, _, rfl, OwnTree.zero _ _, ⟨fun a b c => absurd ⟨a, b, c⟩ HIN.out, fun _ => ⟨rfl, rfl⟩⟩, hb3⟩
    · rw [decide_eq_true hr] at HR
      clear hr
      go_enter Tryd.func71, Tryd.ntmps71
      go_wp2_with (first
        | (go_at_call 16
           refine (HR.out _ (((Below.refl _ _).alloc (Nat.le_refl _) _).alloc (by simp) _)).mono ?_
           rintro e w1 ⟨rfl, hb1⟩
           have hb01 : Below w.heap.size w w1 := (((Below.refl _ _).alloc (Nat.le_refl _) _).alloc (by simp) _).trans (hb1.mono (by simp; omega))
           have d0 : w1.cell? ⟨w.heap.size, 0, none⟩ = some (.slice A t.nodes.length c) := by
             rw [hb1.cell (p := ⟨w.heap.size, 0, none⟩) (by simp; omega)]; exact ((Blk.new w _ _).alloc _).cell 0
           have hB1 : Blk w1 (w.heap.size + 1) 34 #[.slice none 0 0, .int .i64 0] := (Blk.new1 _ _ _ _).below hb1 (by simp)
           have f0 := hB1.frozen 0
           have f1 := hB1.frozen 1
           have e0 : w1.cell? ⟨w.heap.size + 1, 0, none⟩ = some (.slice none 0 0) := hB1.cell 0
           have e1 : w1.cell? ⟨w.heap.size + 1, 1, none⟩ = some (.int .i64 0) := hB1.cell 1
           have HB1 := Lib.hid hB1
           clear hb1 hB1)
        | fail)
      obtain ⟨w3, hw3⟩ : ∃ w3, w3 = (w1.setCell ⟨w.heap.size + 1, 0, none⟩ (.slice none 0 0)).setCell ⟨w.heap.size + 1, 1, none⟩ (.int .i64 0) := ⟨_, rfl⟩
      have hB3 : Blk w3 (w.heap.size + 1) 34 #[.slice none 0 0, .int .i64 0] := by
        rw [hw3]; exact (HB1.out.set_ 0 (.slice none 0 0)).set_ 1 (.int .i64 0)
      have hb3 : Below w.heap.size w w3 := by
        rw [hw3]
        exact (hb01.setCell (by simp) _).setCell (by simp) _
      rw [← hw3]
      refine bodyPost_ret (results_cell2 rfl _ _ (w.heap.size + 1) _ _ _ rfl hB3 Tryd.underlying34 rfl tree_size) rfl ?_
      exact ⟨_, _, _, rfl, OwnTree.zero _ _, ⟨fun a b c => absurd ⟨a, b, c⟩ HIN.out, fun _ => ⟨rfl, rfl⟩⟩, hb3⟩
end Go.Proofs.YtclfpjfjebheoaaDoor
/- The contracts of tree's small functions, on: Size, Depth, Walk, May, Root, Clean, leaf, Empty, Text, Rule. -/
namespace Go.Proofs.YtclfpjfjebheoaaDoor
open Go.RowKit
open Classical

instance : Inhabited Nd := ⟨⟨default, []⟩⟩
noncomputable def sizeT (t : Tr) : Nat := if RightT t then t.nodes.length else 0
noncomputable def depthT (t : Tr) : Nat := if RightT t then (treeOf t).depth else 0
noncomputable def walkOf (t : Tr) : List Int := if RightT t then pre t.nodes t.root.toNat else []
def MayT (t : Tr) : Prop := t.nodes.length ≤ 1024 ∧ RightT t ∧ (treeOf t).depth ≤ 32
noncomputable def rootOf (t : Tr) : Nd := if RightT t then ⟨(treeOf t).d, []⟩ else default
noncomputable def cleanOf (t : Tr) : Tr := if RightT t then flatT (treeOf t) else zeroT


theorem Blk.set9 {w : World} {g : Nat} {t : TypeId} {a0 a1 a2 a3 a4 a5 a6 a7 a8 : Value} (h : Blk w g t #[a0, a1, a2, a3, a4, a5, a6, a7, a8]) (b0 b1 b2 b3 b4 b5 b6 b7 b8 : Value) :
    Blk (((((((((w.setCell ⟨g, 0, none⟩ b0).setCell ⟨g, 1, none⟩ b1).setCell ⟨g, 2, none⟩ b2).setCell ⟨g, 3, none⟩ b3).setCell ⟨g, 4, none⟩ b4).setCell ⟨g, 5, none⟩ b5).setCell ⟨g, 6, none⟩ b6).setCell ⟨g, 7, none⟩ b7).setCell ⟨g, 8, none⟩ b8) g t #[b0, b1, b2, b3, b4, b5, b6, b7, b8] := by
  have h9 := ((((((((h.set_ 0 b0).set_ 1 b1).set_ 2 b2).set_ 3 b3).set_ 4 b4).set_ 5 b5).set_ 6 b6).set_ 7 b7).set_ 8 b8
  simpa only [List.setIfInBounds_toArray, List.set_cons_zero, List.set_cons_succ] using h9
theorem below_set9 {B : Nat} {w0 w : World} (h : Below B w0 w) {g : Nat} (hg : B ≤ g) (b0 b1 b2 b3 b4 b5 b6 b7 b8 : Value) : Below B w0 (((((((((w.setCell ⟨g, 0, none⟩ b0).setCell ⟨g, 1, none⟩ b1).setCell ⟨g, 2, none⟩ b2).setCell ⟨g, 3, none⟩ b3).setCell ⟨g, 4, none⟩ b4).setCell ⟨g, 5, none⟩ b5).setCell ⟨g, 6, none⟩ b6).setCell ⟨g, 7, none⟩ b7).setCell ⟨g, 8, none⟩ b8) :=
  ((((((((h.setCell hg b0).setCell hg b1).setCell hg b2).setCell hg b3).setCell hg b4).setCell hg b5).setCell hg b6).setCell hg b7).setCell hg b8
theorem node_size : (Tryd.prog.info? 65).map (·.size) = some 9 := by kernel_rfl


set_option maxHeartbeats 2000000 in
theorem Root_g {t : Tr} {v : Value} {S : Nat → Prop} {w : World} (h : Given t v S w) :
    Calls Tryd.prog 41 #[v] w fun e w' => (∃ N : Nd, e = .returned (.agg (nodeCells N (.slice none 0 0)).toArray) ∧ N = rootOf t) ∧ Below w.heap.size w w' := by
  have HR := Lib.hid (fun wx (hx : Below w.heap.size w wx) => right_g (h.below hx))
  have HG := Lib.hid h
  obtain ⟨nv, rfl, hns, hr1, hr2⟩ := h.read
  obtain ⟨A, c, rfl, hc, hs, _⟩ := hns.at_
  by_cases hr : RightT t
  · have hv : rootOf t = ⟨(treeOf t).d, []⟩ := if_pos hr
    have hn := hr.shape.root_lt
    have h0 := hr.shape.pos
    have hrl : t.root < (t.nodes.length : Int) := by omega
    obtain ⟨N, hN⟩ : ∃ N, t.nodes[t.root.toNat]? = some N := ⟨_, List.getElem?_eq_getElem hn⟩
    have hd : (treeOf t).d = N.d := by unfold treeOf; rw [D_eq hr.shape.low hN]; rfl
    obtain ⟨A', c', hv', _, _, hcells⟩ := hns.at_
    injection hv' with h1 _ h3
    subst h1
    subst h3
    obtain ⟨b, off, rfl, hbS, _⟩ := hcells (by omega)
    have hbB := h.old b hbS
    obtain ⟨_, Ak, ck, hki, hdo, hck, hkc⟩ := hns.known t.root.toNat N hN
    have k0 : w.cell? ⟨b, off + t.root.toNat * 9, none⟩ = some (.int .u8 N.d.kind) := hkc 0 _ rfl
    have k1 : w.cell? ⟨b, off + t.root.toNat * 9 + 1, none⟩ = some (.int .u64 N.d.s0) := hkc 1 _ rfl
    have k2 : w.cell? ⟨b, off + t.root.toNat * 9 + 2, none⟩ = some (.int .u64 N.d.s1) := hkc 2 _ rfl
    have k3 : w.cell? ⟨b, off + t.root.toNat * 9 + 3, none⟩ = some (.int .u64 N.d.s2) := hkc 3 _ rfl
    have k4 : w.cell? ⟨b, off + t.root.toNat * 9 + 4, none⟩ = some (.int .u64 N.d.s3) := hkc 4 _ rfl
    have k5 : w.cell? ⟨b, off + t.root.toNat * 9 + 5, none⟩ = some (.string ⟨N.d.text.toArray⟩) := hkc 5 _ rfl
    have k6 : w.cell? ⟨b, off + t.root.toNat * 9 + 6, none⟩ = some (.int .i64 N.d.min) := hkc 6 _ rfl
    have k7 : w.cell? ⟨b, off + t.root.toNat * 9 + 7, none⟩ = some (.int .i64 N.d.max) := hkc 7 _ rfl
    have k8 : w.cell? ⟨b, off + t.root.toNat * 9 + 8, none⟩ = some (.slice Ak N.kids.length ck) := hkc 8 _ rfl
    have hlt1 : t.root.toNat < t.nodes.length := hn
    rw [decide_eq_true hr] at HR
    have HV := Lib.hid hv
    have HD := Lib.hid hd
    clear hcells hkc hki
    clear h hns hr hv hd hN
    go_enter Tryd.func41, Tryd.ntmps41
    go_wp2_with (first
        | (go_at_call 16
           refine (HR.out _ (((Below.refl _ _).alloc (Nat.le_refl _) _).alloc (by simp) _)).mono ?_
           rintro e w1 ⟨rfl, hb1⟩
           have hb01 : Below w.heap.size w w1 := (((Below.refl _ _).alloc (Nat.le_refl _) _).alloc (by simp) _).trans (hb1.mono (by simp <;> omega))
           have d0 : w1.cell? ⟨w.heap.size, 0, none⟩ = some (.slice (some ⟨b, off, none⟩) t.nodes.length c) := by
             rw [hb1.cell (p := ⟨w.heap.size, 0, none⟩) (by simp <;> omega)]; exact ((Blk.new w _ _).alloc _).cell 0
           have d1 : w1.cell? ⟨w.heap.size, 1, none⟩ = some (.int .i64 t.root) := by
             rw [hb1.cell (p := ⟨w.heap.size, 1, none⟩) (by simp <;> omega)]; exact ((Blk.new w _ _).alloc _).cell 1
           have hB1 : Blk w1 (w.heap.size + 1) 65 #[.int .u8 0, .int .u64 0, .int .u64 0, .int .u64 0, .int .u64 0, .string ⟨#[]⟩, .int .i64 0, .int .i64 0, .slice none 0 0] := (Blk.new1 _ _ _ _).below hb1 (by simp)
           have HB1 := Lib.hid hB1
           have e0 : ∀ o : Obj, (w1.alloc o).cell? ⟨w.heap.size + 1, 0, none⟩ = some (.int .u8 0) := fun o => (hB1.alloc o).cell 0
           have f0 : ∀ o : Obj, (w1.alloc o).frozen? ⟨w.heap.size + 1, 0, none⟩ = false := fun o => (hB1.alloc o).frozen 0
           have e1 : ∀ o : Obj, (w1.alloc o).cell? ⟨w.heap.size + 1, 1, none⟩ = some (.int .u64 0) := fun o => (hB1.alloc o).cell 1
           have f1 : ∀ o : Obj, (w1.alloc o).frozen? ⟨w.heap.size + 1, 1, none⟩ = false := fun o => (hB1.alloc o).frozen 1
           have e2 : ∀ o : Obj, (w1.alloc o).cell? ⟨w.heap.size + 1, 2, none⟩ = some (.int .u64 0) := fun o => (hB1.alloc o).cell 2
           have f2 : ∀ o : Obj, (w1.alloc o).frozen? ⟨w.heap.size + 1, 2, none⟩ = false := fun o => (hB1.alloc o).frozen 2
           have e3 : ∀ o : Obj, (w1.alloc o).cell? ⟨w.heap.size + 1, 3, none⟩ = some (.int .u64 0) := fun o => (hB1.alloc o).cell 3
           have f3 : ∀ o : Obj, (w1.alloc o).frozen? ⟨w.heap.size + 1, 3, none⟩ = false := fun o => (hB1.alloc o).frozen 3
           have e4 : ∀ o : Obj, (w1.alloc o).cell? ⟨w.heap.size + 1, 4, none⟩ = some (.int .u64 0) := fun o => (hB1.alloc o).cell 4
           have f4 : ∀ o : Obj, (w1.alloc o).frozen? ⟨w.heap.size + 1, 4, none⟩ = false := fun o => (hB1.alloc o).frozen 4
           have e5 : ∀ o : Obj, (w1.alloc o).cell? ⟨w.heap.size + 1, 5, none⟩ = some (.string ⟨#[]⟩) := fun o => (hB1.alloc o).cell 5
           have f5 : ∀ o : Obj, (w1.alloc o).frozen? ⟨w.heap.size + 1, 5, none⟩ = false := fun o => (hB1.alloc o).frozen 5
           have e6 : ∀ o : Obj, (w1.alloc o).cell? ⟨w.heap.size + 1, 6, none⟩ = some (.int .i64 0) := fun o => (hB1.alloc o).cell 6
           have f6 : ∀ o : Obj, (w1.alloc o).frozen? ⟨w.heap.size + 1, 6, none⟩ = false := fun o => (hB1.alloc o).frozen 6
           have e7 : ∀ o : Obj, (w1.alloc o).cell? ⟨w.heap.size + 1, 7, none⟩ = some (.int .i64 0) := fun o => (hB1.alloc o).cell 7
           have f7 : ∀ o : Obj, (w1.alloc o).frozen? ⟨w.heap.size + 1, 7, none⟩ = false := fun o => (hB1.alloc o).frozen 7
           have e8 : ∀ o : Obj, (w1.alloc o).cell? ⟨w.heap.size + 1, 8, none⟩ = some (.slice none 0 0) := fun o => (hB1.alloc o).cell 8
           have f8 : ∀ o : Obj, (w1.alloc o).frozen? ⟨w.heap.size + 1, 8, none⟩ = false := fun o => (hB1.alloc o).frozen 8
           clear hB1
           have c0 := hb01.cell (p := ⟨b, off + t.root.toNat * 9, none⟩) hbB |>.trans k0
           have c1 := hb01.cell (p := ⟨b, off + t.root.toNat * 9 + 1, none⟩) hbB |>.trans k1
           have c2 := hb01.cell (p := ⟨b, off + t.root.toNat * 9 + 2, none⟩) hbB |>.trans k2
           have c3 := hb01.cell (p := ⟨b, off + t.root.toNat * 9 + 3, none⟩) hbB |>.trans k3
           have c4 := hb01.cell (p := ⟨b, off + t.root.toNat * 9 + 4, none⟩) hbB |>.trans k4
           have c5 := hb01.cell (p := ⟨b, off + t.root.toNat * 9 + 5, none⟩) hbB |>.trans k5
           have c6 := hb01.cell (p := ⟨b, off + t.root.toNat * 9 + 6, none⟩) hbB |>.trans k6
           have c7 := hb01.cell (p := ⟨b, off + t.root.toNat * 9 + 7, none⟩) hbB |>.trans k7
           have c8 := hb01.cell (p := ⟨b, off + t.root.toNat * 9 + 8, none⟩) hbB |>.trans k8
           clear hb1)
        | fail)
    have hsz1 := HB1.out.lt
    have hB2 := (HB1.out.alloc (.cells #[.int .u8 N.d.kind, .int .u64 N.d.s0, .int .u64 N.d.s1, .int .u64 N.d.s2, .int .u64 N.d.s3, .string ⟨N.d.text.toArray⟩, .int .i64 N.d.min, .int .i64 N.d.max, .slice none 0 0] 65)).set9 (.int .u8 N.d.kind) (.int .u64 N.d.s0) (.int .u64 N.d.s1) (.int .u64 N.d.s2) (.int .u64 N.d.s3) (.string ⟨N.d.text.toArray⟩) (.int .i64 N.d.min) (.int .i64 N.d.max) (.slice none 0 0)
    have hb2 := below_set9 (hb01.alloc hb01.size (.cells #[.int .u8 N.d.kind, .int .u64 N.d.s0, .int .u64 N.d.s1, .int .u64 N.d.s2, .int .u64 N.d.s3, .string ⟨N.d.text.toArray⟩, .int .i64 N.d.min, .int .i64 N.d.max, .slice none 0 0] 65)) (g := w.heap.size + 1) (by omega) (.int .u8 N.d.kind) (.int .u64 N.d.s0) (.int .u64 N.d.s1) (.int .u64 N.d.s2) (.int .u64 N.d.s3) (.string ⟨N.d.text.toArray⟩) (.int .i64 N.d.min) (.int .i64 N.d.max) (.slice none 0 0)
    refine bodyPost_ret (results_cell_row rfl _ _ (w.heap.size + 1) _ _ _ _ rfl hB2 Tryd.underlying65 rfl node_size) rfl ?_
    exact ⟨⟨⟨N.d, []⟩, rfl, by rw [HV.out, HD.out]⟩, hb2⟩
  · have hv : rootOf t = default := if_neg hr
    rw [decide_eq_false hr] at HR
    have HV := Lib.hid hv
    clear h hns hr hv
    go_enter Tryd.func41, Tryd.ntmps41
    go_wp2_with (first
        | (go_at_call 16
           refine (HR.out _ (((Below.refl _ _).alloc (Nat.le_refl _) _).alloc (by simp) _)).mono ?_
           rintro e w1 ⟨rfl, hb1⟩
           have hb01 : Below w.heap.size w w1 := (((Below.refl _ _).alloc (Nat.le_refl _) _).alloc (by simp) _).trans (hb1.mono (by simp <;> omega))
           have d0 : w1.cell? ⟨w.heap.size, 0, none⟩ = some (.slice A t.nodes.length c) := by
             rw [hb1.cell (p := ⟨w.heap.size, 0, none⟩) (by simp <;> omega)]; exact ((Blk.new w _ _).alloc _).cell 0
           have d1 : w1.cell? ⟨w.heap.size, 1, none⟩ = some (.int .i64 t.root) := by
             rw [hb1.cell (p := ⟨w.heap.size, 1, none⟩) (by simp <;> omega)]; exact ((Blk.new w _ _).alloc _).cell 1
           have hB1 : Blk w1 (w.heap.size + 1) 65 #[.int .u8 0, .int .u64 0, .int .u64 0, .int .u64 0, .int .u64 0, .string ⟨#[]⟩, .int .i64 0, .int .i64 0, .slice none 0 0] := (Blk.new1 _ _ _ _).below hb1 (by simp)
           have HB1 := Lib.hid hB1
           obtain ⟨e0, e1, e2, e3, e4, e5, e6, e7, e8⟩ := hB1.nine
           have f0 := hB1.frozen 0
           have f1 := hB1.frozen 1
           have f2 := hB1.frozen 2
           have f3 := hB1.frozen 3
           have f4 := hB1.frozen 4
           have f5 := hB1.frozen 5
           have f6 := hB1.frozen 6
           have f7 := hB1.frozen 7
           have f8 := hB1.frozen 8
           clear hB1
           clear hb1)
        | fail)
    have hsz1 := HB1.out.lt
    have hB2 := HB1.out.set9 (.int .u8 0) (.int .u64 0) (.int .u64 0) (.int .u64 0) (.int .u64 0) (.string ⟨#[]⟩) (.int .i64 0) (.int .i64 0) (.slice none 0 0)
    have hb2 := below_set9 hb01 (g := w.heap.size + 1) (by omega) (.int .u8 0) (.int .u64 0) (.int .u64 0) (.int .u64 0) (.int .u64 0) (.string ⟨#[]⟩) (.int .i64 0) (.int .i64 0) (.slice none 0 0)
    refine bodyPost_ret (results_cell_row rfl _ _ (w.heap.size + 1) _ _ _ _ rfl hB2 Tryd.underlying65 rfl node_size) rfl ?_
    exact ⟨⟨default, rfl, HV.out.symm⟩, hb2⟩

end Go.Proofs.YtclfpjfjebheoaaDoor
/- The contracts of tree's small functions, on: Clean, May, leaf, Empty, Text, Rule. -/
namespace Go.Proofs.YtclfpjfjebheoaaDoor
open Go.RowKit
open Classical

theorem results_cell1 {P : Program} {fn : Func} {p : Tmp} {ty : TypeId} (h : fn.results = #[.cell p ty]) (tmps : Array Value) (w : World) (g : Nat) (t : TypeId) (cs : Array Value) (d : TypeDesc)
    (hp : tmps.getD p undef = .pointer (some ⟨g, 0, none⟩)) (hg : Blk w g t cs) (hu : P.underlying ty = some d) (hd : (match d with | .struct _ | .array _ _ => true | _ => false) = true) (hi : (P.info? ty).map (·.size) = some cs.size) :
    (results fn tmps).run P w = .ok (.agg cs) w := results_cell_row h tmps w g t cs (0, 0) d hp hg hu hd hi
theorem Blk.set2 {w : World} {g : Nat} {t : TypeId} {a0 a1 : Value} (h : Blk w g t #[a0, a1]) (b0 b1 : Value) : Blk ((w.setCell ⟨g, 0, none⟩ b0).setCell ⟨g, 1, none⟩ b1) g t #[b0, b1] := by
  have h2 := (h.set_ 0 b0).set_ 1 b1
  simpa only [List.setIfInBounds_toArray, List.set_cons_zero, List.set_cons_succ] using h2

set_option maxHeartbeats 2000000 in
theorem Clean_g {t : Tr} {v : Value} {S : Nat → Prop} {w : World} (h : Given t v S w) :
    Calls Tryd.prog 44 #[v] w fun e w' => ∃ u, e = .returned u ∧ OwnTree w' w.heap.size u (cleanOf t) ∧ Below w.heap.size w w' := by
  have HS := Lib.hid (fun (wx : World) (hx : Below w.heap.size w wx) => sub_g (h.below hx) t.root)
  have hcl : ∀ x is, IsSub t t.root x is → x = cleanOf t := by
    intro x is hs
    unfold cleanOf
    by_cases hr : RightT t
    · rw [if_pos hr]
      exact (hs.yes hr hr.shape.pos (by have := hr.shape.top; omega)).2
    · rw [if_neg hr]
      exact (hs.no fun h => hr h.1).2
  have HCL := Lib.hid hcl
  obtain ⟨nv, rfl, hns, hr1, hr2⟩ := h.read
  clear h hcl
  go_enter Tryd.func44, Tryd.ntmps44
  go_wp2_with (first
    | (go_at_call 71
       refine (HS.out _ (((Below.refl _ _).alloc (Nat.le_refl _) _).alloc (by simp) _)).mono ?_
       rintro e w1 ⟨u, x, is, rfl, ⟨xv, rfl, kvs, ho0⟩, hsub, hb1⟩
       obtain ⟨A2, c2, rfl, _, _, _⟩ := own_slice ho0.row
       have ho : OwnNodes w1 65 _ (fun _ => True) (.slice A2 x.nodes.length c2) x.nodes := ⟨kvs, ho0⟩
       have hb01 : Below w.heap.size w w1 := (((Below.refl _ _).alloc (Nat.le_refl _) _).alloc (by simp) _).trans (hb1.mono (by simp <;> omega))
       have hB1 : Blk w1 (w.heap.size + 1) 34 #[.slice none 0 0, .int .i64 0] := (Blk.new1 _ _ _ _).below hb1 (by simp)
       have e0 : ∀ o : Obj, (w1.alloc o).cell? ⟨w.heap.size + 1, 0, none⟩ = some (.slice none 0 0) := fun o => (hB1.alloc o).cell 0
       have e1 : ∀ o : Obj, (w1.alloc o).cell? ⟨w.heap.size + 1, 1, none⟩ = some (.int .i64 0) := fun o => (hB1.alloc o).cell 1
       have f0 : ∀ o : Obj, (w1.alloc o).frozen? ⟨w.heap.size + 1, 0, none⟩ = false := fun o => (hB1.alloc o).frozen 0
       have f1 : ∀ o : Obj, (w1.alloc o).frozen? ⟨w.heap.size + 1, 1, none⟩ = false := fun o => (hB1.alloc o).frozen 1
       have HB1 := Lib.hid hB1
       have HO := Lib.hid ho
       have HSUB := Lib.hid hsub
       clear hb1 hB1 ho hsub)
    | fail)
  have hO1 := HO.out
  simp only [World.size_alloc] at hO1
  have hO2 := (hO1.below ((Below.refl _ _).alloc (Nat.le_refl _) (.cells #[.slice A2 x.nodes.length c2, .int .i64 x.root] 34))).low (g := w.heap.size + 1) (grown_set2 _ _ 0 1 (.slice A2 x.nodes.length c2) (.int .i64 x.root)) (by omega)
  have hB2 := (HB1.out.alloc (.cells #[.slice A2 x.nodes.length c2, .int .i64 x.root] 34)).set2 (.slice A2 x.nodes.length c2) (.int .i64 x.root)
  have hb2 := ((hb01.alloc hb01.size (.cells #[.slice A2 x.nodes.length c2, .int .i64 x.root] 34)).setCell (p := ⟨w.heap.size + 1, 0, none⟩) (by simp) (.slice A2 x.nodes.length c2)).setCell (p := ⟨w.heap.size + 1, 1, none⟩) (by simp) (.int .i64 x.root)
  refine bodyPost_ret (results_cell1 rfl _ _ (w.heap.size + 1) _ _ _ rfl hB2 Tryd.underlying34 rfl tree_size) rfl ?_
  rw [← HCL.out x is HSUB.out]
  exact ⟨_, rfl, ⟨.slice A2 x.nodes.length c2, rfl, hO2.base_ (by omega)⟩, hb2⟩

set_option maxHeartbeats 2000000 in
theorem leaf_g {d : Dt} (hd : d.Ok) (w : World) :
    Calls Tryd.prog 79 #[.agg (nodeCells ⟨d, []⟩ (.slice none 0 0)).toArray] w fun e w' => ∃ u, e = .returned u ∧ OwnTree w' w.heap.size u ⟨[⟨d, []⟩], 0⟩ ∧ Below w.heap.size w w' := by
  simp only [nodeCells]
  have HD := Lib.hid hd
  clear hd
  go_enter Tryd.func79, Tryd.ntmps79
  go_wp2
  obtain ⟨C, hC⟩ : ∃ C : List Value, C = [.int .u8 d.kind, .int .u64 d.s0, .int .u64 d.s1, .int .u64 d.s2, .int .u64 d.s3, .string ⟨d.text.toArray⟩, .int .i64 d.min, .int .i64 d.max, .slice none 0 0] := ⟨_, rfl⟩
  have hB : Blk (((w.alloc (.cells C.toArray 65)).alloc (.cells #[.slice (some ⟨w.heap.size + 1 + 1, 0, none⟩) 1 1, .int .i64 0] 34)).alloc (.cells C.toArray 65)) (w.heap.size + 1) 34 #[.slice (some ⟨w.heap.size + 1 + 1, 0, none⟩) 1 1, .int .i64 0] := (Blk.new1 _ _ _ _).alloc _
  have hO := World.ownsRow_lit (base := w.heap.size) (e := 65) (size := 9) ((w.alloc (.cells C.toArray 65)).alloc (.cells #[.slice (some ⟨w.heap.size + 1 + 1, 0, none⟩) 1 1, .int .i64 0] 34)) C.toArray 1 (by simp; omega) (by simp [maxLen]) (by rw [hC]; rfl)
  simp only [World.size_alloc] at hO
  have hN : OwnNodes (((w.alloc (.cells C.toArray 65)).alloc (.cells #[.slice (some ⟨w.heap.size + 1 + 1, 0, none⟩) 1 1, .int .i64 0] 34)).alloc (.cells C.toArray 65)) 65 w.heap.size (fun _ => True) (.slice (some ⟨w.heap.size + 1 + 1, 0, none⟩) 1 1) [⟨d, []⟩] := by
    refine ⟨[.slice none 0 0], rfl, ?_, fun j n kv h1 h2 => ?_⟩
    · have e : nodesCells [⟨d, []⟩] [.slice none 0 0] = C := by rw [hC]; rfl
      rw [e]
      exact hO
    · cases j with
      | succ j => simp at h1
      | zero =>
        simp at h1 h2
        subst h1; subst h2
        exact ⟨Row.nil_ _ _ _, HD.out⟩
  rw [hC] at hB hN
  refine bodyPost_ret (results_cell1 rfl _ _ (w.heap.size + 1) _ _ _ rfl hB Tryd.underlying34 rfl tree_size) rfl ?_
  exact ⟨_, rfl, ⟨_, rfl, hN⟩, (((Below.refl _ _).alloc (Nat.le_refl _) _).alloc (by simp) _).alloc (by simp <;> omega) _⟩

set_option maxHeartbeats 2000000 in
theorem Empty_g (w : World) :
    Calls Tryd.prog 58 #[] w fun e w' => ∃ u, e = .returned u ∧ OwnTree w' w.heap.size u ⟨[⟨(default : Dt), []⟩], 0⟩ ∧ Below w.heap.size w w' := by
  have hL := fun (wx : World) => leaf_g (d := (default : Dt)) ⟨by decide, by decide, by decide, by decide, by decide⟩ wx
  simp only [nodeCells] at hL
  have HL := Lib.hid hL
  clear hL
  go_enter Tryd.func58, Tryd.ntmps58
  go_wp2_with (first
    | (go_at_call 79
       refine (HL.out _).mono ?_
       rintro e w1 ⟨u, rfl, ⟨xv, rfl, kvs, ho0⟩, hb1⟩
       obtain ⟨A2, c2, rfl, _, _, _⟩ := own_slice ho0.row
       have ho : OwnNodes w1 65 _ (fun _ => True) (.slice A2 1 c2) [⟨(default : Dt), []⟩] := ⟨kvs, ho0⟩
       have hb01 : Below w.heap.size w w1 := ((Below.refl _ _).alloc (Nat.le_refl _) _).trans (hb1.mono (by simp <;> omega))
       have hB1 : Blk w1 w.heap.size 34 #[.slice none 0 0, .int .i64 0] := (Blk.new w _ _).below hb1 (by simp)
       have e0 : w1.cell? ⟨w.heap.size, 0, none⟩ = some (.slice none 0 0) := hB1.cell 0
       have e1 : w1.cell? ⟨w.heap.size, 1, none⟩ = some (.int .i64 0) := hB1.cell 1
       have f0 := hB1.frozen 0
       have f1 := hB1.frozen 1
       have HB1 := Lib.hid hB1
       have HO := Lib.hid ho
       clear hb1 hB1 ho)
    | fail)
  have hO1 := HO.out
  simp only [World.size_alloc] at hO1
  have hO2 := hO1.low (g := w.heap.size) (grown_set2 _ _ 0 1 (.slice A2 1 c2) (.int .i64 0)) (by omega)
  have hB2 := HB1.out.set2 (.slice A2 1 c2) (.int .i64 0)
  have hb2 := (hb01.setCell (p := ⟨w.heap.size, 0, none⟩) (by simp) (.slice A2 1 c2)).setCell (p := ⟨w.heap.size, 1, none⟩) (by simp) (.int .i64 0)
  refine bodyPost_ret (results_cell1 rfl _ _ w.heap.size _ _ _ rfl hB2 Tryd.underlying34 rfl tree_size) rfl ?_
  exact ⟨_, rfl, ⟨.slice A2 1 c2, rfl, hO2.base_ (by omega)⟩, hb2⟩
def textD (s : List UInt8) : Dt := ⟨2, 0, 0, 0, 0, s, 0, 0⟩
def ruleD (s : List UInt8) : Dt := ⟨3, 0, 0, 0, 0, s, 0, 0⟩

set_option maxHeartbeats 2000000 in
theorem Text_g (s : List UInt8) (hs : s.length ≤ maxLen) (w : World) :
    Calls Tryd.prog 72 #[.string ⟨s.toArray⟩] w fun e w' => ∃ u, e = .returned u ∧ OwnTree w' w.heap.size u ⟨[⟨(textD s), []⟩], 0⟩ ∧ Below w.heap.size w w' := by
  have hL := fun (wx : World) => leaf_g (d := (textD s)) ⟨by simp [textD], by simp [textD], hs, by simp [textD], by simp [textD]⟩ wx
  simp only [nodeCells, textD] at hL
  have HL := Lib.hid hL
  clear hL
  go_enter Tryd.func72, Tryd.ntmps72
  go_wp2_with (first
    | (go_at_call 79
       refine (HL.out _).mono ?_
       rintro e w1 ⟨u, rfl, ⟨xv, rfl, kvs, ho0⟩, hb1⟩
       obtain ⟨A2, c2, rfl, _, _, _⟩ := own_slice ho0.row
       have ho : OwnNodes w1 65 _ (fun _ => True) (.slice A2 1 c2) [⟨(textD s), []⟩] := ⟨kvs, ho0⟩
       have hb01 : Below w.heap.size w w1 := ((Below.refl _ _).alloc (Nat.le_refl _) _).trans (hb1.mono (by simp <;> omega))
       have hB1 : Blk w1 w.heap.size 34 #[.slice none 0 0, .int .i64 0] := (Blk.new w _ _).below hb1 (by simp)
       have e0 : w1.cell? ⟨w.heap.size, 0, none⟩ = some (.slice none 0 0) := hB1.cell 0
       have e1 : w1.cell? ⟨w.heap.size, 1, none⟩ = some (.int .i64 0) := hB1.cell 1
       have f0 := hB1.frozen 0
       have f1 := hB1.frozen 1
       have HB1 := Lib.hid hB1
       have HO := Lib.hid ho
       clear hb1 hB1 ho)
    | fail)
  have hO1 := HO.out
  simp only [World.size_alloc] at hO1
  have hO2 := hO1.low (g := w.heap.size) (grown_set2 _ _ 0 1 (.slice A2 1 c2) (.int .i64 0)) (by omega)
  have hB2 := HB1.out.set2 (.slice A2 1 c2) (.int .i64 0)
  have hb2 := (hb01.setCell (p := ⟨w.heap.size, 0, none⟩) (by simp) (.slice A2 1 c2)).setCell (p := ⟨w.heap.size, 1, none⟩) (by simp) (.int .i64 0)
  refine bodyPost_ret (results_cell1 rfl _ _ w.heap.size _ _ _ rfl hB2 Tryd.underlying34 rfl tree_size) rfl ?_
  exact ⟨_, rfl, ⟨.slice A2 1 c2, rfl, hO2.base_ (by omega)⟩, hb2⟩

set_option maxHeartbeats 2000000 in
theorem Rule_g (s : List UInt8) (hs : s.length ≤ maxLen) (w : World) :
    Calls Tryd.prog 57 #[.string ⟨s.toArray⟩] w fun e w' => ∃ u, e = .returned u ∧ OwnTree w' w.heap.size u ⟨[⟨(ruleD s), []⟩], 0⟩ ∧ Below w.heap.size w w' := by
  have hL := fun (wx : World) => leaf_g (d := (ruleD s)) ⟨by simp [ruleD], by simp [ruleD], hs, by simp [ruleD], by simp [ruleD]⟩ wx
  simp only [nodeCells, ruleD] at hL
  have HL := Lib.hid hL
  clear hL
  go_enter Tryd.func57, Tryd.ntmps57
  go_wp2_with (first
    | (go_at_call 79
       refine (HL.out _).mono ?_
       rintro e w1 ⟨u, rfl, ⟨xv, rfl, kvs, ho0⟩, hb1⟩
       obtain ⟨A2, c2, rfl, _, _, _⟩ := own_slice ho0.row
       have ho : OwnNodes w1 65 _ (fun _ => True) (.slice A2 1 c2) [⟨(ruleD s), []⟩] := ⟨kvs, ho0⟩
       have hb01 : Below w.heap.size w w1 := ((Below.refl _ _).alloc (Nat.le_refl _) _).trans (hb1.mono (by simp <;> omega))
       have hB1 : Blk w1 w.heap.size 34 #[.slice none 0 0, .int .i64 0] := (Blk.new w _ _).below hb1 (by simp)
       have e0 : w1.cell? ⟨w.heap.size, 0, none⟩ = some (.slice none 0 0) := hB1.cell 0
       have e1 : w1.cell? ⟨w.heap.size, 1, none⟩ = some (.int .i64 0) := hB1.cell 1
       have f0 := hB1.frozen 0
       have f1 := hB1.frozen 1
       have HB1 := Lib.hid hB1
       have HO := Lib.hid ho
       clear hb1 hB1 ho)
    | fail)
  have hO1 := HO.out
  simp only [World.size_alloc] at hO1
  have hO2 := hO1.low (g := w.heap.size) (grown_set2 _ _ 0 1 (.slice A2 1 c2) (.int .i64 0)) (by omega)
  have hB2 := HB1.out.set2 (.slice A2 1 c2) (.int .i64 0)
  have hb2 := (hb01.setCell (p := ⟨w.heap.size, 0, none⟩) (by simp) (.slice A2 1 c2)).setCell (p := ⟨w.heap.size, 1, none⟩) (by simp) (.int .i64 0)
  refine bodyPost_ret (results_cell1 rfl _ _ w.heap.size _ _ _ rfl hB2 Tryd.underlying34 rfl tree_size) rfl ?_
  exact ⟨_, rfl, ⟨.slice A2 1 c2, rfl, hO2.base_ (by omega)⟩, hb2⟩
end Go.Proofs.YtclfpjfjebheoaaDoor

/- Trees in arenas, in plain Lean: what an arena stands for, its rows, its clean form. No program in sight. -/
namespace Go.Proofs.YtlmlbdmbgfclkaaDoor

structure Dt where
  kind : Int
  s0 : Int
  s1 : Int
  s2 : Int
  s3 : Int
  text : List UInt8
  min : Int
  max : Int
deriving DecidableEq
structure Nd where
  d : Dt
  kids : List Int
deriving DecidableEq
inductive T where
  | node (d : Dt) (kids : List T)
instance : Inhabited Dt := ⟨⟨0, 0, 0, 0, 0, [], 0, 0⟩⟩
instance : Inhabited T := ⟨.node default []⟩

theorem T.ind {P : T → Prop} (h : ∀ d ks, (∀ k ∈ ks, P k) → P (.node d ks)) : ∀ t, P t
  | .node d ks => h d ks (fun k _ => T.ind h k)

mutual
def T.size : T → Nat
  | .node _ ks => 1 + sizes ks
def sizes : List T → Nat
  | [] => 0
  | t :: ts => t.size + sizes ts
end
theorem T.size_pos (t : T) : 0 < t.size := by cases t; simp only [T.size]; omega
def ends : Nat → List T → List Int
  | _, [] => []
  | o, t :: ts => (((o + t.size : Nat) : Int) - 1) :: ends (o + t.size) ts
mutual
def flatAt : Nat → T → List Nd
  | o, .node d ks => flatsAt o ks ++ [⟨d, ends o ks⟩]
def flatsAt : Nat → List T → List Nd
  | _, [] => []
  | o, t :: ts => flatAt o t ++ flatsAt (o + t.size) ts
end
mutual
def T.depth : T → Nat
  | .node _ ks => 1 + depths ks
def depths : List T → Nat
  | [] => 0
  | t :: ts => Nat.max t.depth (depths ts)
end
def T.d : T → Dt
  | .node d _ => d
def T.kids : T → List T
  | .node _ ks => ks
theorem T.eta (t : T) : t = .node t.d t.kids := by cases t; rfl

@[simp] theorem ends_length (o : Nat) (ts : List T) : (ends o ts).length = ts.length := by
  induction ts generalizing o with
  | nil => rfl
  | cons t ts ih => simp [ends, ih]
theorem flatsAt_length_of (ts : List T) (h : ∀ t ∈ ts, ∀ o, (flatAt o t).length = t.size) (o : Nat) : (flatsAt o ts).length = sizes ts := by
  induction ts generalizing o with
  | nil => rfl
  | cons t ts ih => simp [flatsAt, sizes, h t (by simp), ih (fun t ht => h t (by simp [ht]))]
@[simp] theorem flatAt_length (t : T) : ∀ o, (flatAt o t).length = t.size := by
  induction t using T.ind with
  | h d ks ih => intro o; simp [flatAt, T.size, flatsAt_length_of ks ih]; omega
@[simp] theorem flatsAt_length (ts : List T) (o : Nat) : (flatsAt o ts).length = sizes ts := flatsAt_length_of ts (fun t _ => flatAt_length t) o
theorem ends_get (o : Nat) (ts : List T) (j : Nat) (t : T) (h : ts[j]? = some t) : (ends o ts)[j]? = some (((o + sizes (ts.take j) + t.size : Nat) : Int) - 1) := by
  induction ts generalizing o j with
  | nil => simp at h
  | cons u us ih =>
    cases j with
    | zero => simp at h; subst h; simp [ends, sizes]
    | succ j =>
      simp only [List.getElem?_cons_succ] at h
      simp only [ends, List.getElem?_cons_succ, ih _ _ h, List.take_succ_cons, sizes]
      congr 2; omega
theorem sizes_append (a b : List T) : sizes (a ++ b) = sizes a + sizes b := by
  induction a with
  | nil => simp [sizes]
  | cons t ts ih => simp [sizes, ih]; omega
theorem flatsAt_append (o : Nat) (a b : List T) : flatsAt o (a ++ b) = flatsAt o a ++ flatsAt (o + sizes a) b := by
  induction a generalizing o with
  | nil => simp [flatsAt, sizes]
  | cons t ts ih => simp [flatsAt, sizes, ih, Nat.add_assoc]
theorem ends_append (o : Nat) (a b : List T) : ends o (a ++ b) = ends o a ++ ends (o + sizes a) b := by
  induction a generalizing o with
  | nil => simp [ends, sizes]
  | cons t ts ih => simp [ends, sizes, ih, Nat.add_assoc]

/-- Kids stand ahead of their node. -/
def Low (ns : List Nd) : Prop := ∀ (i : Nat) (n : Nd), ns[i]? = some n → ∀ k ∈ n.kids, 0 ≤ k ∧ k < (i : Int)

section
variable {α : Type} [Inhabited α] (g : Nat → Dt → List α → α) (ns : List Nd)
def foldF : Nat → Nat → α
  | 0, _ => default
  | f + 1, i => match ns[i]? with
    | none => default
    | some n => g i n.d (n.kids.map fun k => foldF f k.toNat)
def foldA (i : Nat) : α := foldF g ns (i + 1) i
variable {ns}
theorem foldF_more (h : Low ns) (i : Nat) : ∀ f f', i < f → i < f' → foldF g ns f i = foldF g ns f' i := by
  induction i using Nat.strongRecOn with
  | _ i ih =>
    intro f f' hf hf'
    match f, f' with
    | f + 1, f' + 1 =>
      simp only [foldF]
      cases hn : ns[i]? with
      | none => rfl
      | some n =>
        simp only
        congr 1
        refine List.map_congr_left fun k hk => ?_
        have := h i n hn k hk
        exact ih k.toNat (by omega) _ _ (by omega) (by omega)
theorem foldA_eq (h : Low ns) {i : Nat} {n : Nd} (hn : ns[i]? = some n) : foldA g ns i = g i n.d (n.kids.map fun k => foldA g ns k.toNat) := by
  unfold foldA
  rw [foldF]
  simp only [hn]
  congr 1
  refine List.map_congr_left fun k hk => ?_
  have := h i n hn k hk
  exact foldF_more g h _ _ _ (by omega) (by omega)
end

def D (ns : List Nd) (i : Nat) : T := foldA (fun _ d ks => T.node d ks) ns i
def pre (ns : List Nd) (i : Nat) : List Int := foldA (fun i _ ls => (i : Int) :: ls.flatten) ns i
def post (ns : List Nd) (i : Nat) : List Int := foldA (fun i _ ls => ls.flatten ++ [(i : Int)]) ns i
theorem D_eq {ns : List Nd} (h : Low ns) {i : Nat} {n : Nd} (hn : ns[i]? = some n) : D ns i = .node n.d (n.kids.map fun k => D ns k.toNat) := foldA_eq _ h hn
theorem pre_eq {ns : List Nd} (h : Low ns) {i : Nat} {n : Nd} (hn : ns[i]? = some n) : pre ns i = (i : Int) :: (n.kids.map fun k => pre ns k.toNat).flatten := foldA_eq _ h hn
theorem post_eq {ns : List Nd} (h : Low ns) {i : Nat} {n : Nd} (hn : ns[i]? = some n) : post ns i = (n.kids.map fun k => post ns k.toNat).flatten ++ [(i : Int)] := foldA_eq _ h hn

/-- Induction on the number of a node. -/
theorem node_ind {ns : List Nd} (h : Low ns) {P : Nat → Prop} (hs : ∀ i n, ns[i]? = some n → (∀ k ∈ n.kids, P k.toNat) → P i) : ∀ i, i < ns.length → P i := by
  intro i
  induction i using Nat.strongRecOn with
  | _ i ih =>
    intro hi
    refine hs i _ (List.getElem?_eq_getElem hi) fun k hk => ?_
    have := h i _ (List.getElem?_eq_getElem hi) k hk
    exact ih _ (by omega) (by omega)

theorem perm_flatten_map {α β : Type} (l : List β) (f g : β → List α) (h : ∀ x ∈ l, (f x).Perm (g x)) : (l.map f).flatten.Perm (l.map g).flatten := by
  induction l with
  | nil => simp
  | cons x l ih =>
    simp only [List.map_cons, List.flatten_cons]
    exact (h x (by simp)).append (ih fun y hy => h y (by simp [hy]))
theorem post_perm {ns : List Nd} (h : Low ns) : ∀ i, i < ns.length → (post ns i).Perm (pre ns i) :=
  node_ind h fun i n hn ih => by
    rw [post_eq h hn, pre_eq h hn]
    refine (List.perm_append_singleton _ _).trans (List.Perm.cons _ ?_)
    exact perm_flatten_map _ _ _ ih
theorem pre_size {ns : List Nd} (h : Low ns) : ∀ i, i < ns.length → (pre ns i).length = (D ns i).size :=
  node_ind h fun i n hn ih => by
    rw [pre_eq h hn, D_eq h hn]
    simp only [List.length_cons, T.size]
    have : ∀ l : List Int, (∀ k ∈ l, (pre ns k.toNat).length = (D ns k.toNat).size) → (l.map fun k => pre ns k.toNat).flatten.length = sizes (l.map fun k => D ns k.toNat) := by
      intro l hl
      induction l with
      | nil => simp [sizes]
      | cons k l ih2 => simp only [List.map_cons, List.flatten_cons, List.length_append, sizes, hl k (by simp), ih2 (fun k hk => hl k (by simp [hk]))]
    rw [this _ ih]; omega
theorem post_size {ns : List Nd} (h : Low ns) (i : Nat) (hi : i < ns.length) : (post ns i).length = (D ns i).size := (post_perm h i hi).length_eq.trans (pre_size h i hi)
theorem self_mem_pre {ns : List Nd} (h : Low ns) (i : Nat) (hi : i < ns.length) : (i : Int) ∈ pre ns i := by
  rw [pre_eq h (List.getElem?_eq_getElem hi)]; simp
theorem mem_pre {ns : List Nd} (h : Low ns) : ∀ i, i < ns.length → ∀ j ∈ pre ns i, 0 ≤ j ∧ j ≤ (i : Int) :=
  node_ind h fun i n hn ih j hj => by
    rw [pre_eq h hn] at hj
    simp only [List.mem_cons, List.mem_flatten, List.mem_map] at hj
    rcases hj with rfl | ⟨_, ⟨k, hk, rfl⟩, hj⟩
    · omega
    · have := ih k hk j hj
      have := h i n hn k hk
      omega
/-- What stands at a node stands within the row, all in one piece. -/
theorem pre_infix {ns : List Nd} (h : Low ns) : ∀ i, i < ns.length → ∀ j ∈ pre ns i, ∃ A B, pre ns i = A ++ pre ns j.toNat ++ B :=
  node_ind h fun i n hn ih j hj => by
    have hj' := hj
    rw [pre_eq h hn] at hj
    simp only [List.mem_cons, List.mem_flatten, List.mem_map] at hj
    rcases hj with rfl | ⟨_, ⟨k, hk, rfl⟩, hj⟩
    · exact ⟨[], [], by simp⟩
    · obtain ⟨A, B, e⟩ := ih k hk j hj
      obtain ⟨l1, l2, hl⟩ := List.append_of_mem hk
      rw [pre_eq h hn, hl]
      exact ⟨(i : Int) :: ((l1.map fun k => pre ns k.toNat).flatten ++ A), B ++ (l2.map fun k => pre ns k.toNat).flatten, by simp [e]⟩

def kidsOf (ns : List Nd) : List Int := ns.flatMap (·.kids)
def rangeI (n : Nat) : List Int := (List.range n).map (fun (i : Nat) => (i : Int))
theorem mem_rangeI {n : Nat} {j : Int} : j ∈ rangeI n ↔ 0 ≤ j ∧ j < n := by
  simp only [rangeI, List.mem_map, List.mem_range]
  constructor
  · rintro ⟨i, hi, rfl⟩; omega
  · intro hj; exact ⟨j.toNat, by omega, by omega⟩
theorem nodup_rangeI (n : Nat) : (rangeI n).Nodup := by
  unfold rangeI
  refine List.Pairwise.map _ (fun a b hab => ?_) List.nodup_range
  omega
@[simp] theorem length_rangeI (n : Nat) : (rangeI n).length = n := by simp [rangeI]

end Go.Proofs.YtlmlbdmbgfclkaaDoor

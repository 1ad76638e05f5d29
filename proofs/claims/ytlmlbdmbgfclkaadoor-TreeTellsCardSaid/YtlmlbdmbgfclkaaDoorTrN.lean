/- Trees in arenas, in plain Lean, on: right arenas, rows that tell each number once, the clean form. No program in sight. -/
import Derived.Test.YtlmlbdmbgfclkaaDoorTrM
namespace Go.Proofs.YtlmlbdmbgfclkaaDoor

/-- Right but for what fits. -/
structure Shape (ns : List Nd) (root : Int) : Prop where
  top : root + 1 = ns.length
  pos : 0 ≤ root
  low : Low ns
  perm : (root :: kidsOf ns).Perm (rangeI ns.length)

theorem kidsOf_split {ns : List Nd} {m : Nat} {n : Nd} (hn : ns[m]? = some n) : kidsOf (ns.drop m) = n.kids ++ kidsOf (ns.drop (m + 1)) := by
  obtain ⟨hm, rfl⟩ := List.getElem?_eq_some_iff.1 hn
  unfold kidsOf; rw [List.drop_eq_getElem_cons hm, List.flatMap_cons]
theorem mem_kidsOf {ns : List Nd} {j : Int} : j ∈ kidsOf ns ↔ ∃ (i : Nat) (n : Nd), ns[i]? = some n ∧ j ∈ n.kids := by
  simp only [kidsOf, List.mem_flatMap]
  constructor
  · rintro ⟨n, hn, hj⟩
    obtain ⟨i, hi⟩ := List.getElem?_of_mem hn
    exact ⟨i, n, hi, hj⟩
  · rintro ⟨i, n, hn, hj⟩
    exact ⟨n, List.mem_of_getElem? hn, hj⟩

/-- The heads of the forest that is left below m. -/
structure Heads (ns : List Nd) (m : Nat) (hs : List Int) : Prop where
  all : (hs.flatMap fun k => pre ns k.toNat).Perm (rangeI m)

theorem rangeI_succ (m : Nat) : (rangeI (m + 1)).Perm ((m : Int) :: rangeI m) := by
  unfold rangeI
  rw [List.range_succ, List.map_append]
  exact List.perm_append_comm
theorem range_pre {ns : List Nd} {root : Int} (h : Shape ns root) : ∀ m, m ≤ ns.length →
    ∃ hs : List Int, hs.Perm ((root :: kidsOf (ns.drop m)).filter fun j => decide (j < (m : Int))) ∧ (pre ns root.toNat).Perm ((rangeI ns.length).drop m ++ hs.flatMap fun k => pre ns k.toNat) := by
  have key : ∀ d m, m + d = ns.length → ∃ hs : List Int, hs.Perm ((root :: kidsOf (ns.drop m)).filter fun j => decide (j < (m : Int))) ∧ (pre ns root.toNat).Perm ((rangeI ns.length).drop m ++ hs.flatMap fun k => pre ns k.toNat) := by
    intro d
    induction d with
    | zero =>
      intro m hm
      have hroot := h.top
      refine ⟨[root], ?_, ?_⟩
      · rw [List.drop_of_length_le (by omega)]
        rw [show kidsOf [] = [] from rfl, List.filter_cons_of_pos (by simp only [decide_eq_true_eq]; omega), List.filter_nil]
      · rw [List.drop_of_length_le (by simp; omega)]; simp
    | succ d ih =>
      intro m hm
      obtain ⟨hs, h1, h2⟩ := ih (m + 1) (by omega)
      have hmlt : m < ns.length := by omega
      have hn := List.getElem?_eq_getElem hmlt
      have hnd : (root :: kidsOf ns).Nodup := h.perm.nodup_iff.2 (nodup_rangeI _)
      have hmem : (m : Int) ∈ root :: kidsOf ns := h.perm.mem_iff.2 (mem_rangeI.2 (by omega))
      have hmem2 : (m : Int) ∈ root :: kidsOf (ns.drop (m + 1)) := by
        rcases List.mem_cons.1 hmem with hr | hk
        · exact List.mem_cons.2 (.inl hr)
        · obtain ⟨i, n, hi, hk⟩ := mem_kidsOf.1 hk
          have := h.low i n hi _ hk
          refine List.mem_cons.2 (.inr (mem_kidsOf.2 ⟨i - (m + 1), n, ?_, hk⟩))
          rw [List.getElem?_drop, show m + 1 + (i - (m + 1)) = i by omega]; exact hi
      have hm1 : (m : Int) ∈ hs := h1.mem_iff.2 (List.mem_filter.2 ⟨hmem2, by simp; omega⟩)
      have hsub : (root :: kidsOf (ns.drop m)).Nodup := by
        refine hnd.sublist (List.Sublist.cons_cons _ ?_)
        have : kidsOf ns = kidsOf (ns.take m) ++ kidsOf (ns.drop m) := by
          unfold kidsOf; rw [← List.flatMap_append, List.take_append_drop]
        rw [this]; exact List.sublist_append_right _ _
      rw [kidsOf_split hn] at hsub
      have hsub2 : (root :: kidsOf (ns.drop (m + 1))).Nodup := hsub.sublist (List.Sublist.cons_cons _ (List.sublist_append_right _ _))
      have hkl : ∀ k ∈ (ns[m]).kids, 0 ≤ k ∧ k < (m : Int) := h.low m _ hn
      refine ⟨(ns[m]).kids ++ hs.erase m, ?_, ?_⟩
      · have e1 : (hs.erase (m : Int)).Perm ((root :: kidsOf (ns.drop (m + 1))).filter fun j => decide (j < (m : Int))) := by
          have := h1.erase (m : Int)
          refine this.trans ?_
          have hnd' := (hsub2.filter (fun j => decide (j < ((m + 1 : Nat) : Int))))
          refine (List.perm_ext_iff_of_nodup (hnd'.erase _) (hsub2.filter _)).2 fun j => ?_
          rw [List.Nodup.mem_erase_iff hnd']
          simp only [List.mem_filter, decide_eq_true_eq]
          constructor
          · rintro ⟨a, b, c⟩; exact ⟨b, by omega⟩
          · rintro ⟨b, c⟩; exact ⟨by omega, b, by omega⟩
        rw [kidsOf_split hn]
        have e2 : (ns[m]).kids.filter (fun j => decide (j < (m : Int))) = (ns[m]).kids := List.filter_eq_self.2 fun k hk => by simpa using (hkl k hk).2
        have e3 : (root :: ((ns[m]).kids ++ kidsOf (ns.drop (m + 1)))).Perm ((ns[m]).kids ++ root :: kidsOf (ns.drop (m + 1))) := List.perm_middle.symm
        refine List.Perm.trans ?_ (e3.filter _).symm
        rw [List.filter_append, e2]
        exact List.Perm.append_left _ e1
      · refine h2.trans ?_
        have hd : (rangeI ns.length).drop m = (m : Int) :: (rangeI ns.length).drop (m + 1) := by
          have hl : m < (rangeI ns.length).length := by simpa using hmlt
          rw [List.drop_eq_getElem_cons hl]
          congr 1
          simp [rangeI]
        rw [hd]
        have e1 : (hs.flatMap fun k => pre ns k.toNat).Perm (pre ns m ++ (hs.erase (m : Int)).flatMap fun k => pre ns k.toNat) := by
          have := (List.perm_cons_erase hm1).flatMap_right (fun k => pre ns k.toNat)
          simpa using this
        refine (List.Perm.append_left _ e1).trans ?_
        rw [pre_eq h.low hn]
        simp only [List.cons_append]
        refine List.perm_middle.trans (List.Perm.cons _ (List.Perm.append_left _ ?_))
        rw [List.flatMap_append, ← List.flatMap_def]
  intro m hm
  exact key (ns.length - m) m (by omega)
/-- The row of a right arena tells each number once. -/
theorem pre_perm {ns : List Nd} {root : Int} (h : Shape ns root) : (pre ns root.toNat).Perm (rangeI ns.length) := by
  obtain ⟨hs, h1, h2⟩ := range_pre h 0 (Nat.zero_le _)
  have hz : ∀ k ∈ root :: kidsOf (ns.drop 0), 0 ≤ k := by
    intro k hk
    rcases List.mem_cons.1 hk with rfl | hk
    · exact h.pos
    · obtain ⟨i, n, hi, hk⟩ := mem_kidsOf.1 hk
      rw [List.drop_zero] at hi
      exact (h.low i n hi _ hk).1
  have hnil : hs = [] := by
    refine List.eq_nil_iff_forall_not_mem.2 fun k hk => ?_
    have := List.mem_filter.1 (h1.mem_iff.1 hk)
    have h3 := hz k this.1
    have h4 := this.2
    simp at h4; omega
  subst hnil
  simpa using h2
theorem Shape.root_lt {ns : List Nd} {root : Int} (h : Shape ns root) : root.toNat < ns.length := by have := h.top; have := h.pos; omega
theorem Shape.size {ns : List Nd} {root : Int} (h : Shape ns root) : (D ns root.toNat).size = ns.length := by
  rw [← pre_size h.low _ h.root_lt, (pre_perm h).length_eq, length_rangeI]
theorem pre_nodup {ns : List Nd} {root : Int} (h : Shape ns root) (i : Nat) (hi : i < ns.length) : (pre ns i).Nodup := by
  have hp := pre_perm h
  have hm : (i : Int) ∈ pre ns root.toNat := hp.mem_iff.2 (mem_rangeI.2 (by omega))
  obtain ⟨A, B, e⟩ := pre_infix h.low _ h.root_lt _ hm
  have hn := hp.nodup_iff.2 (nodup_rangeI _)
  rw [e] at hn
  exact (List.nodup_append.1 (List.nodup_append.1 hn).1).2.1
theorem post_nodup {ns : List Nd} {root : Int} (h : Shape ns root) (i : Nat) (hi : i < ns.length) : (post ns i).Nodup := (post_perm h.low i hi).nodup_iff.2 (pre_nodup h i hi)
theorem size_le {ns : List Nd} {root : Int} (h : Shape ns root) (i : Nat) (hi : i < ns.length) : (D ns i).size ≤ ns.length := by
  have hp := pre_perm h
  have hm : (i : Int) ∈ pre ns root.toNat := hp.mem_iff.2 (mem_rangeI.2 (by omega))
  obtain ⟨A, B, e⟩ := pre_infix h.low _ h.root_lt _ hm
  have := pre_size h.low i hi
  have h2 := pre_size h.low _ h.root_lt
  rw [e, h.size] at h2
  simp at h2
  omega

/-- What putting goes over: nodes so far, and places. -/
def putStep (ns : List Nd) (s : List Nd × (Int → Int)) (i : Int) : List Nd × (Int → Int) :=
  match ns[i.toNat]? with
  | none => s
  | some n => (s.1 ++ [⟨n.d, n.kids.map s.2⟩], fun j => if j = i then (s.1.length : Int) else s.2 j)
theorem put_post {ns : List Nd} (h : Low ns) : ∀ i, i < ns.length → (post ns i).Nodup → ∀ out place,
    ∃ place', (post ns i).foldl (putStep ns) (out, place) = (out ++ flatAt out.length (D ns i), place') ∧ place' (i : Int) = ((out.length + (D ns i).size : Nat) : Int) - 1 ∧ ∀ j, j ∉ post ns i → place' j = place j :=
  node_ind h fun i n hn ih hnd out place => by
    rw [post_eq h hn] at hnd ⊢
    have key : ∀ l : List Int, (∀ k ∈ l, 0 ≤ k ∧ k.toNat < ns.length ∧ ((post ns k.toNat).Nodup → ∀ out place,
        ∃ place', (post ns k.toNat).foldl (putStep ns) (out, place) = (out ++ flatAt out.length (D ns k.toNat), place') ∧ place' ((k.toNat : Nat) : Int) = ((out.length + (D ns k.toNat).size : Nat) : Int) - 1 ∧ ∀ j, j ∉ post ns k.toNat → place' j = place j)) →
        ((l.map fun k => post ns k.toNat).flatten).Nodup → ∀ out place,
        ∃ place', ((l.map fun k => post ns k.toNat).flatten).foldl (putStep ns) (out, place) = (out ++ flatsAt out.length (l.map fun k => D ns k.toNat), place') ∧
          l.map place' = ends out.length (l.map fun k => D ns k.toNat) ∧ ∀ j, j ∉ (l.map fun k => post ns k.toNat).flatten → place' j = place j := by
      intro l
      induction l with
      | nil => intro _ _ out place; exact ⟨place, by simp [flatsAt], by simp [ends], fun _ _ => rfl⟩
      | cons k l ih2 =>
        intro hl hnd out place
        simp only [List.map_cons, List.flatten_cons] at hnd ⊢
        rw [List.nodup_append] at hnd
        obtain ⟨n1, n2, n3⟩ := hnd
        obtain ⟨k0, hk, hk2⟩ := hl k (by simp)
        obtain ⟨p1, e1, a1, b1⟩ := hk2 n1 out place
        obtain ⟨p2, e2, a2, b2⟩ := ih2 (fun k hk => hl k (by simp [hk])) n2 (out ++ flatAt out.length (D ns k.toNat)) p1
        rw [List.length_append, flatAt_length] at e2 a2
        refine ⟨p2, ?_, ?_, fun j hj => ?_⟩
        · rw [List.foldl_append, e1, e2]
          simp [flatsAt, List.append_assoc]
        · simp only [ends, a2]
          congr 1
          have hmem : ((k.toNat : Nat) : Int) ∈ post ns k.toNat := (post_perm h _ hk).mem_iff.2 (self_mem_pre h _ hk)
          have hnot : ((k.toNat : Nat) : Int) ∉ (l.map fun k => post ns k.toNat).flatten := fun hm => n3 _ hmem _ hm rfl
          rw [Int.toNat_of_nonneg k0] at a1 hnot
          rw [b2 _ hnot, a1]
        · rw [List.mem_append, not_or] at hj
          rw [b2 _ hj.2, b1 _ hj.1]
    have hkl := h i n hn
    have hi : i < ns.length := (List.getElem?_eq_some_iff.1 hn).1
    rw [List.nodup_append] at hnd
    obtain ⟨n1, _, n3⟩ := hnd
    obtain ⟨p1, e1, a1, b1⟩ := key n.kids (fun k hk => ⟨(hkl k hk).1, by have := hkl k hk; omega, ih k hk⟩) n1 out place
    rw [List.foldl_append, e1, D_eq h hn]
    simp only [List.foldl_cons, List.foldl_nil, putStep, Int.toNat_natCast, hn]
    refine ⟨fun j => if j = (i : Int) then (((out ++ flatsAt out.length (n.kids.map fun k => D ns k.toNat)).length : Nat) : Int) else p1 j, ?_, ?_, fun j hj => ?_⟩
    · refine Prod.ext ?_ rfl
      simp [flatAt, a1]
    · simp [T.size]; omega
    · rw [List.mem_append, not_or] at hj
      have : j ≠ (i : Int) := fun e => hj.2 (by simp [e])
      simp only [if_neg this]
      exact b1 _ hj.1

/-- An arena that holds a tree's clean form from a place on. -/
def Holds (ns : List Nd) (o : Nat) (l : List Nd) : Prop := ∀ j, j < l.length → ns[o + j]? = l[j]?
theorem Holds.left {ns : List Nd} {o : Nat} {a b : List Nd} (h : Holds ns o (a ++ b)) : Holds ns o a := fun j hj => by
  rw [h j (by simp; omega), List.getElem?_append_left hj]
theorem Holds.right {ns : List Nd} {o : Nat} {a b : List Nd} (h : Holds ns o (a ++ b)) : Holds ns (o + a.length) b := fun j hj => by
  rw [Nat.add_assoc, h (a.length + j) (by simp; omega), List.getElem?_append_right (by omega)]
  congr 1; omega
theorem holds_self (l : List Nd) : Holds l 0 l := fun j _ => by rw [Nat.zero_add]
theorem holds_mid (a b c : List Nd) : Holds (a ++ b ++ c) a.length b := fun j hj => by
  rw [List.append_assoc, List.getElem?_append_right (by omega), List.getElem?_append_left (by omega)]
  congr 1; omega
theorem D_flat (t : T) : ∀ ns, Low ns → ∀ o, Holds ns o (flatAt o t) → D ns (o + t.size - 1) = t := by
  induction t using T.ind with
  | h d ks ih =>
    intro ns hlow o hh
    have hs : ∀ (l : List T), (∀ t ∈ l, ∀ ns, Low ns → ∀ o, Holds ns o (flatAt o t) → D ns (o + t.size - 1) = t) → ∀ o, Holds ns o (flatsAt o l) → (ends o l).map (fun k => D ns k.toNat) = l := by
      intro l
      induction l with
      | nil => intro _ _ _; rfl
      | cons t l ih2 =>
        intro hl o hh
        simp only [flatsAt] at hh
        have h2 := hh.right
        rw [flatAt_length] at h2
        simp only [ends, List.map_cons, ih2 (fun t ht => hl t (by simp [ht])) _ h2]
        congr 1
        have := hl t (by simp) ns hlow o hh.left
        have hp := t.size_pos
        rw [show (((o + t.size : Nat) : Int) - 1).toNat = o + t.size - 1 by omega]
        exact this
    simp only [flatAt] at hh
    have h1 := hh.right
    rw [flatsAt_length] at h1
    have hn : ns[o + sizes ks]? = some ⟨d, ends o ks⟩ := by simpa using h1 0 (by simp)
    have : o + (T.node d ks).size - 1 = o + sizes ks := by simp [T.size]; omega
    rw [this, D_eq hlow hn]
    simp only [hs ks ih o hh.left]
theorem ends_bound (o : Nat) (ts : List T) : ∀ k ∈ ends o ts, (o : Int) ≤ k ∧ k < ((o + sizes ts : Nat) : Int) := by
  induction ts generalizing o with
  | nil => simp [ends]
  | cons t ts ih =>
    intro k hk
    have := t.size_pos
    simp only [ends, List.mem_cons] at hk
    simp only [sizes]
    rcases hk with rfl | hk
    · omega
    · have := ih _ k hk; omega
theorem low_flat (t : T) : ∀ o j n, (flatAt o t)[j]? = some n → ∀ k ∈ n.kids, (o : Int) ≤ k ∧ k < ((o + j : Nat) : Int) := by
  induction t using T.ind with
  | h d ks ih =>
    have hs : ∀ (l : List T), (∀ t ∈ l, ∀ o j n, (flatAt o t)[j]? = some n → ∀ k ∈ n.kids, (o : Int) ≤ k ∧ k < ((o + j : Nat) : Int)) → ∀ o j n, (flatsAt o l)[j]? = some n → ∀ k ∈ n.kids, (o : Int) ≤ k ∧ k < ((o + j : Nat) : Int) := by
      intro l
      induction l with
      | nil => intro _ o j n h; simp [flatsAt] at h
      | cons t l ih2 =>
        intro hl o j n h k hk
        simp only [flatsAt] at h
        rcases Nat.lt_or_ge j (flatAt o t).length with hj | hj
        · rw [List.getElem?_append_left hj] at h
          exact hl t (by simp) o j n h k hk
        · rw [List.getElem?_append_right hj, flatAt_length] at h
          rw [flatAt_length] at hj
          have := ih2 (fun t ht => hl t (by simp [ht])) _ _ n h k hk
          omega
    intro o j n h k hk
    simp only [flatAt] at h
    rcases Nat.lt_or_ge j (flatsAt o ks).length with hj | hj
    · rw [List.getElem?_append_left hj] at h
      exact hs ks ih o j n h k hk
    · rw [List.getElem?_append_right hj, flatsAt_length] at h
      rw [flatsAt_length] at hj
      have hj0 : j - sizes ks = 0 := by
        rcases Nat.eq_zero_or_pos (j - sizes ks) with h0 | h0
        · exact h0
        · rw [List.getElem?_eq_none (by simp; omega)] at h; cases h
      rw [hj0] at h
      simp at h; subst h
      have := ends_bound o ks k hk
      omega
theorem Low.flat (t : T) : Low (flatAt 0 t) := fun i n hn k hk => by have := low_flat t 0 i n hn k hk; omega
theorem D_flat0 (t : T) : D (flatAt 0 t) (t.size - 1) = t := by
  have := D_flat t _ (Low.flat t) 0 (holds_self _)
  rwa [Nat.zero_add] at this
theorem flat_inj {a b : T} (h : flatAt 0 a = flatAt 0 b) : a = b := by
  have hs : a.size = b.size := by rw [← flatAt_length a 0, ← flatAt_length b 0, h]
  rw [← D_flat0 a, ← D_flat0 b, h, hs]
theorem kids_flat (t : T) : ∀ o : Nat, ((((o + t.size : Nat) : Int) - 1) :: kidsOf (flatAt o t)).Perm ((List.range t.size).map fun (i : Nat) => ((o + i : Nat) : Int)) := by
  induction t using T.ind with
  | h d ks ih =>
    have hs : ∀ (l : List T), (∀ t ∈ l, ∀ o : Nat, ((((o + t.size : Nat) : Int) - 1) :: kidsOf (flatAt o t)).Perm ((List.range t.size).map fun (i : Nat) => ((o + i : Nat) : Int))) →
        ∀ o : Nat, (ends o l ++ kidsOf (flatsAt o l)).Perm ((List.range (sizes l)).map fun (i : Nat) => ((o + i : Nat) : Int)) := by
      intro l
      induction l with
      | nil => intro _ o; simp [ends, flatsAt, kidsOf, sizes]
      | cons t l ih2 =>
        intro hl o
        have h1 := hl t (by simp) o
        have h2 := ih2 (fun t ht => hl t (by simp [ht])) (o + t.size)
        simp only [ends, flatsAt, sizes, kidsOf, List.flatMap_append]
        have e1 : (((((o + t.size : Nat) : Int) - 1) :: ends (o + t.size) l) ++ ((flatAt o t).flatMap (·.kids) ++ (flatsAt (o + t.size) l).flatMap (·.kids))).Perm
            ((((((o + t.size : Nat) : Int) - 1)) :: kidsOf (flatAt o t)) ++ (ends (o + t.size) l ++ kidsOf (flatsAt (o + t.size) l))) := by
          simp only [List.cons_append]
          refine List.Perm.cons _ ?_
          rw [← List.append_assoc, ← List.append_assoc]
          exact List.Perm.append_right _ List.perm_append_comm
        refine e1.trans ((h1.append h2).trans (List.Perm.of_eq ?_))
        rw [List.range_add, List.map_append, List.map_map]
        congr 1
        refine List.map_congr_left fun i _ => ?_
        simp only [Function.comp]; omega
    intro o
    have h1 := hs ks ih o
    simp only [flatAt, kidsOf, List.flatMap_append, T.size]
    have : 1 + sizes ks = sizes ks + 1 := by omega
    rw [this, List.range_succ, List.map_append]
    simp only [List.flatMap_cons, List.flatMap_nil, List.append_nil, List.map_cons, List.map_nil]
    have e : (((o + (sizes ks + 1) : Nat) : Int) - 1) = ((o + sizes ks : Nat) : Int) := by omega
    rw [e]
    refine List.Perm.trans (List.Perm.cons _ (List.perm_append_comm.trans h1)) ?_
    exact (List.perm_append_singleton _ _).symm
theorem shape_flat (t : T) : Shape (flatAt 0 t) ((t.size : Int) - 1) where
  top := by rw [flatAt_length]; omega
  pos := by have := t.size_pos; omega
  low := Low.flat t
  perm := by
    have := kids_flat t 0
    simp only [Nat.zero_add] at this
    rw [flatAt_length]
    exact this

end Go.Proofs.YtlmlbdmbgfclkaaDoor

/- Right arenas, in plain Lean: what the program goes over. No program in sight. -/
import Derived.Test.YtlmlbdmbgfclkaaDoorTrN
import Derived.Test.YtlmlbdmbgfclkaaDoorRow
import Derived.Test.YtlmlbdmbgfclkaaDoorTrA
namespace Go.Proofs.YtlmlbdmbgfclkaaDoor
open Go.RowKit

/-- Is an arena right? -/
structure RightT (t : Tr) : Prop where
  shape : Shape t.nodes t.root
  fit : ∀ n ∈ t.nodes, fits n.d n.kids.length = true
structure OkTo (ns : List Nd) (root : Int) (i : Nat) : Prop where
  fit : ∀ (j : Nat) (n : Nd), j < i → ns[j]? = some n → fits n.d n.kids.length = true
  low : ∀ (j : Nat) (n : Nd), j < i → ns[j]? = some n → ∀ k ∈ n.kids, 0 ≤ k ∧ k < (j : Int)
  nodup : (root :: kidsOf (ns.take i)).Nodup
theorem kidsOf_take {ns : List Nd} {i : Nat} {n : Nd} (h : ns[i]? = some n) : kidsOf (ns.take (i + 1)) = kidsOf (ns.take i) ++ n.kids := by
  unfold kidsOf
  rw [List.take_add_one, h, List.flatMap_append]
  simp
theorem OkTo.zero (ns : List Nd) (root : Int) : OkTo ns root 0 := ⟨fun j n h => by omega, fun j n h => by omega, by simp [kidsOf]⟩
theorem OkTo.next {ns : List Nd} {root : Int} {i : Nat} {n : Nd} (h : OkTo ns root i) (hn : ns[i]? = some n) (hf : fits n.d n.kids.length = true) (hl : ∀ k ∈ n.kids, 0 ≤ k ∧ k < (i : Int)) (hd : (root :: (kidsOf (ns.take i) ++ n.kids)).Nodup) : OkTo ns root (i + 1) := by
  refine ⟨fun j m hj hm => ?_, fun j m hj hm => ?_, by rw [kidsOf_take hn]; exact hd⟩
  · rcases Nat.lt_succ_iff_lt_or_eq.1 hj with h1 | rfl
    · exact h.fit j m h1 hm
    · rw [hn] at hm; injection hm with hm; subst hm; exact hf
  · rcases Nat.lt_succ_iff_lt_or_eq.1 hj with h1 | rfl
    · exact h.low j m h1 hm
    · rw [hn] at hm; injection hm with hm; subst hm; exact hl
theorem rightT_iff {t : Tr} (h1 : t.root + 1 = t.nodes.length) (h2 : 0 ≤ t.root) (h : OkTo t.nodes t.root t.nodes.length) : RightT t ↔ ∀ j : Nat, j < t.nodes.length → (j : Int) ∈ t.root :: kidsOf t.nodes := by
  have hlen : ∀ (j : Nat) (n : Nd), t.nodes[j]? = some n → j < t.nodes.length := fun j n hn => (List.getElem?_eq_some_iff.1 hn).1
  have hnd := h.nodup
  rw [List.take_length] at hnd
  constructor
  · intro hr j hj
    exact hr.shape.perm.mem_iff.2 (mem_rangeI.2 ⟨by omega, by omega⟩)
  · intro hall
    refine ⟨⟨h1, h2, fun i n hn => h.low i n (hlen i n hn) hn, ?_⟩, fun n hn => ?_⟩
    · refine (List.perm_ext_iff_of_nodup hnd (nodup_rangeI _)).2 fun j => ?_
      rw [mem_rangeI]
      constructor
      · intro hj
        rcases List.mem_cons.1 hj with rfl | hj
        · omega
        · obtain ⟨i, n, hn, hk⟩ := mem_kidsOf.1 hj
          have := h.low i n (hlen i n hn) hn j hk
          have := hlen i n hn
          omega
      · rintro ⟨ha, hb⟩
        have := hall j.toNat (by omega)
        rwa [Int.toNat_of_nonneg ha] at this
    · obtain ⟨i, hi⟩ := List.getElem?_of_mem hn
      exact h.fit i n (hlen i n hi) hi
theorem not_right_fit {t : Tr} {i : Nat} {n : Nd} (hn : t.nodes[i]? = some n) (hf : fits n.d n.kids.length = false) : ¬ RightT t := fun h => by
  have := h.fit n (List.mem_of_getElem? hn)
  rw [hf] at this; cases this
theorem not_right_low {t : Tr} {i : Nat} {n : Nd} {k : Int} (hn : t.nodes[i]? = some n) (hk : k ∈ n.kids) (hf : ¬ (0 ≤ k ∧ k < (i : Int))) : ¬ RightT t := fun h => hf (h.shape.low i n hn k hk)
theorem not_right_had {t : Tr} {i m : Nat} {n : Nd} {k : Int} (hn : t.nodes[i]? = some n) (hk : n.kids[m]? = some k) (hf : k ∈ t.root :: (kidsOf (t.nodes.take i) ++ n.kids.take m)) : ¬ RightT t := fun h => by
  have hnd : (t.root :: kidsOf t.nodes).Nodup := h.shape.perm.nodup_iff.2 (nodup_rangeI _)
  have hm : m < n.kids.length := (List.getElem?_eq_some_iff.1 hk).1
  have e : kidsOf t.nodes = (kidsOf (t.nodes.take i) ++ n.kids.take m) ++ (n.kids.drop m ++ kidsOf (t.nodes.drop (i + 1))) := by
    have h1 : kidsOf t.nodes = kidsOf (t.nodes.take i) ++ kidsOf (t.nodes.drop i) := by unfold kidsOf; rw [← List.flatMap_append, List.take_append_drop]
    rw [h1, kidsOf_split hn, List.append_assoc, ← List.append_assoc (n.kids.take m), List.take_append_drop]
  rw [e, ← List.cons_append, List.nodup_append] at hnd
  have hkd : k ∈ n.kids.drop m := by
    rw [List.drop_eq_getElem_cons hm]
    have : n.kids[m] = k := by rw [List.getElem?_eq_getElem hm] at hk; injection hk
    rw [this]; simp
  exact hnd.2.2 k hf k (List.mem_append_left _ hkd) rfl
theorem not_right_root {t : Tr} (h : ¬ (t.root + 1 = t.nodes.length ∧ 0 ≤ t.root)) : ¬ RightT t := fun hr => h ⟨hr.shape.top, hr.shape.pos⟩

/-- Which numbers were told. -/
def hadOf (n : Nat) (M : List Int) : List Value := (List.range n).map fun (j : Nat) => Value.bool (decide ((j : Int) ∈ M))
@[simp] theorem hadOf_length (n : Nat) (M : List Int) : (hadOf n M).length = n := by simp [hadOf]
theorem hadOf_at {n : Nat} {M : List Int} {k : Int} (h0 : 0 ≤ k) (hk : k.toNat < n) : (hadOf n M)[k.toNat]? = some (.bool (decide (k ∈ M))) := by
  unfold hadOf
  rw [List.getElem?_map, List.getElem?_range hk]
  simp only [Option.map_some]
  rw [Int.toNat_of_nonneg h0]
theorem hadOf_set {n : Nat} {M : List Int} {k : Int} (h0 : 0 ≤ k) : (hadOf n M).set k.toNat (.bool true) = hadOf n (M ++ [k]) := by
  apply List.ext_getElem?
  intro i
  unfold hadOf
  rw [List.getElem?_set, List.getElem?_map, List.getElem?_map]
  rcases Nat.lt_or_ge i n with hi | hi
  · rw [List.getElem?_range hi]
    by_cases hki : k.toNat = i
    · subst hki
      have e : ((k.toNat : Nat) : Int) = k := by omega
      simp [hi, e]
    · rw [if_neg hki]
      have : ((i : Nat) : Int) ≠ k := by omega
      simp [this]
  · rw [List.getElem?_eq_none (by simpa using hi)]
    by_cases hki : k.toNat = i
    · rw [if_pos hki, if_neg (by simp; omega)]; rfl
    · rw [if_neg hki]; rfl
theorem hadOf_nil (n : Nat) : hadOf n [] = List.replicate n (.bool false) := by
  unfold hadOf
  apply List.ext_getElem?
  intro i
  simp [List.getElem?_replicate]
  rcases Nat.lt_or_ge i n with hi | hi
  · simp [hi]
  · simp [Nat.not_lt.2 hi]
theorem hadOf_all {n : Nat} {M : List Int} : (∀ j : Nat, j < n → (j : Int) ∈ M) ↔ Value.bool false ∉ hadOf n M := by
  unfold hadOf
  simp only [List.mem_map, List.mem_range, Value.bool.injEq, decide_eq_false_iff_not, not_exists, not_and, Decidable.not_not]
end Go.Proofs.YtlmlbdmbgfclkaaDoor

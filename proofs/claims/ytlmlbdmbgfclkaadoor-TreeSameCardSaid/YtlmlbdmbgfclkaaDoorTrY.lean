/- Where the numbers of a row stand: a kid behind its node, and behind the kids ahead of it. No program in sight. -/
import Derived.Test.YtlmlbdmbgfclkaaDoorTrN
namespace Go.Proofs.YtlmlbdmbgfclkaaDoor

theorem idxOf_right {l1 l2 : List Int} {x : Int} (h : x ∉ l1) : (l1 ++ l2).idxOf x = l1.length + l2.idxOf x := by
  rw [List.idxOf_append, if_neg h]; omega
theorem idxOf_left {l1 l2 : List Int} {x : Int} (h : x ∈ l1) : (l1 ++ l2).idxOf x = l1.idxOf x := by
  rw [List.idxOf_append, if_pos h]
def kidSum (ns : List Nd) (ks : List Int) : Nat := (ks.map fun k => (pre ns k.toNat).length).sum
theorem pre_pos {ns : List Nd} {root : Int} (h : Shape ns root) {i : Nat} {n : Nd} (hn : ns[i]? = some n) :
    ∀ q k, n.kids[q]? = some k → (pre ns root.toNat).idxOf k = (pre ns root.toNat).idxOf (i : Int) + 1 + kidSum ns (n.kids.take q) := by
  have hi : i < ns.length := (List.getElem?_eq_some_iff.1 hn).1
  have hp := pre_perm h
  have hm : (i : Int) ∈ pre ns root.toNat := hp.mem_iff.2 (mem_rangeI.2 (by omega))
  obtain ⟨A, B, e⟩ := pre_infix h.low _ h.root_lt _ hm
  have hnd := hp.nodup_iff.2 (nodup_rangeI _)
  simp only [Int.toNat_natCast] at e
  have key : ∀ x ∈ pre ns i, (pre ns root.toNat).idxOf x = A.length + (pre ns i).idxOf x := by
    intro x hx
    rw [e] at hnd ⊢
    rw [List.append_assoc, List.nodup_append] at hnd
    have hxA : x ∉ A := fun hA => hnd.2.2 x hA x (by simp [hx]) rfl
    rw [List.append_assoc, idxOf_right hxA, idxOf_left hx]
  have hndi := pre_nodup h i hi
  have hself : (pre ns i).idxOf (i : Int) = 0 := by rw [pre_eq h.low hn]; simp
  rw [key _ (self_mem_pre h.low i hi), hself]
  intro q k hk
  have hkm : k ∈ n.kids := List.mem_of_getElem? hk
  have hkl := h.low i n hn k hkm
  have hkpre : k ∈ pre ns k.toNat := by
    have := self_mem_pre h.low k.toNat (by omega)
    rwa [Int.toNat_of_nonneg hkl.1] at this
  have hkin : k ∈ pre ns i := by
    rw [pre_eq h.low hn]
    exact List.mem_cons_of_mem _ (List.mem_flatten.2 ⟨_, List.mem_map.2 ⟨k, hkm, rfl⟩, hkpre⟩)
  rw [key k hkin]
  have hsplit : n.kids = n.kids.take q ++ k :: n.kids.drop (q + 1) := by
    obtain ⟨hq, rfl⟩ := List.getElem?_eq_some_iff.1 hk
    rw [← List.drop_eq_getElem_cons hq, List.take_append_drop]
  rw [pre_eq h.low hn] at hndi ⊢
  have hki : k ≠ (i : Int) := by omega
  have hcons : ∀ L : List Int, ((i : Int) :: L).idxOf k = L.idxOf k + 1 := fun L => by
    have hb : ((i : Int) == k) = false := by simpa using (Ne.symm hki)
    rw [List.idxOf_cons, hb]; rfl
  rw [hcons]
  rw [List.nodup_cons] at hndi
  have hnd2 := hndi.2
  rw [hsplit, List.map_append, List.flatten_append, List.map_cons, List.flatten_cons] at hnd2 ⊢
  rw [List.nodup_append] at hnd2
  have hnot : k ∉ ((n.kids.take q).map fun k => pre ns k.toNat).flatten := fun hc => hnd2.2.2 k hc k (by simp [hkpre]) rfl
  rw [idxOf_right hnot, idxOf_left hkpre]
  have h0 : (pre ns k.toNat).idxOf k = 0 := by
    rw [pre_eq h.low (List.getElem?_eq_getElem (show k.toNat < ns.length by omega))]
    rw [Int.toNat_of_nonneg hkl.1]; simp
  have htk : (n.kids.take q ++ k :: n.kids.drop (q + 1)).take q = n.kids.take q := by rw [← hsplit]
  rw [h0, htk, List.length_flatten, List.map_map]
  unfold kidSum
  simp only [Function.comp_def]
  omega
theorem kidSum_next {ns : List Nd} (h : Low ns) {i : Nat} {n : Nd} (hn : ns[i]? = some n) {q : Nat} {k : Int} (hk : n.kids[q]? = some k) : kidSum ns (n.kids.take q) + 1 ≤ kidSum ns (n.kids.take (q + 1)) := by
  have hkl := h i n hn k (List.mem_of_getElem? hk)
  have hi : i < ns.length := (List.getElem?_eq_some_iff.1 hn).1
  have : 0 < (pre ns k.toNat).length := by
    rw [pre_eq h (List.getElem?_eq_getElem (show k.toNat < ns.length by omega))]; simp
  unfold kidSum
  rw [List.take_add_one, hk]
  simp
  omega
theorem pre_head {ns : List Nd} {root : Int} (h : Shape ns root) : (pre ns root.toNat)[0]? = some root := by
  rw [pre_eq h.low (List.getElem?_eq_getElem h.root_lt)]
  have := h.pos
  simp; omega
theorem idxOf_get {R : List Int} (hn : R.Nodup) {j : Nat} {x : Int} (h : R[j]? = some x) : R.idxOf x = j := by
  obtain ⟨hj, rfl⟩ := List.getElem?_eq_some_iff.1 h
  exact hn.idxOf_getElem j hj
theorem not_mem_take {R : List Int} (hn : R.Nodup) {j : Nat} {x : Int} (h : R[j]? = some x) : x ∉ R.take j := by
  intro hm
  obtain ⟨i, hi⟩ := List.getElem?_of_mem hm
  have hij : i < j := by
    have := (List.getElem?_eq_some_iff.1 hi).1
    rw [List.length_take] at this; omega
  rw [List.getElem?_take_of_lt hij] at hi
  have h1 := idxOf_get hn h
  have h2 := idxOf_get hn hi
  omega
end Go.Proofs.YtlmlbdmbgfclkaaDoor

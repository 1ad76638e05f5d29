/- What is spoilt reads still, as other trees. -/
import Derived.Test.YtlmlbdmbgfclkaaDoorRfP
namespace Go.Proofs.YtlmlbdmbgfclkaaDoor
open Go.RowKit

theorem list_of {α : Type} {P : Nat → α → Prop} : ∀ n : Nat, (∀ i, i < n → ∃ z, P i z) → ∃ zs : List α, zs.length = n ∧ ∀ (i : Nat) (z : α), zs[i]? = some z → P i z
  | 0, _ => ⟨[], rfl, fun i z h => by simp at h⟩
  | n + 1, h => by
    obtain ⟨zs, hl, hz⟩ := list_of n fun i hi => h i (by omega)
    obtain ⟨z, hn⟩ := h n (by omega)
    refine ⟨zs ++ [z], by simp [hl], fun i y hy => ?_⟩
    rcases Nat.lt_or_ge i n with hi | hi
    · rw [List.getElem?_append_left (by omega)] at hy; exact hz i y hy
    · rw [List.getElem?_append_right (by omega)] at hy
      have h0 : i - zs.length = 0 := by
        rcases Nat.eq_zero_or_pos (i - zs.length) with e | e
        · exact e
        · rw [List.getElem?_eq_none (by simp; omega)] at hy; cases hy
      rw [h0] at hy
      simp at hy
      have : i = n := by omega
      rw [this, ← hy]; exact hn
theorem RNodes.of_at {w : World} {S : Nat → Prop} {b off n c : Nat} (zs : List (Nd × Value)) (hl : zs.length = n) (hn : n ≤ maxLen) (hc : n ≤ c) (hb : 0 < n → S b)
    (h : ∀ (j : Nat) (z : Nd × Value), zs[j]? = some z → RInts w S z.2 z.1.kids ∧ z.1.d.Ok ∧ ∀ (i : Nat) (u : Value), (nodeCells z.1 z.2)[i]? = some u → w.cell? ⟨b, off + (j * 9 + i), none⟩ = some u) : RNodes w S (.slice (some ⟨b, off, none⟩) n c) (zs.map (·.1)) := by
  have hl1 : (zs.map (·.1)).length = n := by simp [hl]
  have hlen9 : (nodesCells (zs.map (·.1)) (zs.map (·.2))).length = (zs.map (·.1)).length * 9 := by
    clear h hl1 hl hb
    unfold nodesCells
    induction zs with
    | nil => simp
    | cons z zs ih => simp only [List.map_cons, List.zipWith_cons_cons, List.flatten_cons, List.length_append, List.length_cons, ih, show (nodeCells z.1 z.2).length = 9 from rfl]; omega
  refine ⟨zs.map (·.2), by simp, ⟨hlen9, by omega, some ⟨b, off, none⟩, c, by rw [hl1], by omega, fun hp => ⟨b, off, rfl, hb (by omega), fun j u hu => ?_⟩⟩, fun j N kv h1 h2 => ?_⟩
  · have hjl := (List.getElem?_eq_some_iff.1 hu).1
    rw [hlen9, hl1] at hjl
    have hj9 : j / 9 < zs.length := by omega
    have hjd : j / 9 * 9 + j % 9 = j := by omega
    rw [← hjd] at hu ⊢
    have hz : zs[j / 9]? = some zs[j / 9] := List.getElem?_eq_getElem hj9
    rw [nodesCells, zip_cells nodeCells 9 (fun _ _ => rfl) _ _ (j / 9) zs[j / 9].1 zs[j / 9].2 (by simp [hz]) (by simp [hz]) (j % 9) (by omega)] at hu
    exact (h _ _ hz).2.2 _ u hu
  · rw [List.getElem?_map] at h1 h2
    cases hj : zs[j]? with
    | none => rw [hj] at h1; cases h1
    | some z =>
      rw [hj] at h1 h2
      injection h1 with h1; injection h2 with h2
      subst h1; subst h2
      exact ⟨(h j z hj).1, (h j z hj).2.1⟩
theorem RInts.spoilt {w w' : World} {S : Nat → Prop} {v : Value} {ks : List Int} (h : RInts w S v ks) (hs : Spoilt w w') (hS : ∀ b, S b → b < w.heap.size) : ∃ ks', ks'.length = ks.length ∧ RInts w' S v ks' := by
  obtain ⟨A, c, rfl, h1, h2, h3⟩ := h.at_
  rcases Nat.eq_zero_or_pos ks.length with h0 | h0
  · refine ⟨[], by simp [h0], ?_⟩
    rw [h0]
    exact ⟨by simp, by simp [maxLen], A, c, rfl, Nat.zero_le _, fun h => by simp at h⟩
  · obtain ⟨b, off, rfl, hb, hc⟩ := h3 h0
    obtain ⟨zs, hl, hz⟩ := list_of (P := fun i z => w'.cell? ⟨b, off + i, none⟩ = some (.int .i64 z)) ks.length fun i hi => by
      obtain ⟨z', h4, _⟩ := hs.i64 (p := ⟨b, off + i, none⟩) (hS b hb) (hc i _ (List.getElem?_eq_getElem hi))
      exact ⟨z', h4⟩
    refine ⟨zs, hl, ⟨by simp, by omega, some ⟨b, off, none⟩, c, by rw [hl], by omega, fun _ => ⟨b, off, rfl, hb, fun j u hu => ?_⟩⟩⟩
    rw [List.getElem?_map] at hu
    cases hj : zs[j]? with
    | none => rw [hj] at hu; cases hu
    | some z => rw [hj] at hu; injection hu with hu; subst hu; exact hz j z hj
theorem RNodes.spoilt {w w' : World} {S : Nat → Prop} {v : Value} {ns : List Nd} (h : RNodes w S v ns) (hs : Spoilt w w') (hS : ∀ b, S b → b < w.heap.size) : ∃ ns', ns'.length = ns.length ∧ RNodes w' S v ns' := by
  obtain ⟨A, c, rfl, h1, h2, h3⟩ := h.at_
  rcases Nat.eq_zero_or_pos ns.length with h0 | h0
  · refine ⟨[], by simp [h0], ?_⟩
    rw [h0]
    exact ⟨[], rfl, ⟨by simp [nodesCells], by simp [maxLen], A, c, rfl, Nat.zero_le _, fun h => by simp at h⟩, fun j n kv h => by simp at h⟩
  · obtain ⟨b, off, rfl, hb, hc⟩ := h3 h0
    obtain ⟨zs, hl, hz⟩ := list_of (P := fun i (z : Nd × Value) => RInts w' S z.2 z.1.kids ∧ z.1.d.Ok ∧ ∀ (j : Nat) (u : Value), (nodeCells z.1 z.2)[j]? = some u → w'.cell? ⟨b, off + (i * 9 + j), none⟩ = some u) ns.length fun i hi => by
      obtain ⟨kv, hk, hd, hcell⟩ := hc i _ (List.getElem?_eq_getElem hi)
      obtain ⟨ks', _, hk'⟩ := hk.spoilt hs hS
      obtain ⟨A', ck, rfl, _⟩ := hk.at_
      obtain ⟨⟨d0, d1⟩, ⟨s0, s1, s2, s3⟩, dt, dm, dx⟩ := hd
      have hB := hS b hb
      obtain ⟨z0, q0, e0⟩ := hs.u8 (p := ⟨b, off + (i * 9 + 0), none⟩) hB (hcell 0 _ rfl)
      have q1 := hs.same (p := ⟨b, off + (i * 9 + 1), none⟩) hB (hcell 1 _ rfl) (fun z e => by cases e) (fun z e => by cases e)
      have q2 := hs.same (p := ⟨b, off + (i * 9 + 2), none⟩) hB (hcell 2 _ rfl) (fun z e => by cases e) (fun z e => by cases e)
      have q3 := hs.same (p := ⟨b, off + (i * 9 + 3), none⟩) hB (hcell 3 _ rfl) (fun z e => by cases e) (fun z e => by cases e)
      have q4 := hs.same (p := ⟨b, off + (i * 9 + 4), none⟩) hB (hcell 4 _ rfl) (fun z e => by cases e) (fun z e => by cases e)
      have q5 := hs.same (p := ⟨b, off + (i * 9 + 5), none⟩) hB (hcell 5 _ rfl) (fun z e => by cases e) (fun z e => by cases e)
      obtain ⟨z6, q6, e6⟩ := hs.i64 (p := ⟨b, off + (i * 9 + 6), none⟩) hB (hcell 6 _ rfl)
      obtain ⟨z7, q7, e7⟩ := hs.i64 (p := ⟨b, off + (i * 9 + 7), none⟩) hB (hcell 7 _ rfl)
      have q8 := hs.same (p := ⟨b, off + (i * 9 + 8), none⟩) hB (hcell 8 _ rfl) (fun z e => by cases e) (fun z e => by cases e)
      refine ⟨(⟨⟨z0, ns[i].d.s0, ns[i].d.s1, ns[i].d.s2, ns[i].d.s3, ns[i].d.text, z6, z7⟩, ks'⟩, .slice A' ns[i].kids.length ck), hk', ⟨by simp only; omega, ⟨s0, s1, s2, s3⟩, dt, by simp only; omega, by simp only; omega⟩, fun j u hu => ?_⟩
      match j, hu with
      | 0, hu => simp [nodeCells] at hu; subst hu; exact q0
      | 1, hu => simp [nodeCells] at hu; subst hu; exact q1
      | 2, hu => simp [nodeCells] at hu; subst hu; exact q2
      | 3, hu => simp [nodeCells] at hu; subst hu; exact q3
      | 4, hu => simp [nodeCells] at hu; subst hu; exact q4
      | 5, hu => simp [nodeCells] at hu; subst hu; exact q5
      | 6, hu => simp [nodeCells] at hu; subst hu; exact q6
      | 7, hu => simp [nodeCells] at hu; subst hu; exact q7
      | 8, hu => simp [nodeCells] at hu; subst hu; exact q8
      | j + 9, hu => simp [nodeCells] at hu
    exact ⟨zs.map (·.1), by simp [hl], RNodes.of_at zs hl h2 h1 (fun _ => hb) hz⟩
end Go.Proofs.YtlmlbdmbgfclkaaDoor

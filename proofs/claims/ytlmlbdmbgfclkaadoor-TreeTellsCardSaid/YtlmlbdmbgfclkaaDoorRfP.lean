/- What spoil writes: the law's spoil; all. -/
import Derived.Test.YtlmlbdmbgfclkaaDoorRfO
namespace Go.Proofs.YtlmlbdmbgfclkaaDoor
open Go.RowKit

/-- Cells are as they were, but for numbers that were written over. -/
def Spoilt (w w' : World) : Prop := ∀ p : Addr, p.block < w.heap.size → w'.cell? p = w.cell? p ∨ (∃ z, w.cell? p = some (.int .i64 z) ∧ w'.cell? p = some (.int .i64 (-7))) ∨ (∃ z, w.cell? p = some (.int .u8 z) ∧ w'.cell? p = some (.int .u8 77))
def SoftKept (w w' : World) : Prop := ∀ b, b < w.heap.size → Soft w b → Soft w' b
section
variable {w w' w'' : World}
theorem Spoilt.refl (w : World) : Spoilt w w := fun _ _ => .inl rfl
theorem Spoilt.trans (h : Spoilt w w') (k : Spoilt w' w'') (hs : w.heap.size ≤ w'.heap.size) : Spoilt w w'' := fun p hp => by
  rcases h p hp with h1 | ⟨z, h1, h2⟩ | ⟨z, h1, h2⟩ <;> rcases k p (by omega) with k1 | ⟨z', k1, k2⟩ | ⟨z', k1, k2⟩
  · exact .inl (k1.trans h1)
  · exact .inr (.inl ⟨z', h1 ▸ k1, k2⟩)
  · exact .inr (.inr ⟨z', h1 ▸ k1, k2⟩)
  · exact .inr (.inl ⟨z, h1, k1.trans h2⟩)
  · exact .inr (.inl ⟨z, h1, k2⟩)
  · rw [h2] at k1; cases k1
  · exact .inr (.inr ⟨z, h1, k1.trans h2⟩)
  · rw [h2] at k1; cases k1
  · exact .inr (.inr ⟨z, h1, k2⟩)
theorem Spoilt.of_below (hb : Below w.heap.size w w') : Spoilt w w' := fun _ hp => .inl (hb.cell hp)
theorem SoftKept.of_below (hb : Below w.heap.size w w') : SoftKept w w' := fun _ hp h => h.below hb hp
theorem SoftKept.trans (h : SoftKept w w') (k : SoftKept w' w'') (hs : w.heap.size ≤ w'.heap.size) : SoftKept w w'' := fun b hb h1 => k b (by omega) (h b hb h1)
theorem SoftKept.setCell (h : SoftKept w w') (p : Addr) (u : Value) : SoftKept w (w'.setCell p u) := fun b hb h1 => (h b hb h1).setCell p u
theorem Spoilt.i64 (h : Spoilt w w') {p : Addr} {z : Int} (hp : p.block < w.heap.size) (hc : w.cell? p = some (.int .i64 z)) : ∃ z', w'.cell? p = some (.int .i64 z') ∧ (z' = z ∨ z' = -7) := by
  rcases h p hp with h1 | ⟨z', h1, h2⟩ | ⟨z', h1, h2⟩
  · exact ⟨z, h1.trans hc, .inl rfl⟩
  · exact ⟨-7, h2, .inr rfl⟩
  · rw [hc] at h1; cases h1
theorem Spoilt.u8 (h : Spoilt w w') {p : Addr} {z : Int} (hp : p.block < w.heap.size) (hc : w.cell? p = some (.int .u8 z)) : ∃ z', w'.cell? p = some (.int .u8 z') ∧ (z' = z ∨ z' = 77) := by
  rcases h p hp with h1 | ⟨z', h1, h2⟩ | ⟨z', h1, h2⟩
  · exact ⟨z, h1.trans hc, .inl rfl⟩
  · rw [hc] at h1; cases h1
  · exact ⟨77, h2, .inr rfl⟩
theorem Spoilt.same (h : Spoilt w w') {p : Addr} {u : Value} (hp : p.block < w.heap.size) (hc : w.cell? p = some u) (h1 : ∀ z, u ≠ .int .i64 z) (h2 : ∀ z, u ≠ .int .u8 z) : w'.cell? p = some u := by
  rcases h p hp with k1 | ⟨z', k1, k2⟩ | ⟨z', k1, k2⟩
  · exact k1.trans hc
  · rw [hc] at k1; injection k1 with k1; exact absurd k1 (h1 _)
  · rw [hc] at k1; injection k1 with k1; exact absurd k1 (h2 _)
theorem Spoilt.set_i64 (h : Spoilt w w') (hs : w.heap.size ≤ w'.heap.size) {p : Addr} {z : Int} (hc : w.cell? p = some (.int .i64 z)) (hc' : ∃ z', w'.cell? p = some (.int .i64 z')) : Spoilt w (w'.setCell p (.int .i64 (-7))) := fun q hq => by
  by_cases e : q = p
  · subst e
    obtain ⟨z', hz'⟩ := hc'
    exact .inr (.inl ⟨z, hc, World.cell?_setCell_same _ _ _ hz'⟩)
  · rw [World.cell?_setCell_other w' p q _ (fun e2 => e e2.symm)]
    exact h q hq
theorem Spoilt.set_u8 (h : Spoilt w w') (hs : w.heap.size ≤ w'.heap.size) {p : Addr} {z : Int} (hc : w.cell? p = some (.int .u8 z)) (hc' : ∃ z', w'.cell? p = some (.int .u8 z')) : Spoilt w (w'.setCell p (.int .u8 77)) := fun q hq => by
  by_cases e : q = p
  · subst e
    obtain ⟨z', hz'⟩ := hc'
    exact .inr (.inr ⟨z, hc, World.cell?_setCell_same _ _ _ hz'⟩)
  · rw [World.cell?_setCell_other w' p q _ (fun e2 => e e2.symm)]
    exact h q hq
end

/-- A tree that may be written over. -/
def WTree (w : World) (lo : Nat) (v : Value) (t : Tr) : Prop := RTree w (fun b => lo ≤ b ∧ b < w.heap.size ∧ Soft w b) v t
structure SpoilRel (lo B : Nat) (w : World) (cs : Array Value) (wr : World) : Prop where
  box : Blk wr B 24 cs
  below : Below lo w wr
  sp : Spoilt w wr
  soft : SoftKept w wr
theorem SpoilRel.next_i64 {lo B : Nat} {w wr : World} {cs : Array Value} {p : Addr} {z : Int} (h : SpoilRel lo B w cs wr) (hp : lo ≤ p.block) (hw : p.block < w.heap.size) (hB : w.heap.size ≤ B) (hc : w.cell? p = some (.int .i64 z)) : SpoilRel lo B w cs (wr.setCell p (.int .i64 (-7))) :=
  ⟨h.box.far (by omega) _, h.below.setCell hp _, h.sp.set_i64 h.below.size hc (by obtain ⟨z', h1, _⟩ := h.sp.i64 hw hc; exact ⟨z', h1⟩), h.soft.setCell _ _⟩
theorem SpoilRel.next_u8 {lo B : Nat} {w wr : World} {cs : Array Value} {p : Addr} {z : Int} (h : SpoilRel lo B w cs wr) (hp : lo ≤ p.block) (hw : p.block < w.heap.size) (hB : w.heap.size ≤ B) (hc : w.cell? p = some (.int .u8 z)) : SpoilRel lo B w cs (wr.setCell p (.int .u8 77)) :=
  ⟨h.box.far (by omega) _, h.below.setCell hp _, h.sp.set_u8 h.below.size hc (by obtain ⟨z', h1, _⟩ := h.sp.u8 hw hc; exact ⟨z', h1⟩), h.soft.setCell _ _⟩

set_option maxRecDepth 20000 in
set_option maxHeartbeats 4000000 in
theorem spoil_g {t : Tr} {v : Value} {lo : Nat} {w : World} (h : WTree w lo v t) (hlo : lo ≤ w.heap.size) :
    Calls Tryd.prog 39 #[v] w fun e w' => e = .returned (.tuple #[]) ∧ Below lo w w' ∧ Spoilt w w' ∧ SoftKept w w' := by
  obtain ⟨nv, rfl, hns, hr1, hr2⟩ := h
  obtain ⟨A, c, rfl, hc, hs, _⟩ := hns.at_
  have HNS := Lib.hid hns
  obtain ⟨n, hn⟩ : ∃ n, n = t.nodes.length := ⟨_, rfl⟩
  have HN := Lib.hid hn
  rw [← hn] at hs HNS ⊢
  unfold maxLen at hs
  clear hns hn hc
  go_enter Tryd.func39, Tryd.ntmps39
  go_wp2_with fail
  go_loopw [2] (fun i wr => ∃ k : Nat, k ≤ n ∧ i = .int .i64 k ∧ Hid (SpoilRel lo w.heap.size w #[.slice A n c, .int .i64 t.root] wr)) (fun i _ => n - (intOf i).toNat)
  case atStart => exact ⟨0, Nat.zero_le _, rfl, Lib.hid ⟨Blk.new _ _ _, ((Below.refl _ _).alloc (Nat.le_refl _) _).mono hlo, Spoilt.of_below ((Below.refl _ _).alloc (Nat.le_refl _) _), SoftKept.of_below ((Below.refl _ _).alloc (Nat.le_refl _) _)⟩⟩
  case round =>
    obtain ⟨wo, rfl⟩ : ∃ wo, wo = wr := ⟨_, rfl⟩
    obtain ⟨k, hk, rfl, HR⟩ := hrel
    have d0 : wo.cell? ⟨w.heap.size, 0, none⟩ = some (.slice A n c) := HR.out.box.cell 0
    by_cases hlt : k < n
    · obtain ⟨N, hN⟩ : ∃ N, t.nodes[k]? = some N := ⟨_, List.getElem?_eq_getElem (by rw [← HN.out]; exact hlt)⟩
      obtain ⟨b, off, Ak, ck, rfl, hbS, hki, hdo, c0, -, -, -, -, -, -, -, c8⟩ := (by have := HNS.out; rw [HN.out] at this; exact this : RNodes w _ (.slice A t.nodes.length c) t.nodes).get k N hN
      have hkl : N.kids.length ≤ maxLen := hki.small
      unfold maxLen at hkl
      have hlt' : (k : Int) < (n : Int) := by omega
      have hk0 : (0 : Int) ≤ (k : Int) := by omega
      have HKI := Lib.hid hki
      have HC0 := Lib.hid c0
      have HC8 := Lib.hid c8
      have HBS := Lib.hid hbS
      clear hki hdo hN c0 c8 hbS
      go_wp2_with fail
      go_loopw [3] (fun i wr => ∃ q : Nat, q ≤ N.kids.length ∧ i = .int .i64 q ∧ Hid (SpoilRel lo w.heap.size w #[.slice (some ⟨b, off, none⟩) n c, .int .i64 t.root] wr)) (fun i _ => N.kids.length - (intOf i).toNat)
      case atStart => exact ⟨0, Nat.zero_le _, rfl, HR⟩
      case round =>
        clear d0
        obtain ⟨q, hq, rfl, HI⟩ := hrel
        have d0 : wr.cell? ⟨w.heap.size, 0, none⟩ = some (.slice (some ⟨b, off, none⟩) n c) := HI.out.box.cell 0
        have c8 : wr.cell? ⟨b, off + k * 9 + 8, none⟩ = some (.slice Ak N.kids.length ck) := HI.out.sp.same HBS.out.2.1 HC8.out (fun z e => by cases e) (fun z e => by cases e)
        by_cases hql : q < N.kids.length
        · obtain ⟨z, hz⟩ : ∃ z, N.kids[q]? = some z := ⟨_, List.getElem?_eq_getElem hql⟩
          obtain ⟨bk, ok, rfl, hbk, hkc⟩ := HKI.out.get q z hz
          obtain ⟨z', cq, _⟩ := HI.out.sp.i64 (p := ⟨bk, ok + q, none⟩) hbk.2.1 hkc
          have fq : wr.frozen? ⟨bk, ok + q, none⟩ = false := HI.out.soft bk hbk.2.1 hbk.2.2 _
          have HKC := Lib.hid hkc
          have HBK := Lib.hid hbk
          have hql' : (q : Int) < (N.kids.length : Int) := by omega
          have hq0 : (0 : Int) ≤ (q : Int) := by omega
          clear hz hkc hbk
          go_wp2_with fail
          go_roundw
          case measure => simp [intOf]; omega
          case rel => exact ⟨q + 1, by omega, by go_num, Lib.hid (HI.out.next_i64 HBK.out.1 HBK.out.2.1 (Nat.le_refl _) HKC.out)⟩
        · obtain rfl : q = N.kids.length := by omega
          obtain ⟨z', c0, _⟩ := HI.out.sp.u8 (p := ⟨b, off + k * 9, none⟩) HBS.out.2.1 HC0.out
          have f0 : wr.frozen? ⟨b, off + k * 9, none⟩ = false := HI.out.soft b HBS.out.2.1 HBS.out.2.2 _
          go_wp2_with fail
          go_roundw
          case measure => simp [intOf]; omega
          case rel => exact ⟨k + 1, by omega, by go_num, Lib.hid (HI.out.next_u8 HBS.out.1 HBS.out.2.1 (Nat.le_refl _) HC0.out)⟩
    · go_wp2_with fail
      go_end0
      exact ⟨rfl, HR.out.below, HR.out.sp, HR.out.soft⟩
end Go.Proofs.YtlmlbdmbgfclkaaDoor

/- The contract of Free: the first name of a stem that is not used. Conditions: lengths as Go has them; the library's table lies as laid. -/
import Derived.Test.YthmkmffehbdniaaDoorNmE
import Derived.Lib.SlicesS
namespace Go.Proofs.YthmkmffehbdniaaDoor
open Go.RowKit Go.Shelf
attribute [local go_sem] Oper.semAt_some

theorem cell_of_box_l {W : World} {B : Nat} {v : Value} {t : TypeId} (h : W.heap[B]? = some (.cells #[v] t (0, 0))) : W.cell? ⟨B, 0, none⟩ = some v ∧ W.frozen? ⟨B, 0, none⟩ = false := by
  constructor <;> simp [World.cell?, World.frozen?, h]
theorem cell_new_l (W : World) (v : Value) (t : TypeId) : (W.alloc (.cells #[v] t)).cell? ⟨W.heap.size, 0, none⟩ = some v ∧ (W.alloc (.cells #[v] t)).frozen? ⟨W.heap.size, 0, none⟩ = false :=
  cell_of_box_l (World.alloc_heap_new W _)
theorem cell_alloc_l {W : World} {a : Addr} {v : Value} (o : Obj) (h : W.cell? a = some v) : (W.alloc o).cell? a = some v := cell_kept h (World.grownBy_alloc W o none) (fun r e => by cases e)
theorem frozen_alloc_l {W : World} {a : Addr} {v : Value} (o : Obj) (h : W.cell? a = some v) (hf : W.frozen? a = false) : (W.alloc o).frozen? a = false := (frozen_kept h (World.grownBy_alloc W o none) (fun r e => by cases e)).trans hf

/-- A slice of texts that reads as these, below block B. -/
def RStrs (w : World) (B : Nat) (v : Value) (us : List (List UInt8)) : Prop :=
  ∃ (A : Option Addr) (c : Nat), v = .slice A us.length c ∧ us.length ≤ maxLen ∧ (∀ j, j < us.length → ∃ b off, A = some ⟨b, off, none⟩ ∧ b < B ∧ w.cell? ⟨b, off + j, none⟩ = some (.string ⟨(us.getD j []).toArray⟩))
theorem RStrs.below {w w' : World} {B : Nat} {v : Value} {us : List (List UInt8)} (h : RStrs w B v us) (hb : Below B w w') : RStrs w' B v us := by
  obtain ⟨A, c, hv, hl, hc⟩ := h
  refine ⟨A, c, hv, hl, fun j hj => ?_⟩
  obtain ⟨b, off, hA, hlt, hcell⟩ := hc j hj
  exact ⟨b, off, hA, hlt, (hb.cell (p := ⟨b, off + j, none⟩) hlt).trans hcell⟩
def has (us : List (List UInt8)) (x : List UInt8) : Bool := decide (x ∈ us)

theorem ba_inj {a b : List UInt8} (h : (⟨a.toArray⟩ : ByteArray) = ⟨b.toArray⟩) : a = b := by
  injection h with h; injection h
theorem contains_any {w : World} {B : Nat} {v : Value} {us : List (List UInt8)} (h : RStrs w B v us) (x : List UInt8) :
    Calls Tryd.prog 27 #[v, .string ⟨x.toArray⟩] w fun e w' => e = .returned (.bool (has us x)) ∧ w = w' := by
  obtain ⟨A, c, rfl, hl, hc⟩ := h
  have hmem : Lib.containsS (us.map fun l => (⟨l.toArray⟩ : ByteArray)) ⟨x.toArray⟩ = has us x := by
    rw [Bool.eq_iff_iff, Lib.containsS_iff, has, decide_eq_true_eq, List.mem_map]
    exact ⟨fun ⟨y, hy, e⟩ => by rw [← ba_inj e]; exact hy, fun hx => ⟨x, hx, rfl⟩⟩
  rcases Nat.eq_zero_or_pos us.length with h0 | h0
  · rw [h0]
    refine (Tryd.slices_Contains_string_empty A c ⟨x.toArray⟩ w).mono fun e w' ⟨he, hw⟩ => ⟨?_, hw.symm⟩
    have : us = [] := List.eq_nil_of_length_eq_zero h0
    subst this
    exact he
  · obtain ⟨b, off, rfl, _, _⟩ := hc 0 h0
    refine (Tryd.slices_Contains_string b off us.length c (us.map fun l => (⟨l.toArray⟩ : ByteArray)) ⟨x.toArray⟩ w (by simp) (by unfold maxLen at hl; omega) ?_).mono fun e w' ⟨he, hw⟩ => ⟨?_, hw.symm⟩
    · intro j hj
      have hj' : j < us.length := by simpa using hj
      obtain ⟨b', off', e, _, hcell⟩ := hc j hj'
      injection e with e
      injection e with e1 e2
      rw [e1, e2, hcell]
      simp [hj']
    · rw [he, List.take_of_length_le (by simp), hmem]

/-- What Free tells. -/
def FreeIs (st : List UInt8) (us : List (List UInt8)) (r : List UInt8) : Prop :=
  (∃ k, Tried st (k + 1) ∧ (∀ i, i < k → Nm.tryAt st i ∈ us) ∧ Nm.tryAt st k ∉ us ∧ r = Nm.tryAt st k) ∨
  (∃ k, Tried st k ∧ Nm.may (Nm.tryAt st k) = false ∧ (∀ i, i < k → Nm.tryAt st i ∈ us) ∧ r = [])
def FreePost (st : List UInt8) (us : List (List UInt8)) (w : World) (e : Ending) (w' : World) : Prop :=
  ∃ r, FreeIs st us r ∧ e = .returned (.string ⟨r.toArray⟩) ∧ Below w.heap.size w w'

theorem mem_tries {st : List UInt8} {k : Nat} {us : List (List UInt8)} (h : ∀ y ∈ Nm.tries st k, y ∈ us) : ∀ i, i < k → Nm.tryAt st i ∈ us := fun i hi =>
  h _ (List.mem_map.2 ⟨i, List.mem_range.2 hi, rfl⟩)

theorem tries_last {st : List UInt8} {k : Nat} {p : List (List UInt8)} {x : List UInt8} (h : Nm.tries st k = p ++ [x]) : ∃ m, k = m + 1 ∧ p = Nm.tries st m ∧ x = Nm.tryAt st m := by
  cases k with
  | zero => simp [Nm.tries] at h
  | succ m =>
    rw [Nm.tries_succ] at h
    have h2 := List.append_inj' h rfl
    exact ⟨m, rfl, h2.1.symm, by simpa using h2.2.symm⟩

set_option maxRecDepth 100000 in
set_option maxHeartbeats 2000000 in
theorem free_in (st : List UInt8) (hst : st.length ≤ 4611686018427387904) (v : Value) (us : List (List UInt8)) (w : World) (ht : Tab w) (hus : RStrs w w.heap.size v us) :
    CallsIn Fence.wide 6 Tryd.prog 11 #[.string ⟨st.toArray⟩, v] w (FreePost st us w) := by
  obtain ⟨A, c, hv, hus2⟩ := hus
  have hR : RStrs w w.heap.size v us := ⟨A, c, hv, hus2⟩
  have HR := Lib.hid hR
  have HT := Lib.hid ht
  subst hv
  clear hus2 hR ht
  refine callsIn_of_wp_marks Tryd.func11 rfl trivial ?_ rfl
  simp only [Tryd.ntmps11, List.size_toArray, List.length_cons, List.length_nil, Nat.reduceAdd, Nat.reduceSub, Array.replicate_succ, Array.replicate_zero, List.push_toArray, List.append_toArray, List.nil_append, List.cons_append]
  gi_wp2_with (refine ⟨trivial, ?_⟩; gi_at_call 26; refine (tries_in _ _ _).mono ?_; rintro e w' ⟨rfl, rfl⟩)
  have c0 := cell_new_l w (.slice A us.length c) 22
  have c1 := cell_new_l (w.alloc (.cells #[.slice A us.length c] 22)) (.string ⟨#[]⟩) 9
  have c2 := cell_new_l ((w.alloc (.cells #[.slice A us.length c] 22)).alloc (.cells #[.string ⟨#[]⟩] 9)) (.string ⟨st.toArray⟩) 9
  simp only [World.size_alloc] at c1 c2
  have hB0 : Below w.heap.size w (((w.alloc (.cells #[.slice A us.length c] 22)).alloc (.cells #[.string ⟨#[]⟩] 9)).alloc (.cells #[.string ⟨st.toArray⟩] 9)) := (((Below.refl _ w).alloc (Nat.le_refl _) _).alloc (by simp) _).alloc (by simp; omega) _
  have hT0 := HT.out.below hB0
  have hgl : 1 < w.heap.size := HT.out.2
  refine wpIn_rangeFunc_ownF rfl (by omega) (gf := 33) (lb := #[.pointer (some ⟨w.heap.size + 1 + 1, 0, none⟩)]) rfl trivial (enters_of Tryd.func33 (by kernel_rfl) rfl)
    (tries_stops 5 (by omega) (w.heap.size + 1 + 1) (w.heap.size + 1 + 1 + 1) st hst _ (by omega) (by simp) (by omega) hT0 c2.1) belowK_t (belowK_b (by simp)) (Below.refl _ _) (fun _ => rfl)
    (fun pre W => ((∀ y ∈ pre, y ∈ us) ∧ W.cell? ⟨w.heap.size, 0, none⟩ = some (.slice A us.length c) ∧ W.cell? ⟨w.heap.size + 1, 0, none⟩ = some (.string ⟨#[]⟩) ∧ W.frozen? ⟨w.heap.size + 1, 0, none⟩ = false) ∧ Below w.heap.size w W)
    (fun d pre W => (d = .ret ∧ (∃ p x, pre = p ++ [x] ∧ (∀ y ∈ p, y ∈ us) ∧ x ∉ us ∧ W.cell? ⟨w.heap.size + 1, 0, none⟩ = some (.string ⟨x.toArray⟩))) ∧ Below w.heap.size w W)
    (OwnFrom.and (Own.from (fun s A B row hs hg hr => ⟨hs.1, cell_kept hs.2.1 hg hr, cell_kept hs.2.2.1 hg hr, (frozen_kept hs.2.2.1 hg hr).trans hs.2.2.2⟩) _) (ownFrom_below (Nat.le_refl _) (by simp; omega)))
    (fun c => OwnFrom.and (Own.from (fun s A B row hs hg hr => ⟨hs.1, by obtain ⟨p, x, h1, h2, h3, h4⟩ := hs.2; exact ⟨p, x, h1, h2, h3, cell_kept h4 hg hr⟩⟩) _) (ownFrom_below (Nat.le_refl _) (by simp; omega)))
    ⟨⟨by simp, cell_alloc_l _ (cell_alloc_l _ c0.1), cell_alloc_l _ c1.1, frozen_alloc_l _ c1.1 c1.2⟩, hB0⟩
    (fun x => { tmps := #[.string ⟨st.toArray⟩, .slice A us.length c, undef, .pointer (some ⟨w.heap.size, 0, none⟩), .pointer (some ⟨w.heap.size + 1, 0, none⟩), .string ⟨x.toArray⟩, .string ⟨st.toArray⟩, .func (.func 33) #[] #[.pointer (some ⟨w.heap.size + 1 + 1, 0, none⟩)], .string ⟨x.toArray⟩, undef, undef, undef, undef, undef], defers := [] }) ?assign ?body ?done ?stop
  case assign =>
    intro l x W K hK
    gi_wp2
    exact hK
  case body =>
    rintro l pre x W ⟨⟨hp, hcu, hcr, hfr⟩, hB⟩ _
    have hcon := contains_any (HR.out.below hB) x
    have HCon := Lib.hid hcon
    clear hcon
    cases hx : has us x
    · gi_wp2_with (refine ⟨trivial, ?_⟩; gi_at_call 27; refine (CallsIn.inRound l (callsIn_wide.2 HCon.out)).mono ?_; rintro e w' ⟨rfl, rfl⟩)
      exact ⟨KeepsOthers.setCell _ _ _, ⟨rfl, pre, x, rfl, hp, of_decide_eq_false hx, World.cell?_setCell_same' _ _ _ (by rw [hcr]; rfl)⟩, hB.setCell (p := ⟨w.heap.size + 1, 0, none⟩) (by simp) _⟩
    · gi_wp2_with (refine ⟨trivial, ?_⟩; gi_at_call 27; refine (CallsIn.inRound l (callsIn_wide.2 HCon.out)).mono ?_; rintro e w' ⟨rfl, rfl⟩)
      exact ⟨KeepsOthers.refl _, Below.refl _ _, ⟨fun y hy => (List.mem_append.1 hy).elim (hp y) (fun e => by simp at e; rw [e]; exact of_decide_eq_true hx), hcu, hcr, hfr⟩, hB⟩
  case done =>
    rintro D ys W hD ⟨k, rfl, htr, hk⟩ ⟨⟨hne, _, hcr, hfr⟩, hB⟩ hK
    gi_wp2
    have hK' := (KeepsOthers.setCell W ⟨w.heap.size + 1, 0, none⟩ (.string ⟨#[]⟩)).same D _ hK rfl
    refine ⟨by simp, .inl ⟨_, _, rfl, run_takeDeferred hK', ?_⟩⟩
    have hc5 := cell_kept (World.cell?_setCell_same' W ⟨w.heap.size + 1, 0, none⟩ (.string ⟨#[]⟩) (by rw [hcr]; rfl)) (grownBy_putObj' _ D (.deferred none)) (fun r e => by cases e; exact ⟨_, hK', rfl⟩)
    refine ⟨.string ⟨#[]⟩, ?_, [], .inr ⟨k, htr, hk, mem_tries hne, rfl⟩, rfl, (hB.setCell (p := ⟨w.heap.size + 1, 0, none⟩) (by simp) _).trans (belowK_b (w := w) (Nat.le_refl _) _ D _ _ (by simp at hD; omega) hK' rfl rfl)⟩
    simp [results, Tryd.f11, go_sem, hc5]
  case stop =>
    rintro D c pre W hD ⟨k, rfl, htr⟩ ⟨⟨rfl, p, x, hpx, hp, hx, hcr⟩, hB⟩ hK
    obtain ⟨m, rfl, rfl, rfl⟩ := tries_last hpx
    gi_wp2
    refine ⟨by simp, .inl ⟨_, _, rfl, run_takeDeferred hK, ?_⟩⟩
    have hc5 := cell_kept hcr (grownBy_putObj' _ D (.deferred none)) (fun r e => by cases e; exact ⟨_, hK, rfl⟩)
    refine ⟨.string ⟨(Nm.tryAt st m).toArray⟩, ?_, Nm.tryAt st m, .inl ⟨m, htr, mem_tries hp, hx, rfl⟩, rfl, hB.trans (belowK_b (w := w) (Nat.le_refl _) W D _ _ (by simp at hD; omega) hK rfl rfl)⟩
    simp [results, Tryd.f11, go_sem, hc5]

theorem free_any (st : List UInt8) (hst : st.length ≤ 4611686018427387904) (v : Value) (us : List (List UInt8)) (w : World) (ht : Tab w) (hus : RStrs w w.heap.size v us) :
    Calls Tryd.prog 11 #[.string ⟨st.toArray⟩, v] w (FreePost st us w) := callsIn_wide.1 (free_in st hst v us w ht hus)
end Go.Proofs.YthmkmffehbdniaaDoor

/- The ghost of a region that makes boxes, fills them, and calls: which box holds what. No program in sight. -/
import Derived.Test.YtlmlbdmbgfclkaaDoorRegInv
import Derived.Test.YtlmlbdmbgfclkaaDoorOwn
namespace Go.Proofs.YtlmlbdmbgfclkaaDoor
open Go.RowKit

inductive BoxKind
  | box
  | store (k : Nat)
  | other
deriving DecidableEq
/-- By the number of the operation that makes it: a box's block, and what it was filled with. -/
abbrev BG := Nat → Option (Nat × Option (Array Value))
def BG.none_ : BG := fun _ => none
def BG.upd (γ : BG) (i : Nat) (x : Nat × Option (Array Value)) : BG := fun j => if j = i then some x else γ j
/-- Operation i is still to come. -/
def BN (kinds : List BoxKind) (i : Nat) (γ : BG) : Prop :=
  match kinds.getD i .other with
  | .box => γ i = none
  | .store k => ∀ g c, γ k ≠ some (g, some c)
  | .other => True
theorem BN.none_ (kinds : List BoxKind) (i : Nat) : BN kinds i BG.none_ := by
  unfold BN
  cases kinds.getD i .other <;> simp [BG.none_]
structure BoxOK (T : Nat → TypeId) (Z : Nat → Array Value) (s : BG × World) : Prop where
  full : ∀ i g c, s.1 i = some (g, some c) → Blk s.2 g (T i) c
  blank : ∀ i g, s.1 i = some (g, none) → Blk s.2 g (T i) (Z i)
  inj : ∀ i j g c c', s.1 i = some (g, c) → s.1 j = some (g, c') → i = j
theorem BoxOK.lt {T : Nat → TypeId} {Z : Nat → Array Value} {s : BG × World} (h : BoxOK T Z s) {i g : Nat} {c : Option (Array Value)} (hi : s.1 i = some (g, c)) : g < s.2.heap.size := by
  cases c with
  | none => exact (h.blank i g hi).lt
  | some c => exact (h.full i g c hi).lt
structure BE (T : Nat → TypeId) (Z : Nat → Array Value) (s s' : BG × World) : Prop where
  os : s'.2.os = s.2.os
  tape : s'.2.tape = s.2.tape
  output : s'.2.output = s.2.output
  size : s.2.heap.size ≤ s'.2.heap.size
  same : ∀ b, b < s.2.heap.size → (∀ i c, s.1 i ≠ some (b, c)) → s'.2.heap[b]? = s.2.heap[b]?
  grow : ∀ i g c, s.1 i = some (g, c) → ∃ c', s'.1 i = some (g, c') ∧ ∀ x, c = some x → c' = some x
  fresh : ∀ i g c, s'.1 i = some (g, c) → s.1 i = none → s.2.heap.size ≤ g
  ok : BoxOK T Z s → BoxOK T Z s'
section
variable {T : Nat → TypeId} {Z : Nat → Array Value} {γ : BG} {w w' : World}
theorem BE.refl (s : BG × World) : BE T Z s s := ⟨rfl, rfl, rfl, Nat.le_refl _, fun _ _ _ => rfl, fun i g c h => ⟨c, h, fun _ h => h⟩, fun i g c h h' => (by rw [h'] at h; cases h), fun h => h⟩
theorem BE.notBox {s s' : BG × World} (h : BE T Z s s') {b : Nat} (hb : b < s.2.heap.size) (hn : ∀ i c, s.1 i ≠ some (b, c)) : ∀ i c, s'.1 i ≠ some (b, c) := by
  intro i c hi
  cases hs : s.1 i with
  | none => have := h.fresh i b c hi hs; omega
  | some x =>
    obtain ⟨g, c0⟩ := x
    obtain ⟨c', hc', _⟩ := h.grow i g c0 hs
    rw [hc'] at hi
    injection hi with hi
    injection hi with hi _
    subst hi
    exact hn i c0 hs
theorem BE.trans {s s' s'' : BG × World} (h : BE T Z s s') (k : BE T Z s' s'') : BE T Z s s'' where
  os := k.os.trans h.os
  tape := k.tape.trans h.tape
  output := k.output.trans h.output
  size := Nat.le_trans h.size k.size
  same := fun b hb hn => (k.same b (Nat.lt_of_lt_of_le hb h.size) (h.notBox hb hn)).trans (h.same b hb hn)
  grow := fun i g c hi => by
    obtain ⟨c', h1, h2⟩ := h.grow i g c hi
    obtain ⟨c'', h3, h4⟩ := k.grow i g c' h1
    exact ⟨c'', h3, fun x hx => h4 x (h2 x hx)⟩
  fresh := fun i g c hi hn => by
    cases hs : s'.1 i with
    | none => have := k.fresh i g c hi hs; have := h.size; omega
    | some x =>
      obtain ⟨g', c0⟩ := x
      have h1 := h.fresh i g' c0 hs hn
      obtain ⟨c', hc', _⟩ := k.grow i g' c0 hs
      rw [hc'] at hi
      injection hi with hi
      injection hi with hi _
      omega
  ok := fun h0 => k.ok (h.ok h0)
theorem BE.call (hb : Below w.heap.size w w') : BE T Z (γ, w) (γ, w') where
  os := hb.os
  tape := hb.tape
  output := hb.output
  size := hb.size
  same := fun b hlt _ => hb.block b hlt
  grow := fun i g c h => ⟨c, h, fun _ h => h⟩
  fresh := fun i g c h h' => by simp only at h h'; rw [h'] at h; cases h
  ok := fun h => ⟨fun i g c hi => (h.full i g c hi).below hb (h.full i g c hi).lt, fun i g hi => (h.blank i g hi).below hb (h.blank i g hi).lt, h.inj⟩
theorem BE.alloc {i : Nat} (hi : γ i = none) : BE T Z (γ, w) (γ.upd i (w.heap.size, none), w.alloc (.cells (Z i) (T i))) where
  os := rfl
  tape := rfl
  output := rfl
  size := by simp
  same := fun b hlt _ => Below.heap_alloc w _ b hlt
  grow := fun j g c h => by
    have hji : j ≠ i := fun e => by subst e; simp only at h; rw [hi] at h; cases h
    exact ⟨c, by simp only [BG.upd, if_neg hji]; exact h, fun _ h => h⟩
  fresh := fun j g c h h' => by
    simp only [BG.upd] at h h'
    by_cases e : j = i
    · rw [if_pos e] at h; injection h with h; injection h with h _; exact Nat.le_of_eq h
    · rw [if_neg e, h'] at h; cases h
  ok := fun h => by
    refine ⟨fun j g c hj => ?_, fun j g hj => ?_, fun j k g c c' hj hk => ?_⟩
    · simp only [BG.upd] at hj
      by_cases e : j = i
      · rw [if_pos e] at hj; simp at hj
      · rw [if_neg e] at hj; exact (h.full j g c hj).alloc _
    · simp only [BG.upd] at hj
      by_cases e : j = i
      · rw [if_pos e] at hj; simp at hj; subst hj; subst e; exact Blk.new _ _ _
      · rw [if_neg e] at hj; exact (h.blank j g hj).alloc _
    · simp only [BG.upd] at hj hk
      by_cases e : j = i <;> by_cases e2 : k = i
      · rw [e, e2]
      · rw [if_pos e] at hj; rw [if_neg e2] at hk
        have h1 := h.lt hk
        injection hj with hj; injection hj with hj _; simp only at h1; omega
      · rw [if_neg e] at hj; rw [if_pos e2] at hk
        have h1 := h.lt hj
        injection hk with hk; injection hk with hk _; simp only at h1; omega
      · rw [if_neg e] at hj; rw [if_neg e2] at hk; exact h.inj j k g c c' hj hk
theorem BE.store {i g : Nat} {c : Array Value} (hi : γ i = some (g, none)) (hw : w.grownBy w' (some g)) (hb : Blk w' g (T i) c) : BE T Z (γ, w) (γ.upd i (g, some c), w') where
  os := hw.os
  tape := hw.tape
  output := hw.output
  size := hw.size
  same := fun b hlt hn => hw.block b hlt (fun e => by
    injection e with e
    subst e
    exact hn i none hi)
  grow := fun j g' c' h => by
    simp only at h
    by_cases e : j = i
    · subst e
      rw [hi] at h
      injection h with h
      injection h with h1 h2
      subst h1; subst h2
      exact ⟨some c, by simp [BG.upd], fun x hx => by cases hx⟩
    · exact ⟨c', by simp only [BG.upd, if_neg e]; exact h, fun _ h => h⟩
  fresh := fun j g' c' h h' => by
    simp only [BG.upd] at h h'
    by_cases e : j = i
    · subst e; rw [hi] at h'; cases h'
    · rw [if_neg e, h'] at h; cases h
  ok := fun h => by
    have hne : ∀ j g' c', j ≠ i → γ j = some (g', c') → some g' ≠ some g := fun j g' c' e hj e2 => by
      injection e2 with e2
      subst e2
      exact e (h.inj j i g' c' none hj hi)
    refine ⟨fun j g' c' hj => ?_, fun j g' hj => ?_, fun j k g' c1 c2 hj hk => ?_⟩
    · simp only [BG.upd] at hj
      by_cases e : j = i
      · rw [if_pos e] at hj; simp at hj; obtain ⟨h1, h2⟩ := hj; subst h1; subst h2; subst e; exact hb
      · rw [if_neg e] at hj; exact (h.full j g' c' hj).grown hw (hne j g' _ e hj)
    · simp only [BG.upd] at hj
      by_cases e : j = i
      · rw [if_pos e] at hj; simp at hj
      · rw [if_neg e] at hj; exact (h.blank j g' hj).grown hw (hne j g' _ e hj)
    · simp only [BG.upd] at hj hk
      by_cases e : j = i <;> by_cases e2 : k = i
      · rw [e, e2]
      · rw [if_pos e] at hj; rw [if_neg e2] at hk
        injection hj with hj; injection hj with hj _; subst hj
        exact (hne k _ _ e2 hk rfl).elim
      · rw [if_neg e] at hj; rw [if_pos e2] at hk
        injection hk with hk; injection hk with hk _; subst hk
        exact (hne j _ _ e hj rfl).elim
      · rw [if_neg e] at hj; rw [if_neg e2] at hk; exact h.inj j k g' c1 c2 hj hk
theorem BE.below {w0 : World} (h : BE T Z (BG.none_, w0) (γ, w)) : Below w0.heap.size w0 w := ⟨h.os, h.tape, h.output, h.size, fun b hb => h.same b hb fun i c e => by simp [BG.none_] at e⟩
theorem BE.boxes {w0 : World} (h : BE T Z (BG.none_, w0) (γ, w)) : BoxOK T Z (γ, w) := h.ok ⟨fun i g c h => by simp [BG.none_] at h, fun i g h => by simp [BG.none_] at h, fun i j g c c' h => by simp [BG.none_] at h⟩
theorem BN.alloc {kinds : List BoxKind} {i g : Nat} : ∀ j, j ≠ i → BN kinds j γ → BN kinds j (γ.upd i (g, none)) := by
  intro j hj h
  unfold BN at h ⊢
  cases hk : kinds.getD j .other with
  | box => simp only [hk] at h ⊢; simp only [BG.upd, if_neg hj]; exact h
  | store k =>
    simp only [hk] at h ⊢
    intro g' c e
    simp only [BG.upd] at e
    by_cases e2 : k = i
    · rw [if_pos e2] at e; simp at e
    · rw [if_neg e2] at e; exact h g' c e
  | other => simp
def onlyStore (kinds : List BoxKind) (s i : Nat) : Bool := (List.range kinds.length).all fun j => j == s || kinds.getD j .other != .store i
theorem BN.store {kinds : List BoxKind} {s i g : Nat} {c : Array Value} (hi : γ i = some (g, none)) (hs : onlyStore kinds s i = true) : ∀ j, j ≠ s → BN kinds j γ → BN kinds j (γ.upd i (g, some c)) := by
  intro j hj h
  unfold BN at h ⊢
  cases hk : kinds.getD j .other with
  | box =>
    simp only [hk] at h ⊢
    have hji : j ≠ i := fun e => by subst e; rw [hi] at h; cases h
    simp only [BG.upd, if_neg hji]; exact h
  | store k =>
    simp only [hk] at h ⊢
    intro g' c' e
    simp only [BG.upd] at e
    by_cases e2 : k = i
    · subst e2
      have hjl : j < kinds.length := by
        rcases Nat.lt_or_ge j kinds.length with h1 | h1
        · exact h1
        · simp [List.getD, List.getElem?_eq_none h1] at hk
      have := List.all_eq_true.1 hs j (List.mem_range.2 hjl)
      rw [hk] at this
      simp at this
      exact hj this
    · rw [if_neg e2] at e; exact h g' c' e
  | other => simp
/-- What is known of a box: a pointer to it. -/
def RBox (i : Nat) : Value → BG × World → Prop := fun v s => ∃ g c, v = .pointer (some ⟨g, 0, none⟩) ∧ s.1 i = some (g, c)
theorem RBox.keep {i : Nat} {v : Value} {s s' : BG × World} (h : BE T Z s s') (hr : RBox i v s) : RBox i v s' := by
  obtain ⟨g, c, hv, hc⟩ := hr
  obtain ⟨c', hc', _⟩ := h.grow i g c hc
  exact ⟨g, c', hv, hc'⟩
/-- What reads in blocks that are no boxes. -/
def RFree (R : World → (Nat → Prop) → Value → Prop) : Value → BG × World → Prop := fun v s => ∃ S, R s.2 S v ∧ ∀ b, S b → b < s.2.heap.size ∧ ∀ i c, s.1 i ≠ some (b, c)
theorem RFree.keep {R : World → (Nat → Prop) → Value → Prop} (hk : ∀ {w w' : World} {S : Nat → Prop} {v : Value}, R w S v → (∀ p : Addr, S p.block → w'.cell? p = w.cell? p) → R w' S v) {v : Value} {s s' : BG × World} (h : BE T Z s s') (hr : RFree R v s) : RFree R v s' := by
  obtain ⟨S, h1, h2⟩ := hr
  refine ⟨S, hk h1 fun p hp => ?_, fun b hb => ⟨Nat.lt_of_lt_of_le (h2 b hb).1 h.size, h.notBox (h2 b hb).1 (h2 b hb).2⟩⟩
  unfold World.cell?
  rw [h.same _ (h2 _ hp).1 (h2 _ hp).2]
/-- What is known of the operation that fills a box. -/
def RFill (i : Nat) (F : Array Value → BG × World → Prop) : Value → BG × World → Prop := fun _ s => ∃ g c, s.1 i = some (g, some c) ∧ F c s
theorem RFill.keep {i : Nat} {F : Array Value → BG × World → Prop} (hF : ∀ c s s', BE T Z s s' → F c s → F c s') {v : Value} {s s' : BG × World} (h : BE T Z s s') (hr : RFill i F v s) : RFill i F v s' := by
  obtain ⟨g, c, hc, hf⟩ := hr
  obtain ⟨c', hc', hx⟩ := h.grow i g _ hc
  rw [hx c rfl] at hc'
  exact ⟨g, c, hc', hF c s s' h hf⟩
end
end Go.Proofs.YtlmlbdmbgfclkaaDoor

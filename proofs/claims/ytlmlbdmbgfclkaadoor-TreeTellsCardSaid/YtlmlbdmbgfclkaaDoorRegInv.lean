/- A region whose order is drawn, by what each operation yields: one step for each operation, whatever the order. No program in sight. -/
import Derived.RegionTactic
import Derived.WalkKit
import Derived.Below
namespace Go.Proofs.YtlmlbdmbgfclkaaDoor
set_option linter.unusedSimpArgs false
open Go.RowKit

section
variable {P : Program} {ops : Array Oper} {Q : Exit → Act → World → Prop} {md : Region.Mode} {G : Type}

/-- Which slot operation i writes. -/
def slotOf (ops : Array Oper) (i : Nat) : Option Tmp := (ops[i]?).bind (·.dst)
/-- What is known of operation i, once it has come up: R of what stands in its slot. -/
def Known (ops : Array Oper) (Rs : List (Value → G × World → Prop)) (a : Act) (w : G × World) (i : Nat) : Prop :=
  match slotOf ops i with
  | some d => ∃ v, a.tmps[d]? = some v ∧ (Rs.getD i fun _ _ => True) v w
  | none => ∃ v, (Rs.getD i fun _ _ => True) v w
/-- Those that an operation waits for. -/
def waits (md : Region.Mode) (o : Oper) : List Nat := (o.after.toList.filter fun e => Region.binds md e).map (·.on)
def AllL (p : Nat → Prop) : List Nat → Prop
  | [] => True
  | x :: xs => p x ∧ AllL p xs
theorem AllL.of {p : Nat → Prop} : ∀ {l : List Nat}, (∀ x ∈ l, p x) → AllL p l
  | [], _ => trivial
  | x :: xs, h => ⟨h x (by simp), AllL.of fun y hy => h y (by simp [hy])⟩
theorem AllL.at_ {p : Nat → Prop} : ∀ {l : List Nat}, AllL p l → ∀ x ∈ l, p x
  | _ :: _, h, x, hx => by
    rcases List.mem_cons.1 hx with rfl | hx
    · exact h.1
    · exact AllL.at_ h.2 x hx
/-- The slots that the region writes. -/
def slotsOf (ops : Array Oper) : List Tmp := ops.toList.filterMap (·.dst)
/-- What stands in a frame beside the region's slots. -/
structure Beside (ops : Array Oper) (a0 a : Act) : Prop where
  size : a.tmps.size = a0.tmps.size
  defers : a.defers = a0.defers
  at_ : ∀ d, d ∉ slotsOf ops → a.tmps[d]? = a0.tmps[d]?
theorem Beside.refl (ops : Array Oper) (a : Act) : Beside ops a a := ⟨rfl, rfl, fun _ _ => rfl⟩
theorem slotOf_mem {i : Nat} {d : Tmp} (h : slotOf ops i = some d) : d ∈ slotsOf ops := by
  unfold slotOf at h
  unfold slotsOf
  cases ho : ops[i]? with
  | none => rw [ho] at h; cases h
  | some o =>
    rw [ho] at h
    exact List.mem_filterMap.2 ⟨o, Array.mem_toList_iff.2 (Array.mem_of_getElem? ho), h⟩
theorem Beside.put {a0 a : Act} {i : Nat} {v : Value} (h : Beside ops a0 a) : Beside ops a0 (a.put (slotOf ops i) v) := by
  cases hd : slotOf ops i with
  | none => exact h
  | some d =>
    refine ⟨?_, h.defers, fun d' hd' => ?_⟩
    · simp [Act.put, h.size]
    · have hne : d ≠ d' := fun e => hd' (e ▸ slotOf_mem hd)
      simp only [Act.put]
      rw [Array.getElem?_setIfInBounds_ne hne]
      exact h.at_ d' hd'
/-- No two operations write one slot, and each slot is there. -/
def slotsApart (ops : Array Oper) (n : Nat) : Bool := decide ((slotsOf ops).Nodup) && (slotsOf ops).all (· < n)
theorem nodup_slots {l : List Oper} (h : (l.filterMap (·.dst)).Nodup) : ∀ (i j : Nat) (oi oj : Oper) (d : Tmp), l[i]? = some oi → l[j]? = some oj → oi.dst = some d → oj.dst = some d → i = j := by
  induction l with
  | nil => intro i j oi oj d hi; simp at hi
  | cons o l ih =>
    intro i j oi oj d hi hj di dj
    have htail : (l.filterMap (·.dst)).Nodup := by
      cases ho : o.dst with
      | none => simpa [List.filterMap_cons, ho] using h
      | some x => simp [List.filterMap_cons, ho] at h; exact h.2
    have hhead : ∀ (k : Nat) (ok : Oper), l[k]? = some ok → o.dst = some d → ok.dst = some d → False := fun k ok hk h1 h2 => by
      simp [List.filterMap_cons, h1] at h
      exact h.1 ok (List.mem_of_getElem? hk) h2
    rcases i with _ | i <;> rcases j with _ | j
    · rfl
    · simp at hi hj; subst hi; exact (hhead j oj hj di dj).elim
    · simp at hi hj; subst hj; exact (hhead i oi hi dj di).elim
    · simp at hi hj; rw [ih htail i j oi oj d hi hj di dj]
theorem slots_ne {n : Nat} (hs : slotsApart ops n = true) {i j : Nat} {d : Tmp} (hij : i ≠ j) (hi : slotOf ops i = some d) : slotOf ops j ≠ some d := by
  intro hj
  unfold slotsApart at hs
  simp only [Bool.and_eq_true, decide_eq_true_eq] at hs
  unfold slotOf at hi hj
  cases ho : ops[i]? with
  | none => rw [ho] at hi; cases hi
  | some oi =>
    cases ho' : ops[j]? with
    | none => rw [ho'] at hj; cases hj
    | some oj =>
      rw [ho] at hi; rw [ho'] at hj
      exact hij (nodup_slots hs.1 i j oi oj d (by simpa using ho) (by simpa using ho') hi hj)

/-- The step of operation i: from any frame, ghost and world in which those that it waits for have yielded what is known of them, and that i is still to come (N), it yields what is said of it. -/
def StepOK (P : Program) (md : Region.Mode) (ops : Array Oper) (Q : Exit → Act → World → Prop) (E : G × World → G × World → Prop) (N : Nat → G → Prop) (Rs : List (Value → G × World → Prop)) (a0 : Act) (s0 : G × World) (i : Nat) : Prop :=
  ∀ (o : Oper) (a : Act) (g : G) (w : World), ops[i]? = some o → Beside ops a0 a → E s0 (g, w) → N i g → AllL (Known ops Rs a (g, w)) (waits md o) →
    ∀ K : Act → World → Prop, (∀ v g' w', E (g, w) (g', w') → (∀ j, j ≠ i → N j g → N j g') → (Rs.getD i fun _ _ => True) v (g', w') → K (a.put o.dst v) w') →
      if Region.wanted o (yielded ops a.tmps) = true then Oper.wp P o a w K Q else K (a.put o.dst undef) w

/-- Edges lead back. -/
def backward (md : Region.Mode) (ops : Array Oper) : Bool :=
  (List.range ops.size).all fun i => match ops[i]? with
    | some o => (waits md o).all (· < i)
    | none => true
theorem countP_drop {l : List Nat} (hn : l.Nodup) {i : Nat} (hi : i ∈ l) {p p' : Nat → Bool} (h1 : p i = true) (h2 : p' i = false) (h3 : ∀ j, j ≠ i → p' j = p j) : l.countP p' + 1 = l.countP p := by
  induction l with
  | nil => cases hi
  | cons x l ih =>
    rw [List.nodup_cons] at hn
    rcases List.mem_cons.1 hi with rfl | hi
    · have : l.countP p' = l.countP p := List.countP_congr fun j hj => by
        rw [h3 j (fun e => hn.1 (e ▸ hj))]
      simp [List.countP_cons, h1, h2, this]
    · have hne : x ≠ i := fun e => hn.1 (e ▸ hi)
      have := ih hn.2 hi
      simp only [List.countP_cons, h3 x hne]
      omega
def left (ops : Array Oper) (listed : Array Bool) : Nat := (List.range ops.size).countP fun i => !(listed.getD i false)
theorem listed_getD {listed : Array Bool} {n i : Nat} (hl : listed.size = n) (hi : i < n) (b b' : Bool) : listed.getD i b = listed.getD i b' := by
  have : i < listed.size := by omega
  simp [this]
theorem all_listed (hb : backward md ops = true) {listed : Array Bool} (hl : listed.size = ops.size) (hr : Region.ready md ops listed = []) : ∀ i, i < ops.size → listed.getD i false = true := by
  intro i
  induction i using Nat.strongRecOn with
  | _ i ih =>
    intro hi
    cases hc : listed.getD i false with
    | true => rfl
    | false =>
      have ho : ops[i]? = some ops[i] := Array.getElem?_eq_getElem hi
      have hall := List.all_eq_true.1 hb i (List.mem_range.2 hi)
      simp only [ho] at hall
      have hm : i ∈ Region.ready md ops listed := mem_ready.2 ⟨by rw [listed_getD hl hi true false]; exact hc, _, ho, fun e he hbd => by
        have hw : e.on ∈ waits md ops[i] := List.mem_map.2 ⟨e, List.mem_filter.2 ⟨Array.mem_toList_iff.2 he, hbd⟩, rfl⟩
        have hlt : e.on < i := by simpa using List.all_eq_true.1 hall _ hw
        exact ih _ hlt (by omega)⟩
      rw [hr] at hm; cases hm
theorem wpAny_inv {E : G × World → G × World → Prop} {N : Nat → G → Prop} {Rs : List (Value → G × World → Prop)} {a0 : Act} {w0 : G × World} (hE : ∀ a b c, E a b → E b c → E a c) (hs : slotsApart ops a0.tmps.size = true) (hb : backward md ops = true)
    (hst : ∀ R ∈ Rs, ∀ v w w', E w0 w → E w w' → R v w → R v w') (hstep : ∀ i, i < ops.size → StepOK P md ops Q E N Rs a0 w0 i)
    (hend : ∀ a g w, Beside ops a0 a → E w0 (g, w) → (∀ i, i < ops.size → Known ops Rs a (g, w) i) → Q .normal a w) :
    ∀ (fuel : Nat) (listed : Array Bool) (a : Act) (g : G) (w : World), listed.size = ops.size → left ops listed ≤ fuel →
      Beside ops a0 a → E w0 (g, w) → (∀ i, i < ops.size → listed.getD i false = false → N i g) → (∀ i, i < ops.size → listed.getD i false = true → Known ops Rs a (g, w) i) → wpAny P md ops Q fuel listed a w := by
  intro fuel
  induction fuel with
  | zero =>
    intro listed a g w hl hlf hB hw hN hK
    have hall : ∀ i, i < ops.size → listed.getD i false = true := by
      intro i hi
      unfold left at hlf
      have h0 := List.countP_eq_zero.1 (Nat.le_zero.1 hlf) i (List.mem_range.2 hi)
      simpa using h0
    refine ⟨?_, hend a g w hB hw fun i hi => hK i hi (hall i hi)⟩
    refine List.eq_nil_iff_forall_not_mem.2 fun i hi => ?_
    obtain ⟨h1, o, ho, _⟩ := mem_ready.1 hi
    have hi' : i < ops.size := (Array.getElem?_eq_some_iff.1 ho).1
    rw [listed_getD hl hi' true false, hall i hi'] at h1
    cases h1
  | succ fuel ih =>
    intro listed a g w hl hlf hB hw hN hK
    refine ⟨fun hr => hend a g w hB hw fun i hi => hK i hi (all_listed hb hl hr i hi), fun i hi => ?_⟩
    obtain ⟨h1, o, ho, hdeps⟩ := mem_ready.1 hi
    have hi' : i < ops.size := (Array.getElem?_eq_some_iff.1 ho).1
    have hslot : slotOf ops i = o.dst := by unfold slotOf; rw [ho]; rfl
    refine wpOp_step ho fun K' hK' => hstep i hi' o a g w ho hB hw (hN i hi' (by rw [← listed_getD hl hi' true false]; exact h1)) (AllL.of fun j hj => ?_) K' fun v g' w' hE' hN' hR => hK' _ _ ?_
    · obtain ⟨e, he, rfl⟩ := List.mem_map.1 hj
      obtain ⟨he1, he2⟩ := List.mem_filter.1 he
      have hlj := hdeps e (Array.mem_toList_iff.1 he1) he2
      have hj' : e.on < ops.size := by
        rcases Nat.lt_or_ge e.on ops.size with h | h
        · exact h
        · rw [Array.getD_eq_getD_getElem?, Array.getElem?_eq_none (by omega)] at hlj; cases hlj
      exact hK _ hj' hlj
    · refine ih _ _ g' _ (by simp [hl]) ?_ (hslot ▸ hB.put) (hE _ _ _ hw hE') (fun j hj hlj => ?_) fun j hj hlj => ?_
      · unfold left at hlf ⊢
        have h2 : listed.getD i false = false := by rw [← listed_getD hl hi' true false]; exact h1
        have := countP_drop (l := List.range ops.size) List.nodup_range (i := i) (List.mem_range.2 hi') (p := fun i => !(listed.getD i false)) (p' := fun j => !((listed.setIfInBounds i true).getD j false)) (by simp only [h2]; rfl)
          (by have : i < listed.size := by omega
              simp [this]) (fun j hj => by simp only [getD_set_ne false (Ne.symm hj)])
        omega
      · have hji : j ≠ i := fun e => by
          subst e
          have : j < listed.size := by omega
          simp [this] at hlj
        exact hN' j hji (hN j hj (by rwa [getD_set_ne false (Ne.symm hji)] at hlj))
      · by_cases hji : j = i
        · subst hji
          unfold Known
          rw [hslot]
          cases hd : o.dst with
          | none => exact ⟨v, hR⟩
          | some d =>
            refine ⟨v, ?_, hR⟩
            have hdm : d ∈ slotsOf ops := slotOf_mem (hslot.trans hd)
            have hlt : d < a.tmps.size := by
              unfold slotsApart at hs
              simp only [Bool.and_eq_true, decide_eq_true_eq] at hs
              have := List.all_eq_true.1 hs.2 d hdm
              rw [hB.size]; simpa using this
            simp [Act.put, hlt]
        · have hlj' : listed.getD j false = true := by rwa [getD_set_ne false (Ne.symm hji)] at hlj
          have hk := hK j hj hlj'
          have hst' : ∀ v, (Rs.getD j fun _ _ => True) v (g, w) → (Rs.getD j fun _ _ => True) v (g', w') := by
            intro v hv
            cases hR : Rs[j]? with
            | none => simp [List.getD, hR]
            | some R =>
              simp only [List.getD, hR, Option.getD_some] at hv ⊢
              exact hst R (List.mem_of_getElem? hR) v _ _ hw hE' hv
          unfold Known at hk ⊢
          cases hd : slotOf ops j with
          | none => rw [hd] at hk; exact hk.imp fun v hv => hst' v hv
          | some d =>
            rw [hd] at hk
            obtain ⟨u, hu, hv⟩ := hk
            refine ⟨u, ?_, hst' u hv⟩
            cases hd2 : o.dst with
            | none => exact hu
            | some d2 =>
              have hne : d2 ≠ d := fun e => slots_ne hs (Ne.symm hji) (hslot.trans hd2) (by rw [e]; exact hd)
              simp only [Act.put]
              rw [Array.getElem?_setIfInBounds_ne hne]
              exact hu
/-- The same step, of an operation that is at hand. -/
def StepAt (P : Program) (md : Region.Mode) (ops : Array Oper) (Q : Exit → Act → World → Prop) (E : G × World → G × World → Prop) (N : Nat → G → Prop) (Rs : List (Value → G × World → Prop)) (a0 : Act) (s0 : G × World) (i : Nat) (o : Oper) : Prop :=
  ∀ (a : Act) (g : G) (w : World), Beside ops a0 a → E s0 (g, w) → N i g → AllL (Known ops Rs a (g, w)) (waits md o) →
    ∀ K : Act → World → Prop, (∀ v g' w', E (g, w) (g', w') → (∀ j, j ≠ i → N j g → N j g') → (Rs.getD i fun _ _ => True) v (g', w') → K (a.put o.dst v) w') →
      if Region.wanted o (yielded ops a.tmps) = true then Oper.wp P o a w K Q else K (a.put o.dst undef) w
def AllOps (p : Nat → Oper → Prop) : Nat → List Oper → Prop
  | _, [] => True
  | i, o :: l => p i o ∧ AllOps p (i + 1) l
theorem AllOps.at_ {p : Nat → Oper → Prop} : ∀ {l : List Oper} {k : Nat}, AllOps p k l → ∀ (i : Nat) (o : Oper), l[i]? = some o → p (k + i) o
  | [], _, _, i, o, h => by simp at h
  | x :: l, k, h, 0, o, ho => by simp at ho; subst ho; exact h.1
  | x :: l, k, h, i + 1, o, ho => by
    have := AllOps.at_ h.2 i o (by simpa using ho)
    rwa [Nat.add_assoc, Nat.add_comm 1 i] at this
/-- A region whose order is drawn, by what each operation yields. -/
theorem wp_region_inv {id : Nat} {a : Act} {w : World} (g0 : G) (E : G × World → G × World → Prop) (N : Nat → G → Prop) (Rs : List (Value → G × World → Prop)) (hm : P.follows .mixedOrders = true) (hE : ∀ a b c, E a b → E b c → E a c) (hE0 : E (g0, w.drew) (g0, w.drew))
    (hs : slotsApart ops a.tmps.size = true) (hb : backward .any ops = true) (hN : ∀ i, N i g0) (hst : ∀ R ∈ Rs, ∀ v w1 w', E (g0, w.drew) w1 → E w1 w' → R v w1 → R v w')
    (hstep : AllOps (StepAt P .any ops Q E N Rs a (g0, w.drew)) 0 ops.toList) (hend : ∀ a' g' w', Beside ops a a' → E (g0, w.drew) (g', w') → (∀ i, i < ops.size → Known ops Rs a' (g', w') i) → Q .normal a' w') :
    (Code.region id ops true).wp P Q a w :=
  wp_region_any hm (wpAny_inv hE hs hb hst (fun i hi o a g w ho => by
    have := hstep.at_ i o (by simpa using ho)
    rw [Nat.zero_add] at this
    exact this a g w) hend _ _ _ g0 _ (by simp)
    (by unfold left; exact Nat.le_trans List.countP_le_length (by simp)) (Beside.refl _ _) hE0 (fun i _ _ => hN i) fun i hi hl => by
      rw [Array.getD_eq_getD_getElem?, Array.getElem?_replicate] at hl
      simp [hi] at hl)
/-- The frame behind the region: what stood there, and what has been yielded. -/
def putAll (a : Act) (vs : List (Tmp × Value)) : Act := { a with tmps := vs.foldl (fun t x => t.setIfInBounds x.1 x.2) a.tmps }
theorem foldl_size (vs : List (Tmp × Value)) (t : Array Value) : (vs.foldl (fun t x => t.setIfInBounds x.1 x.2) t).size = t.size := by
  induction vs generalizing t with
  | nil => rfl
  | cons x vs ih => simp only [List.foldl_cons, ih, Array.size_setIfInBounds]
theorem foldl_other (vs : List (Tmp × Value)) (t : Array Value) (d : Tmp) (h : d ∉ vs.map (·.1)) : (vs.foldl (fun t x => t.setIfInBounds x.1 x.2) t)[d]? = t[d]? := by
  induction vs generalizing t with
  | nil => rfl
  | cons x vs ih =>
    simp only [List.map_cons, List.mem_cons, not_or] at h
    simp only [List.foldl_cons, ih _ h.2]
    exact Array.getElem?_setIfInBounds_ne (Ne.symm h.1)
theorem foldl_at (vs : List (Tmp × Value)) (t : Array Value) (d : Tmp) (v : Value) (hn : (vs.map (·.1)).Nodup) (h : (d, v) ∈ vs) (hd : d < t.size) : (vs.foldl (fun t x => t.setIfInBounds x.1 x.2) t)[d]? = some v := by
  induction vs generalizing t with
  | nil => cases h
  | cons x vs ih =>
    simp only [List.map_cons, List.nodup_cons] at hn
    simp only [List.foldl_cons]
    rcases List.mem_cons.1 h with rfl | h
    · rw [foldl_other _ _ _ hn.1]
      simp [hd]
    · exact ih _ hn.2 h (by simpa using hd)
def AllP (p : Tmp × Value → Prop) : List (Tmp × Value) → Prop
  | [] => True
  | x :: xs => p x ∧ AllP p xs
theorem AllP.at_ {p : Tmp × Value → Prop} : ∀ {l : List (Tmp × Value)}, AllP p l → ∀ x ∈ l, p x
  | _ :: _, h, x, hx => by
    rcases List.mem_cons.1 hx with rfl | hx
    · exact h.1
    · exact AllP.at_ h.2 x hx
theorem Beside.eq {a0 a : Act} (h : Beside ops a0 a) (vs : List (Tmp × Value)) (hk : vs.map (·.1) = slotsOf ops) (hs : slotsApart ops a0.tmps.size = true) (hv : AllP (fun x => a.tmps[x.1]? = some x.2) vs) : a = putAll a0 vs := by
  unfold slotsApart at hs
  simp only [Bool.and_eq_true, decide_eq_true_eq] at hs
  have ht : a.tmps = vs.foldl (fun t x => t.setIfInBounds x.1 x.2) a0.tmps := by
    apply Array.ext_getElem?
    intro d
    by_cases hd : d ∈ vs.map (·.1)
    · obtain ⟨x, hx, rfl⟩ := List.mem_map.1 hd
      rw [hv.at_ x hx, foldl_at vs a0.tmps x.1 x.2 (hk ▸ hs.1) hx (by simpa using List.all_eq_true.1 hs.2 _ (hk ▸ hd))]
    · rw [foldl_other _ _ _ hd]
      exact h.at_ d (hk ▸ hd)
  obtain ⟨t, df⟩ := a
  have h2 := h.defers
  simp only at ht h2
  subst ht; subst h2
  rfl
/-- Regions that make memory alone: no ghost. -/
def UE (s s' : Unit × World) : Prop := Below s.2.heap.size s.2 s'.2
theorem UE.refl (s : Unit × World) : UE s s := Below.refl _ _
theorem UE.trans (a b c : Unit × World) (h : UE a b) (k : UE b c) : UE a c := Below.trans h (Below.mono k (Below.size h))
theorem UE.alloc {w : World} {o : Obj} : UE ((), w) ((), w.alloc o) := (Below.refl _ _).alloc (Nat.le_refl _) _
theorem UE.start {w w' : World} {g : Unit} (h : UE ((), w.drew) (g, w')) : Below w.heap.size w w' := ⟨h.os, h.tape, h.output, h.size, h.block⟩
def UN : Nat → Unit → Prop := fun _ _ => True
end
end Go.Proofs.YtlmlbdmbgfclkaaDoor

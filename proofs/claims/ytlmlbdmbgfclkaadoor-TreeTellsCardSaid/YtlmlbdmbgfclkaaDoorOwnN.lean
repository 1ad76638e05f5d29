/- Rows of nodes of the call's own; a map from numbers to numbers. No program in sight but for types' numbers. -/
import Derived.Test.YtlmlbdmbgfclkaaDoorOwn
import Derived.Maps.Views
import Derived.Maps.OwnOps
import Derived.Laws.CopyOwn
namespace Go.Proofs.YtlmlbdmbgfclkaaDoor
open Go.RowKit Go.WideShapes Go.Maps

/-- Nothing of block b is frozen. -/
def Soft (w : World) (b : Nat) : Prop := ∀ o, w.frozen? ⟨b, o, none⟩ = false
theorem Soft.of_block {w w' : World} {b : Nat} (h : Soft w b) (e : w'.heap[b]? = w.heap[b]?) : Soft w' b := fun o => by
  have := h o
  unfold World.frozen? at this ⊢
  simp only at this ⊢
  rw [e]; exact this
theorem Soft.grown {w w' : World} {b : Nat} {r : Option Nat} (h : Soft w b) (hg : w.grownBy w' r) (hb : b < w.heap.size) (hr : some b ≠ r) : Soft w' b := h.of_block (hg.block b hb hr)
theorem Soft.below {w w' : World} {b B : Nat} (h : Soft w b) (hg : Below B w w') (hb : b < B) : Soft w' b := h.of_block (hg.block b hb)
theorem Blk.soft {w : World} {g : Nat} {t : TypeId} {cs : Array Value} (h : Blk w g t cs) : Soft w g := fun o => h.frozen o
theorem Soft.setCell {w : World} {b : Nat} (h : Soft w b) (p : Addr) (u : Value) : Soft (w.setCell p u) b := fun o => by
  have := h o
  rw [← this]
  unfold World.frozen? World.setCell
  simp only [Array.getElem?_modify]
  by_cases e : p.block = b
  · rw [if_pos e]
    cases hh : w.heap[b]? with
    | none => rfl
    | some o => cases o <;> rfl
  · rw [if_neg e]
theorem own_soft {w : World} {base : Nat} {e : TypeId} {size n g : Nat} {v : Value} {xs : List Value} (h : w.ownsRow base e size v n xs) (hg : v.ownBlock = some g) : Soft w g := by
  rcases h.2 with ⟨rfl, _⟩ | ⟨g', cap, cur, rfl, _, hh, _⟩
  · simp [Value.ownBlock] at hg
  · have : g' = g := by simpa [Value.ownBlock] using hg
    subst this
    exact Blk.soft (t := e) hh
def KidSet (w : World) (base : Nat) (X : Nat → Prop) (v : Value) (b : Nat) : Prop := base ≤ b ∧ b < w.heap.size ∧ v.ownBlock ≠ some b ∧ X b ∧ Soft w b
structure OwnNK (w : World) (e : TypeId) (base : Nat) (X : Nat → Prop) (v : Value) (ns : List Nd) (kvs : List Value) : Prop where
  len : kvs.length = ns.length
  row : w.ownsRow base e 9 v ns.length (nodesCells ns kvs)
  kid : ∀ (j : Nat) (n : Nd) (kv : Value), ns[j]? = some n → kvs[j]? = some kv → RInts w (KidSet w base X v) kv n.kids ∧ n.d.Ok
def OwnNodes (w : World) (e : TypeId) (base : Nat) (X : Nat → Prop) (v : Value) (ns : List Nd) : Prop := ∃ kvs, OwnNK w e base X v ns kvs

section
variable {w w' : World} {e : TypeId} {base : Nat} {X Y : Nat → Prop} {v v' : Value} {ns : List Nd} {kvs : List Value}
theorem OwnNK.nil_ (w : World) (e : TypeId) (base : Nat) (X : Nat → Prop) : OwnNK w e base X (.slice none 0 0) [] [] := ⟨rfl, World.ownsRow_nil _ _ _ _, fun j n kv h => by simp at h⟩
theorem OwnNK.frame {r : Option Nat} (h : OwnNK w e base X v ns kvs) (hg : w.grownBy w' r) (hv : v.ownBlock = none ∨ v.ownBlock ≠ r) (hX : ∀ g, r = some g → ¬ X g) : OwnNK w' e base X v ns kvs := by
  refine ⟨h.len, h.row.kept hg hv, fun j n kv h1 h2 => ?_⟩
  obtain ⟨hk, hd⟩ := h.kid j n kv h1 h2
  refine ⟨(RInts.keep hk fun p hp => ?_).more fun _ hb => ⟨hb.1, Nat.lt_of_lt_of_le hb.2.1 hg.size, hb.2.2.1, hb.2.2.2.1, hb.2.2.2.2.grown hg hb.2.1 (fun e => hX _ e.symm hb.2.2.2.1)⟩, hd⟩
  exact World.cell?_of_block (hg.block p.block hp.2.1 (fun e => hX _ e.symm hp.2.2.2.1))
theorem OwnNK.weaken (h : OwnNK w e base X v ns kvs) (hX : ∀ b, base ≤ b → b < w.heap.size → X b → Y b) : OwnNK w e base Y v ns kvs :=
  ⟨h.len, h.row, fun j n kv h1 h2 => ⟨(h.kid j n kv h1 h2).1.more fun _ hb => ⟨hb.1, hb.2.1, hb.2.2.1, hX _ hb.1 hb.2.1 hb.2.2.2.1, hb.2.2.2.2⟩, (h.kid j n kv h1 h2).2⟩⟩
theorem OwnNK.base_ {base' : Nat} (h : OwnNK w e base X v ns kvs) (hb : base' ≤ base) : OwnNK w e base' X v ns kvs :=
  ⟨h.len, own_more h.row hb, fun j n kv h1 h2 => ⟨(h.kid j n kv h1 h2).1.more fun _ hb2 => ⟨Nat.le_trans hb hb2.1, hb2.2.1, hb2.2.2.1, hb2.2.2.2⟩, (h.kid j n kv h1 h2).2⟩⟩
theorem OwnNodes.base_ {base' : Nat} (h : OwnNodes w e base X v ns) (hb : base' ≤ base) : OwnNodes w e base' X v ns := by
  obtain ⟨kvs, h⟩ := h
  exact ⟨kvs, h.base_ hb⟩
/-- Writes to one block below, and new blocks, leave it. -/
theorem OwnNodes.low {g : Nat} (h : OwnNodes w e base X v ns) (hg : w.grownBy w' (some g)) (hlt : g < base) : OwnNodes w' e base X v ns := by
  obtain ⟨kvs, h⟩ := h
  refine ⟨kvs, ((h.weaken (Y := fun b => base ≤ b ∧ X b) (fun b h1 _ h3 => ⟨h1, h3⟩)).frame hg ?_ (fun r e hX => ?_)).weaken (fun _ _ _ h => h.2)⟩
  · rcases hv : v.ownBlock with _ | r
    · exact .inl rfl
    · refine .inr fun e => ?_
      injection e with e
      have := (own_blk_lt h.row hv).1
      omega
  · injection e with e
    have := hX.1
    omega
theorem OwnNodes.weaken (h : OwnNodes w e base X v ns) (hX : ∀ b, base ≤ b → b < w.heap.size → X b → Y b) : OwnNodes w e base Y v ns := by
  obtain ⟨kvs, h⟩ := h
  exact ⟨kvs, h.weaken hX⟩
theorem OwnNodes.frame {r : Option Nat} (h : OwnNodes w e base X v ns) (hg : w.grownBy w' r) (hv : v.ownBlock = none ∨ v.ownBlock ≠ r) (hX : ∀ g, r = some g → ¬ X g) : OwnNodes w' e base X v ns := by
  obtain ⟨kvs, h⟩ := h
  exact ⟨kvs, h.frame hg hv hX⟩
theorem OwnNodes.below (h : OwnNodes w e base X v ns) (hb : Below w.heap.size w w') : OwnNodes w' e base X v ns := by
  obtain ⟨kvs, h⟩ := h
  exact ⟨kvs, h.frame (only_of_below hb none) (by cases v.ownBlock <;> simp) (fun g e => by cases e)⟩
theorem nodesCells_snoc {n : Nd} {kv : Value} (h : kvs.length = ns.length) : nodesCells (ns ++ [n]) (kvs ++ [kv]) = nodesCells ns kvs ++ nodeCells n kv := by
  unfold nodesCells
  rw [List.zipWith_append h.symm]
  simp
theorem OwnNK.push {n : Nd} {kv : Value} (h : OwnNK w e base X v ns kvs) (hk : RInts w (KidSet w base X v) kv n.kids) (hd : n.d.Ok)
    (hown : w'.ownsRow base e 9 v' (ns.length + 1) (nodesCells ns kvs ++ nodeCells n kv)) (hg : w.grownBy w' v.ownBlock) (hat : v'.ownBlock = v.ownBlock ∨ ∀ g, v'.ownBlock = some g → w.heap.size ≤ g) : OwnNK w' e base X v' (ns ++ [n]) (kvs ++ [kv]) := by
  have hset : ∀ b, KidSet w base X v b → KidSet w' base X v' b := fun b hb => ⟨hb.1, Nat.lt_of_lt_of_le hb.2.1 hg.size, fun e => by
    rcases hat with h1 | h1
    · exact hb.2.2.1 (h1 ▸ e)
    · have := h1 b e; have := hb.2.1; omega, hb.2.2.2.1, hb.2.2.2.2.grown hg hb.2.1 (fun e => hb.2.2.1 e.symm)⟩
  have hkeep : ∀ p : Addr, KidSet w base X v p.block → w'.cell? p = w.cell? p := fun p hp => World.cell?_of_block (hg.block p.block hp.2.1 (fun e => hp.2.2.1 e.symm))
  refine ⟨by simp [h.len], by rw [List.length_append, nodesCells_snoc h.len]; exact hown, fun j m kv' h1 h2 => ?_⟩
  rcases Nat.lt_or_ge j ns.length with hj | hj
  · rw [List.getElem?_append_left hj] at h1
    rw [List.getElem?_append_left (by have := h.len; omega)] at h2
    obtain ⟨a, b⟩ := h.kid j m kv' h1 h2
    exact ⟨(a.keep hkeep).more hset, b⟩
  · rw [List.getElem?_append_right hj] at h1
    rw [List.getElem?_append_right (by have := h.len; omega), h.len] at h2
    have hj0 : j - ns.length = 0 := by
      rcases Nat.eq_zero_or_pos (j - ns.length) with h0 | h0
      · exact h0
      · rw [List.getElem?_eq_none (by simp; omega)] at h1; cases h1
    rw [hj0] at h1 h2
    simp at h1 h2
    subst h1; subst h2
    exact ⟨(hk.keep hkeep).more hset, hd⟩
theorem OwnNK.nodes {S : Nat → Prop} (h : OwnNK w e base X v ns kvs) (hS : ∀ b, base ≤ b → b < w.heap.size → (v.ownBlock = some b ∨ X b) → S b) : RNodes w S v ns := by
  refine ⟨⟨kvs, h.len, Row.of_own h.row (fun g hg => ?_) (own_small h.row), fun j n kv h1 h2 => ⟨(h.kid j n kv h1 h2).1.more fun b hb => hS b hb.1 hb.2.1 (.inr hb.2.2.2.1), (h.kid j n kv h1 h2).2⟩⟩⟩
  obtain ⟨h1, h2⟩ := own_blk_lt h.row hg
  exact hS g h1 h2 (.inl hg)
theorem OwnNK.nodesS {S : Nat → Prop} (h : OwnNK w e base X v ns kvs) (hS : ∀ b, base ≤ b → b < w.heap.size → (v.ownBlock = some b ∨ X b) → Soft w b → S b) : RNodes w S v ns := by
  refine ⟨⟨kvs, h.len, Row.of_own h.row (fun g hg => ?_) (own_small h.row), fun j n kv h1 h2 => ⟨(h.kid j n kv h1 h2).1.more fun b hb => hS b hb.1 hb.2.1 (.inr hb.2.2.2.1) hb.2.2.2.2, (h.kid j n kv h1 h2).2⟩⟩⟩
  obtain ⟨h1, h2⟩ := own_blk_lt h.row hg
  exact hS g h1 h2 (.inl hg) (own_soft h.row hg)
theorem RNodes.grown {r : Option Nat} {S : Nat → Prop} (h : RNodes w S v ns) (hg : w.grownBy w' r) (hS : ∀ b, S b → b < w.heap.size ∧ r ≠ some b) : RNodes w' S v ns :=
  h.keep fun p hp => World.cell?_of_block (hg.block p.block (hS _ hp).1 (fun e => (hS _ hp).2 e.symm))
end

/-- Block M is a map of at most n entries that reads as this function. -/
def MapIs (P : Program) (w : World) (k e : TypeId) (M n : Nat) (place : Int → Int) : Prop :=
  ∃ D : DataW Unit, w.ownsMap P k (plainElem P e) M n D ∧ IsMap D ∧ ∀ z : Int, D.atKey (.int .i64 z) (.lit (.int .i64 0)) = .lit (.int .i64 (place z))
section
variable {P : Program} {w w' : World} {k e : TypeId} {M n : Nat} {place : Int → Int} {z x : Int}
theorem MapIs.new (P : Program) (w : World) (k e : TypeId) : MapIs P (w.alloc (.map #[] 0)) k e w.heap.size 0 (fun _ => 0) :=
  ⟨.map [], World.ownsMap_made _ _ _ _, isMap_empty, fun _ => rfl⟩
theorem MapIs.kept {row : Option Nat} (h : MapIs P w k e M n place) (hg : w.grownBy w' row) (hne : some M ≠ row) : MapIs P w' k e M n place := by
  obtain ⟨D, h1, h2, h3⟩ := h
  exact ⟨D, h1.kept hg hne, h2, h3⟩
theorem MapIs.lt (h : MapIs P w k e M n place) : M < w.heap.size := by
  obtain ⟨D, h1, _⟩ := h
  exact h1.lt
theorem MapIs.put {D : DataW Unit} (h1 : w'.ownsMap P k (plainElem P e) M (n + 1) (D.put (.int .i64 z) (.lit (.int .i64 x)))) (h2 : IsMap D) (h3 : ∀ z : Int, D.atKey (.int .i64 z) (.lit (.int .i64 0)) = .lit (.int .i64 (place z))) :
    MapIs P w' k e M (n + 1) (fun j => if j = z then x else place j) := by
  refine ⟨_, h1, h2.put _ _, fun y => ?_⟩
  show _ = DataW.lit (.int .i64 (if y = z then x else place y))
  by_cases hy : y = z
  · subst hy
    rw [if_pos rfl]
    exact atKey_put_same h2 (by trivial) _ _
  · rw [if_neg hy, atKey_put_other (by intro e; injection e with _ e; exact hy e)]
    exact h3 y
end
/-- copy(new, old), both of n numbers. -/
theorem wpList_copy_all {P : Program} {w : World} {ops : Array Oper} {rest : List Oper} {o : Oper} {a : Act} {Q : Exit → Act → World → Prop} (hgd : o.guard = none) (d s : Operand) (dT sT : TypeId)
    (ho : o.op = .call { callee := .builtin .copy, args := #[d, s], argTypes := #[dT, sT] }) (elem : TypeId) (hu : P.underlying dT = some (.slice elem)) (hsz : (P.info? elem).map (·.size) = some 1)
    (g n c B : Nat) (A : Option Addr) (hd : a.eval d = .slice (some ⟨g, 0, none⟩) n n) (hs : a.eval s = .slice A n c) (cur : Array Value) (t : TypeId) (hg : Blk w g t cur) (hcur : cur.size = n) (cs : List Value)
    (hr : Reads w B 1 A n cs) (h1 : ∀ v ∈ cs, v.oneCell' = true)
    (h : ∀ w' r, Blk w' g t cs.toArray → w.grownBy w' (some g) → wpList P ops Q rest (a.put o.dst r) w') : wpList P ops Q (o :: rest) a w := by
  have hl : cs.length = n := by rw [hr.1, Nat.mul_one]
  rcases Nat.eq_zero_or_pos n with h0 | h0
  · subst h0
    refine wpList_copy_nothing hgd d s dT sT ho elem hu hsz _ _ _ _ _ _ hd hs (by simp) (h w _ ?_ (grown_refl _ _))
    have : cs = [] := List.eq_nil_of_length_eq_zero hl
    subst this
    have e : cur = #[] := Array.eq_empty_of_size_eq_zero hcur
    rw [e] at hg
    exact hg
  · obtain ⟨ad, rfl, _, hc⟩ := hr.2 h0
    refine wpList_copy_own hgd d s dT sT ho elem hu hsz g 0 n n ad n c hd hs cur t hg cs (by rw [hl]; simp) hc (by omega) h1 (h _ _ ?_ ?_)
    · have e : cur.toList.take 0 ++ (cs ++ cur.toList.drop (0 + cs.length)) = cs := by
        rw [List.drop_of_length_le (by simp; omega)]; simp
      rw [e]
      exact setRow_heap w g cur cs.toArray t (0, 0) hg
    · exact ⟨rfl, rfl, rfl, by simp [World.setRow], fun k _ hk => setRow_other w g k _ (fun e => hk (by rw [e]))⟩
theorem Blk.new1 (w : World) (o : Obj) (t : TypeId) (cs : Array Value) : Blk ((w.alloc o).alloc (.cells cs t)) (w.heap.size + 1) t cs := by
  have := Blk.new (w.alloc o) t cs
  simpa using this
theorem Blk.nine {w : World} {g : Nat} {t : TypeId} {c0 c1 c2 c3 c4 c5 c6 c7 c8 : Value} (h : Blk w g t #[c0, c1, c2, c3, c4, c5, c6, c7, c8]) :
    w.cell? ⟨g, 0, none⟩ = some c0 ∧ w.cell? ⟨g, 1, none⟩ = some c1 ∧ w.cell? ⟨g, 2, none⟩ = some c2 ∧ w.cell? ⟨g, 3, none⟩ = some c3 ∧ w.cell? ⟨g, 4, none⟩ = some c4 ∧ w.cell? ⟨g, 5, none⟩ = some c5 ∧
      w.cell? ⟨g, 6, none⟩ = some c6 ∧ w.cell? ⟨g, 7, none⟩ = some c7 ∧ w.cell? ⟨g, 8, none⟩ = some c8 :=
  ⟨h.cell 0, h.cell 1, h.cell 2, h.cell 3, h.cell 4, h.cell 5, h.cell 6, h.cell 7, h.cell 8⟩
theorem RInts.of_blk {w : World} {S : Nat → Prop} {g : Nat} {t : TypeId} {ks : List Int} (h : Blk w g t (ks.map (Value.int .i64)).toArray) (hS : S g) (hk : ks.length ≤ maxLen) : RInts w S (.slice (some ⟨g, 0, none⟩) ks.length ks.length) ks := by
  refine ⟨by simp, hk, _, _, rfl, Nat.le_refl _, fun _ => ⟨g, 0, rfl, hS, fun j u hu => ?_⟩⟩
  rw [Nat.zero_add, h.cell j, List.getElem?_toArray]
  exact hu
end Go.Proofs.YtlmlbdmbgfclkaaDoor

/- Rows of the call's own: made shorter, written over in the midst, read. No program in sight. -/
import Derived.Test.YtlmlbdmbgfclkaaDoorRow
import Derived.Lib.LazyBuf
import Derived.Deep.Onto
namespace Go.Proofs.YtlmlbdmbgfclkaaDoor
open Go.RowKit

theorem nil_or_snoc {α : Type} (l : List α) : l = [] ∨ ∃ L b, l = L ++ [b] := by
  rcases List.eq_nil_or_concat l with h | ⟨L, b, h⟩
  · exact .inl h
  · exact .inr ⟨L, b, by simpa using h⟩

section
variable {w w' : World} {base : Nat} {e : TypeId} {size n m c : Nat} {A : Option Addr} {v : Value} {xs : List Value}
theorem own_slice (h : w.ownsRow base e size v n xs) : ∃ A c, v = .slice A n c ∧ n ≤ c ∧ c ≤ maxLen ∧ (A = none → n = 0) := by
  rcases h.2 with ⟨rfl, rfl⟩ | ⟨g, cap, cur, rfl, _, _, h1, h2, _⟩
  · exact ⟨none, 0, rfl, Nat.le_refl _, by simp, fun _ => rfl⟩
  · exact ⟨_, _, rfl, h1, h2, fun h => by cases h⟩
theorem own_some (h : w.ownsRow base e size (.slice A n c) n xs) (hn : 0 < n) : ∃ g, A = some ⟨g, 0, none⟩ ∧ base ≤ g ∧ g < w.heap.size ∧ n ≤ c := by
  rcases h.2 with ⟨h1, rfl⟩ | ⟨g, cap, cur, h1, hb, hh, h2, _⟩
  · omega
  · injection h1 with h1 _ h3
    subst h3
    exact ⟨g, h1, hb, (Array.getElem?_eq_some_iff.1 hh).1, h2⟩
theorem own_shrink (h : w.ownsRow base e size (.slice A n c) n xs) (hm : m ≤ n) : w.ownsRow base e size (.slice A m c) m (xs.take (m * size)) := by
  have hmul : m * size ≤ n * size := Nat.mul_le_mul_right _ hm
  refine ⟨by rw [List.length_take, h.1]; omega, ?_⟩
  rcases h.2 with ⟨h1, rfl⟩ | ⟨g, cap, cur, h1, hb, hh, h2, h3, h4, h5⟩
  · obtain rfl : m = 0 := by omega
    exact .inl ⟨h1, rfl⟩
  · injection h1 with h1 _ hc
    subst h1; subst hc
    refine .inr ⟨g, _, cur, rfl, hb, hh, by omega, h3, h4, ?_⟩
    rw [← h5, List.take_take]
    congr 1; omega
theorem own_blk_lt (h : w.ownsRow base e size v n xs) {g : Nat} (hg : v.ownBlock = some g) : base ≤ g ∧ g < w.heap.size := h.lt g hg
theorem own_more {base' : Nat} (h : w.ownsRow base e size v n xs) (hb : base' ≤ base) : w.ownsRow base' e size v n xs := World.ownsRow.mono h hb
theorem Row.of_own {S : Nat → Prop} (h : w.ownsRow base e size v n xs) (hS : ∀ g, v.ownBlock = some g → S g) (hn : n ≤ maxLen) : Row w S size v n xs := by
  obtain ⟨A, c, rfl, h1, h2, _⟩ := own_slice h
  refine ⟨h.1, hn, A, c, rfl, h1, fun h0 => ?_⟩
  obtain ⟨g, rfl, hb, hlt, _⟩ := own_some h h0
  refine ⟨g, 0, rfl, hS g rfl, fun j u hu => ?_⟩
  have := h.cells (g := g) rfl j u hu
  have e : (⟨g, 0, none⟩ : Addr).add j = ⟨g, 0 + j, none⟩ := by
    unfold Addr.add
    split <;> simp_all
  rwa [e] at this
theorem own_small (h : w.ownsRow base e size v n xs) : n ≤ maxLen := by
  obtain ⟨A, c, rfl, h1, h2, _⟩ := own_slice h
  omega
theorem RInts.of_own {S : Nat → Prop} {ks : List Int} (h : w.ownsRow base e 1 v ks.length (ks.map (Value.int .i64))) (hS : ∀ g, v.ownBlock = some g → S g) : RInts w S v ks := Row.of_own h hS (own_small h)
theorem own_setCells {g : Nat} (h : w.ownsRow base e 1 (.slice (some ⟨g, 0, none⟩) n c) n xs) : ∀ (vs : List Value) (o : Nat), o + vs.length ≤ n →
    (w.setCells g o vs).ownsRow base e 1 (.slice (some ⟨g, 0, none⟩) n c) n (xs.take o ++ vs ++ xs.drop (o + vs.length)) := by
  intro vs
  induction vs generalizing w xs with
  | nil => intro o _; simpa [World.setCells] using h
  | cons u vs ih =>
    intro o ho
    simp only [List.length_cons] at ho
    have h1 := (h.stored o u).1
    have hl := h.1
    have h2 := ih h1 (o + 1) (by omega)
    simp only [World.setCells]
    have e : xs.take o ++ (u :: vs) ++ xs.drop (o + (vs.length + 1)) = (xs.set o u).take (o + 1) ++ vs ++ (xs.set o u).drop (o + 1 + vs.length) := by
      have e1 : (xs.set o u).take (o + 1) = xs.take o ++ [u] := by
        rw [List.take_add_one, List.take_set_of_le (by omega), List.getElem?_set_self (by omega)]; rfl
      have e2 : (xs.set o u).drop (o + 1 + vs.length) = xs.drop (o + (vs.length + 1)) := by
        rw [List.drop_set_of_lt (by omega)]; congr 1; omega
      rw [e1, e2]; simp
    rw [List.length_cons, e]
    exact h2
end
theorem grown_of_alloc {w w' : World} {o : Obj} {r : Option Nat} (h : (w.alloc o).grownBy w' r) : w.grownBy w' r :=
  ⟨h.os, h.tape, h.output, by have := h.size; simp at this; omega, fun k hk hr => (h.block k (by simp; omega) hr).trans (Below.heap_alloc w o k hk)⟩
section
variable {P : Program} (w : World)
/-- out = append(out, x): what is appended lies in a block of its own. -/
theorem wpList_append1 {ops : Array Oper} {rest : List Oper} {o : Oper} {a : Act} {Q : Exit → Act → World → Prop} (hgd : o.guard = none) (s x : Operand) (t : TypeId)
    (ho : o.op = .call { callee := .builtin .append, args := #[s, x], argTypes := #[t, t] })
    (base : Nat) (e : TypeId) (i : TypeInfo) (z : Value) (size bytes : Nat) (ht : P.underlying t = some (.slice e)) (hi : P.info? e = some i) (hz : i.zero = some z)
    (hsize : i.size = size) (hby : i.bytes = bytes) (hzs : z.cells.size = size) (hsz : 0 < size)
    (v : Value) (n : Nat) (xs : List Value) (hs : a.eval s = v) (hown : w.ownsRow base e size v n xs)
    (news : List Value) (hnl : news.length = size) (hx : a.eval x = .slice (some ⟨w.heap.size, 0, none⟩) 1 1) (h1 : ∀ u ∈ news, u.oneCell' = true)
    (h63 : n + 1 ≤ maxLen) (hbytes : (n + 1) * bytes ≤ 140737488355328) (hbase : base ≤ w.heap.size)
    (h : ∀ v' w', w'.ownsRow base e size v' (n + 1) (xs ++ news) → w.grownBy w' v.ownBlock → (v'.ownBlock = v.ownBlock ∨ v'.ownBlock = some (w.heap.size + 1)) → wpList P ops Q rest (a.put o.dst v') w') :
    wpList P ops Q (o :: rest) a (w.alloc (.cells news.toArray e)) := by
  refine wpList_append_any (w.alloc (.cells news.toArray e)) hgd s x t ho base e i z size bytes ht hi hz hsize hby hzs hsz v n xs hs (hown.alloc _) (w.heap.size + 1) (some ⟨w.heap.size, 0, none⟩) 1 1 news hx ?_ h1 h63 hbytes (by simp; omega) ?_
  · refine ⟨by rw [hnl]; omega, fun _ => ⟨_, rfl, Nat.lt_succ_self _, fun j u hu => ?_⟩⟩
    have e1 : (⟨w.heap.size, 0, none⟩ : Addr).add j = ⟨w.heap.size, j, none⟩ := by
      unfold Addr.add
      split <;> simp_all
    rw [e1, (Blk.new w e news.toArray).cell j]
    simpa using hu
  · intro v' w' h2 h3 h4
    refine h v' w' h2 (grown_of_alloc h3) ?_
    simpa using h4
end
theorem below_of_grown {w w' : World} {B : Nat} {r : Option Nat} (h : w.grownBy w' r) (hB : B ≤ w.heap.size) (hr : ∀ g, r = some g → B ≤ g) : Below B w w' :=
  ⟨h.os, h.tape, h.output, h.size, fun k hk => h.block k (by omega) (fun e => by have := hr k e.symm; omega)⟩
theorem Row.reads {w : World} {S : Nat → Prop} {B size n c : Nat} {A : Option Addr} {cells : List Value} (h : Row w S size (.slice A n c) n cells) (hS : ∀ b, S b → b < B) : Reads w B size A n cells := by
  obtain ⟨hl, _, A', c', hv, _, hr⟩ := h
  injection hv with hv _ _
  subst hv
  refine ⟨hl, fun hn => ?_⟩
  obtain ⟨b, off, rfl, h2, h3⟩ := hr hn
  refine ⟨_, rfl, hS _ h2, fun j u hu => ?_⟩
  have e1 : (⟨b, off, none⟩ : Addr).add j = ⟨b, off + j, none⟩ := by
    unfold Addr.add
    split <;> simp_all
  rw [e1]
  exact h3 j u hu
theorem grown_undrew {w w' : World} {r : Option Nat} (h : w.drew.grownBy w' r) : w.grownBy w' r := ⟨h.os, h.tape, h.output, h.size, h.block⟩
theorem own_blk_some {w : World} {base : Nat} {e : TypeId} {size n c : Nat} {a : Addr} {xs : List Value} (h : w.ownsRow base e size (.slice (some a) n c) n xs) : a = ⟨a.block, 0, none⟩ ∧ base ≤ a.block ∧ a.block < w.heap.size := by
  rcases h.2 with ⟨h1, _⟩ | ⟨g', cap, cur, h1, hb, hh, _⟩
  · simp at h1
  · injection h1 with h1 _ _
    injection h1 with h1
    subst h1
    exact ⟨rfl, hb, (Array.getElem?_eq_some_iff.1 hh).1⟩
theorem ownBlock_some (a : Addr) (n c : Nat) (h : a = ⟨a.block, 0, none⟩) : (Value.slice (some a) n c).ownBlock = some a.block := by rw [h]; simp [Value.ownBlock]
theorem grown_setCells {w0 w : World} {g : Nat} (h : w0.grownBy w (some g)) : ∀ (vs : List Value) (o : Nat), w0.grownBy (w.setCells g o vs) (some g) := by
  intro vs
  induction vs generalizing w with
  | nil => intro o; exact h
  | cons u vs ih =>
    intro o
    exact ih (only_setCell h (.inl rfl) u) (o + 1)
theorem grown_refl (w : World) (r : Option Nat) : w.grownBy w r := ⟨rfl, rfl, rfl, Nat.le_refl _, fun _ _ _ => rfl⟩
/-- The tail of a row of numbers, turned about. -/
theorem own_reversed {w : World} {base : Nat} {e : TypeId} {g c q : Nat} {T K : List Int} (h : w.ownsRow base e 1 (.slice (some ⟨g, 0, none⟩) (T ++ K).length c) (T ++ K).length ((T ++ K).map (Value.int .i64))) :
    ((w.drewN q).setCells g T.length (K.map (Value.int .i64)).reverse).ownsRow base e 1 (.slice (some ⟨g, 0, none⟩) (T ++ K.reverse).length c) (T ++ K.reverse).length ((T ++ K.reverse).map (Value.int .i64)) := by
  have h1 : (w.drewN q).ownsRow base e 1 (.slice (some ⟨g, 0, none⟩) (T ++ K).length c) (T ++ K).length ((T ++ K).map (Value.int .i64)) := h
  have h2 := own_setCells h1 (K.map (Value.int .i64)).reverse T.length (by simp)
  have e1 : (T ++ K.reverse).length = (T ++ K).length := by simp
  have e2 : ((T ++ K).map (Value.int .i64)).take T.length ++ (K.map (Value.int .i64)).reverse ++ ((T ++ K).map (Value.int .i64)).drop (T.length + (K.map (Value.int .i64)).reverse.length) = (T ++ K.reverse).map (Value.int .i64) := by
    rw [List.map_append, List.take_append_of_le_length (by simp), List.drop_of_length_le (by simp)]
    simp [List.take_of_length_le]
  rw [e1, ← e2]
  exact h2
theorem grown_set1 (w : World) (g i : Nat) (a : Value) : w.grownBy (w.setCell ⟨g, i, none⟩ a) (some g) := only_setCell (p := ⟨g, i, none⟩) (grown_refl w (some g)) (.inl rfl) a
theorem grown_set2 (w : World) (g i j : Nat) (a b : Value) : w.grownBy ((w.setCell ⟨g, i, none⟩ a).setCell ⟨g, j, none⟩ b) (some g) := only_setCell (p := ⟨g, j, none⟩) (grown_set1 w g i a) (.inl rfl) b
end Go.Proofs.YtlmlbdmbgfclkaaDoor

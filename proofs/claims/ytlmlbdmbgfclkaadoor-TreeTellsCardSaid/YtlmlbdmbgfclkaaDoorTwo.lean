/- Rows of numbers of the call's own, beside one another: what happens to one where the other grows. No program in sight but for types' numbers. -/
import Derived.Test.YtlmlbdmbgfclkaaDoorOwnN
namespace Go.Proofs.YtlmlbdmbgfclkaaDoor
open Go.RowKit

def OInts (w : World) (base : Nat) (v : Value) (L : List Int) : Prop := w.ownsRow base 3 1 v L.length (L.map (Value.int .i64))
/-- Two rows lie apart. -/
def Ap (u v : Value) : Prop := ∀ g, u.ownBlock = some g → v.ownBlock ≠ some g
theorem Ap.symm {u v : Value} (h : Ap u v) : Ap v u := fun g h1 h2 => h g h2 h1
theorem Ap.nil_ (v : Value) (c : Nat) : Ap (.slice none 0 c) v := fun g h => by simp [Value.ownBlock] at h
theorem Ap.far {w : World} {u v : Value} (hu : ∀ g, u.ownBlock = some g → g < w.heap.size) (hv : ∀ g, v.ownBlock = some g → w.heap.size ≤ g) : Ap u v := fun g h1 h2 => by have := hu g h1; have := hv g h2; omega
theorem Ap.kept {u v : Value} (h : Ap u v) : u.ownBlock = none ∨ u.ownBlock ≠ v.ownBlock := by
  cases hu : u.ownBlock with
  | none => exact .inl rfl
  | some g => exact .inr fun e => h g hu e.symm
theorem OInts.lt {w : World} {base : Nat} {v : Value} {L : List Int} (h : OInts w base v L) : ∀ g, v.ownBlock = some g → base ≤ g ∧ g < w.heap.size := fun _ hg => own_blk_lt h hg
theorem OInts.nil_ (w : World) (base : Nat) : OInts w base (.slice none 0 0) [] := World.ownsRow_nil _ _ _ _
theorem OInts.slice {w : World} {base : Nat} {v : Value} {L : List Int} (h : OInts w base v L) : ∃ A c, v = .slice A L.length c ∧ L.length ≤ c ∧ c ≤ maxLen := by
  obtain ⟨A, c, h1, h2, h3, _⟩ := own_slice h
  exact ⟨A, c, h1, h2, h3⟩
theorem OInts.at_ {w : World} {base : Nat} {A : Option Addr} {n c : Nat} {L : List Int} (h : OInts w base (.slice A n c) L) {j : Nat} {k : Int} (hk : L[j]? = some k) : ∃ g, A = some ⟨g, 0, none⟩ ∧ n = L.length ∧ base ≤ g ∧ g < w.heap.size ∧ w.cell? ⟨g, j, none⟩ = some (.int .i64 k) := by
  obtain ⟨A', c', hv, _⟩ := OInts.slice h
  injection hv with hA hn hc
  subst hA hn hc
  have hl : j < L.length := (List.getElem?_eq_some_iff.1 hk).1
  obtain ⟨g, rfl, h1, h2, _⟩ := own_some h (by omega)
  refine ⟨g, rfl, rfl, h1, h2, ?_⟩
  have := World.ownsRow.cellAt h j (by omega)
  rw [this]; simp [hk]
theorem OInts.shrink {w : World} {base : Nat} {A : Option Addr} {n c m : Nat} {L : List Int} (h : OInts w base (.slice A n c) L) (hm : m ≤ L.length) : OInts w base (.slice A m c) (L.take m) := by
  obtain ⟨A', c', hv, _⟩ := OInts.slice h
  injection hv with hA hn hc
  subst hA hn hc
  have := own_shrink (m := m) h hm
  unfold OInts
  rw [List.length_take, Nat.min_eq_left hm, List.map_take]
  simpa using this
theorem OInts.frame {w w' : World} {base : Nat} {u : Value} {L : List Int} {r : Option Nat} (h : OInts w base u L) (hg : w.grownBy w' r) (hr : u.ownBlock = none ∨ u.ownBlock ≠ r) : OInts w' base u L := h.kept hg hr
theorem OInts.below {w w' : World} {base : Nat} {u : Value} {L : List Int} (h : OInts w base u L) (hb : Below w.heap.size w w') : OInts w' base u L := h.kept (only_of_below hb none) (by cases u.ownBlock <;> simp)
theorem OInts.alloc {w : World} {base : Nat} {u : Value} {L : List Int} (h : OInts w base u L) (o : Obj) : OInts (w.alloc o) base u L := h.below ((Below.refl _ _).alloc (Nat.le_refl _) _)
theorem OInts.base_ {w : World} {base base' : Nat} {u : Value} {L : List Int} (h : OInts w base u L) (hb : base' ≤ base) : OInts w base' u L := own_more h hb
/-- Where v grows to v1, u beside it stays, and lies apart from v1. -/
theorem OInts.beside {w w2 : World} {base N : Nat} {u v v1 : Value} {L : List Int} (hu : OInts w base u L) (hap : Ap u v) (hg : w.grownBy w2 v.ownBlock) (hat : v1.ownBlock = v.ownBlock ∨ v1.ownBlock = some N) (hN : w.heap.size ≤ N) : OInts w2 base u L ∧ Ap u v1 := by
  refine ⟨hu.frame hg hap.kept, fun g h1 h2 => ?_⟩
  rcases hat with e | e
  · exact hap g h1 (e ▸ h2)
  · rw [e] at h2; injection h2 with h2
    have := (hu.lt g h1).2
    omega
theorem OInts.lit1 (w : World) (base : Nat) (k : Int) (hb : base ≤ w.heap.size) : OInts (w.alloc (.cells #[.int .i64 k] 3)) base (.slice (some ⟨w.heap.size, 0, none⟩) 1 1) [k] := by
  have := World.ownsRow_lit (base := base) (e := 3) (size := 1) w #[.int .i64 k] 1 hb (by simp [maxLen]) rfl
  exact this
theorem OInts.push {w : World} {base : Nat} {v : Value} {L K : List Int} (h : w.ownsRow base 3 1 v (L.length + K.length) (L.map (Value.int .i64) ++ K.map (Value.int .i64))) : OInts w base v (L ++ K) := by
  unfold OInts
  rw [List.length_append, List.map_append]
  exact h
theorem OInts.push1 {w : World} {base : Nat} {v : Value} {L : List Int} {k : Int} (h : w.ownsRow base 3 1 v (L.length + 1) (L.map (Value.int .i64) ++ [.int .i64 k])) : OInts w base v (L ++ [k]) := OInts.push (K := [k]) h
theorem OInts.reads {w : World} {base B : Nat} {A : Option Addr} {n c : Nat} {L : List Int} (h : OInts w base (.slice A n c) L) (hB : w.heap.size ≤ B) : Reads w B 1 A L.length (L.map (Value.int .i64)) := by
  obtain ⟨A', c', hv, _⟩ := OInts.slice h
  injection hv with hA hn hc
  subst hA hn hc
  exact (Reads.of_own h).more hB
theorem setCell_size (w : World) (p : Addr) (u : Value) : (w.setCell p u).heap.size = w.heap.size := by simp [World.setCell]
/-- out = append(out, x), where the block that x lies in is named. -/
theorem wpList_append1N {P : Program} (w : World) (M : Nat) (hM : w.heap.size = M) {ops : Array Oper} {rest : List Oper} {o : Oper} {a : Act} {Q : Exit → Act → World → Prop} (hgd : o.guard = none) (s x : Operand) (t : TypeId)
    (ho : o.op = .call { callee := .builtin .append, args := #[s, x], argTypes := #[t, t] })
    (base : Nat) (e : TypeId) (i : TypeInfo) (z : Value) (size bytes : Nat) (ht : P.underlying t = some (.slice e)) (hi : P.info? e = some i) (hz : i.zero = some z)
    (hsize : i.size = size) (hby : i.bytes = bytes) (hzs : z.cells.size = size) (hsz : 0 < size)
    (v : Value) (n : Nat) (xs : List Value) (hs : a.eval s = v) (hown : w.ownsRow base e size v n xs)
    (news : List Value) (hnl : news.length = size) (hx : a.eval x = .slice (some ⟨M, 0, none⟩) 1 1) (h1 : ∀ u ∈ news, u.oneCell' = true)
    (h63 : n + 1 ≤ maxLen) (hbytes : (n + 1) * bytes ≤ 140737488355328) (hbase : base ≤ w.heap.size)
    (h : ∀ v' w', w'.ownsRow base e size v' (n + 1) (xs ++ news) → w.grownBy w' v.ownBlock → (v'.ownBlock = v.ownBlock ∨ v'.ownBlock = some (w.heap.size + 1)) → wpList P ops Q rest (a.put o.dst v') w') :
    wpList P ops Q (o :: rest) a (w.alloc (.cells news.toArray e)) := by
  subst hM
  exact wpList_append1 w hgd s x t ho base e i z size bytes ht hi hz hsize hby hzs hsz v n xs hs hown news hnl hx h1 h63 hbytes hbase h
end Go.Proofs.YtlmlbdmbgfclkaaDoor

/- Slices that read as lists of cells, in blocks of a set S. No program in sight. -/
import Derived.Test.YtlmlbdmbgfclkaaDoorMem
import Derived.Test.YtlmlbdmbgfclkaaDoorTrM
namespace Go.Proofs.YtlmlbdmbgfclkaaDoor
open Go.RowKit

structure Row (w : World) (S : Nat → Prop) (size : Nat) (v : Value) (n : Nat) (cells : List Value) : Prop where
  len : cells.length = n * size
  small : n ≤ maxLen
  is : ∃ A c, v = .slice A n c ∧ n ≤ c ∧ (0 < n → ∃ b off, A = some ⟨b, off, none⟩ ∧ S b ∧ ∀ j u, cells[j]? = some u → w.cell? ⟨b, off + j, none⟩ = some u)

section
variable {w w' : World} {S S' : Nat → Prop} {size n : Nat} {v : Value} {cells : List Value}
theorem Row.keep (h : Row w S size v n cells) (hk : ∀ p : Addr, S p.block → w'.cell? p = w.cell? p) : Row w' S size v n cells := by
  obtain ⟨hl, hs, A, c, hv, hc, hr⟩ := h
  refine ⟨hl, hs, A, c, hv, hc, fun hn => ?_⟩
  obtain ⟨b, off, hA, h1, h3⟩ := hr hn
  exact ⟨b, off, hA, h1, fun j u hu => (hk ⟨b, off + j, none⟩ h1).trans (h3 j u hu)⟩
theorem Row.more (h : Row w S size v n cells) (h1 : ∀ b, S b → S' b) : Row w S' size v n cells := by
  obtain ⟨hl, hs, A, c, hv, hc, hr⟩ := h
  refine ⟨hl, hs, A, c, hv, hc, fun hn => ?_⟩
  obtain ⟨b, off, hA, h3, h5⟩ := hr hn
  exact ⟨b, off, hA, h1 _ h3, h5⟩
theorem Row.below {B : Nat} (h : Row w S size v n cells) (hb : Below B w w') (hB : ∀ b, S b → b < B) : Row w' S size v n cells :=
  h.keep fun _ hp => hb.cell (hB _ hp)
theorem Row.nil_ (w : World) (S : Nat → Prop) (size : Nat) : Row w S size (.slice none 0 0) 0 [] := ⟨by simp, by simp [maxLen], none, 0, rfl, by omega, fun h => by omega⟩
end

def nodeCells (n : Nd) (kv : Value) : List Value :=
  [.int .u8 n.d.kind, .int .u64 n.d.s0, .int .u64 n.d.s1, .int .u64 n.d.s2, .int .u64 n.d.s3, .string ⟨n.d.text.toArray⟩, .int .i64 n.d.min, .int .i64 n.d.max, kv]
structure Dt.Ok (d : Dt) : Prop where
  kind : 0 ≤ d.kind ∧ d.kind ≤ 255
  set : (0 ≤ d.s0 ∧ d.s0 < 18446744073709551616) ∧ (0 ≤ d.s1 ∧ d.s1 < 18446744073709551616) ∧ (0 ≤ d.s2 ∧ d.s2 < 18446744073709551616) ∧ (0 ≤ d.s3 ∧ d.s3 < 18446744073709551616)
  text : d.text.length ≤ maxLen
  min : -9223372036854775808 ≤ d.min ∧ d.min ≤ 9223372036854775807
  max : -9223372036854775808 ≤ d.max ∧ d.max ≤ 9223372036854775807
def RInts (w : World) (S : Nat → Prop) (v : Value) (ks : List Int) : Prop := Row w S 1 v ks.length (ks.map (Value.int .i64))
def RNode (w : World) (S : Nat → Prop) (v : Value) (n : Nd) : Prop := ∃ kv, v = .agg (nodeCells n kv).toArray ∧ RInts w S kv n.kids ∧ n.d.Ok
def nodesCells (ns : List Nd) (kvs : List Value) : List Value := (List.zipWith nodeCells ns kvs).flatten
structure RNodes (w : World) (S : Nat → Prop) (v : Value) (ns : List Nd) : Prop where
  is : ∃ kvs : List Value, kvs.length = ns.length ∧ Row w S 9 v ns.length (nodesCells ns kvs) ∧ ∀ (j : Nat) (n : Nd) (kv : Value), ns[j]? = some n → kvs[j]? = some kv → RInts w S kv n.kids ∧ n.d.Ok
structure Tr where
  nodes : List Nd
  root : Int
def RTree (w : World) (S : Nat → Prop) (v : Value) (t : Tr) : Prop := ∃ nv, v = .agg #[nv, .int .i64 t.root] ∧ RNodes w S nv t.nodes ∧ -9223372036854775808 ≤ t.root ∧ t.root ≤ 9223372036854775807
structure RTrees (w : World) (S : Nat → Prop) (v : Value) (ts : List Tr) : Prop where
  is : ∃ nvs : List Value, nvs.length = ts.length ∧ Row w S 2 v ts.length (List.zipWith (fun t nv => [nv, Value.int .i64 t.root]) ts nvs).flatten ∧
    ∀ (j : Nat) (t : Tr) (nv : Value), ts[j]? = some t → nvs[j]? = some nv → RNodes w S nv t.nodes ∧ -9223372036854775808 ≤ t.root ∧ t.root ≤ 9223372036854775807

section
variable {w w' : World} {S S' : Nat → Prop} {v : Value}
theorem RInts.keep {ks : List Int} (h : RInts w S v ks) (hk : ∀ p : Addr, S p.block → w'.cell? p = w.cell? p) : RInts w' S v ks := Row.keep h hk
theorem RInts.more {ks : List Int} (h : RInts w S v ks) (h1 : ∀ b, S b → S' b) : RInts w S' v ks := Row.more h h1
theorem RNode.keep {n : Nd} (h : RNode w S v n) (hk : ∀ p : Addr, S p.block → w'.cell? p = w.cell? p) : RNode w' S v n := by
  obtain ⟨kv, hv, h1, h2⟩ := h
  exact ⟨kv, hv, h1.keep hk, h2⟩
theorem RNode.more {n : Nd} (h : RNode w S v n) (h1 : ∀ b, S b → S' b) : RNode w S' v n := by
  obtain ⟨kv, hv, h3, h4⟩ := h
  exact ⟨kv, hv, h3.more h1, h4⟩
theorem RNodes.keep {ns : List Nd} (h : RNodes w S v ns) (hk : ∀ p : Addr, S p.block → w'.cell? p = w.cell? p) : RNodes w' S v ns := by
  obtain ⟨kvs, hl, hr, he⟩ := h
  exact ⟨kvs, hl, hr.keep hk, fun j n kv h1 h2 => ⟨(he j n kv h1 h2).1.keep hk, (he j n kv h1 h2).2⟩⟩
theorem RNodes.more {ns : List Nd} (h : RNodes w S v ns) (h1 : ∀ b, S b → S' b) : RNodes w S' v ns := by
  obtain ⟨kvs, hl, hr, he⟩ := h
  exact ⟨kvs, hl, hr.more h1, fun j n kv h3 h4 => ⟨(he j n kv h3 h4).1.more h1, (he j n kv h3 h4).2⟩⟩
theorem RTree.keep {t : Tr} (h : RTree w S v t) (hk : ∀ p : Addr, S p.block → w'.cell? p = w.cell? p) : RTree w' S v t := by
  obtain ⟨nv, hv, h1, h2⟩ := h
  exact ⟨nv, hv, h1.keep hk, h2⟩
theorem RTree.more {t : Tr} (h : RTree w S v t) (h1 : ∀ b, S b → S' b) : RTree w S' v t := by
  obtain ⟨nv, hv, h3, h4⟩ := h
  exact ⟨nv, hv, h3.more h1, h4⟩
theorem RTrees.keep {ts : List Tr} (h : RTrees w S v ts) (hk : ∀ p : Addr, S p.block → w'.cell? p = w.cell? p) : RTrees w' S v ts := by
  obtain ⟨nvs, hl, hr, he⟩ := h
  exact ⟨nvs, hl, hr.keep hk, fun j n kv h1 h2 => ⟨(he j n kv h1 h2).1.keep hk, (he j n kv h1 h2).2⟩⟩
theorem RTrees.more {ts : List Tr} (h : RTrees w S v ts) (h1 : ∀ b, S b → S' b) : RTrees w S' v ts := by
  obtain ⟨nvs, hl, hr, he⟩ := h
  exact ⟨nvs, hl, hr.more h1, fun j n kv h3 h4 => ⟨(he j n kv h3 h4).1.more h1, (he j n kv h3 h4).2⟩⟩
variable {B : Nat}
theorem RInts.below {ks : List Int} (h : RInts w S v ks) (hb : Below B w w') (hB : ∀ b, S b → b < B) : RInts w' S v ks := h.keep fun _ hp => hb.cell (hB _ hp)
theorem RNodes.below {ns : List Nd} (h : RNodes w S v ns) (hb : Below B w w') (hB : ∀ b, S b → b < B) : RNodes w' S v ns := h.keep fun _ hp => hb.cell (hB _ hp)
theorem RNode.below {n : Nd} (h : RNode w S v n) (hb : Below B w w') (hB : ∀ b, S b → b < B) : RNode w' S v n := h.keep fun _ hp => hb.cell (hB _ hp)
theorem RTree.below {t : Tr} (h : RTree w S v t) (hb : Below B w w') (hB : ∀ b, S b → b < B) : RTree w' S v t := h.keep fun _ hp => hb.cell (hB _ hp)
theorem RTrees.below {ts : List Tr} (h : RTrees w S v ts) (hb : Below B w w') (hB : ∀ b, S b → b < B) : RTrees w' S v ts := h.keep fun _ hp => hb.cell (hB _ hp)
end
theorem zip_cells {α β : Type} (f : α → β → List Value) (m : Nat) (hf : ∀ a b, (f a b).length = m) (as : List α) (bs : List β) (j : Nat) (a : α) (b : β) (ha : as[j]? = some a) (hb : bs[j]? = some b) (i : Nat) (hi : i < m) :
    (List.zipWith f as bs).flatten[j * m + i]? = (f a b)[i]? := by
  induction as generalizing bs j with
  | nil => simp at ha
  | cons x as ih =>
    cases bs with
    | nil => simp at hb
    | cons y bs =>
      simp only [List.zipWith_cons_cons, List.flatten_cons]
      cases j with
      | zero =>
        simp at ha hb; subst ha; subst hb
        rw [Nat.zero_mul, Nat.zero_add, List.getElem?_append_left (by rw [hf]; exact hi)]
      | succ j =>
        simp only [List.getElem?_cons_succ] at ha hb
        rw [List.getElem?_append_right (by rw [hf, Nat.succ_mul]; omega), hf, ← ih bs j ha hb]
        congr 1
        rw [Nat.succ_mul]; omega
/-- A node of a row of nodes: its nine cells. -/
theorem RNodes.at_ {w : World} {S : Nat → Prop} {v : Value} {ns : List Nd} (h : RNodes w S v ns) : ∃ A c, v = .slice A ns.length c ∧ ns.length ≤ c ∧ ns.length ≤ maxLen ∧
    (0 < ns.length → ∃ b off, A = some ⟨b, off, none⟩ ∧ S b ∧ ∀ (j : Nat) (n : Nd), ns[j]? = some n → ∃ kv, RInts w S kv n.kids ∧ n.d.Ok ∧ ∀ (i : Nat) (u : Value), (nodeCells n kv)[i]? = some u → w.cell? ⟨b, off + (j * 9 + i), none⟩ = some u) := by
  obtain ⟨kvs, hl, ⟨hcl, hs, A, c, hv, hc, hr⟩, he⟩ := h
  refine ⟨A, c, hv, hc, hs, fun hn => ?_⟩
  obtain ⟨b, off, hA, h1, h3⟩ := hr hn
  refine ⟨b, off, hA, h1, fun j n hj => ?_⟩
  have hjl : j < ns.length := (List.getElem?_eq_some_iff.1 hj).1
  have hkv : kvs[j]? = some (kvs[j]'(by omega)) := List.getElem?_eq_getElem (by omega)
  refine ⟨_, (he j n _ hj hkv).1, (he j n _ hj hkv).2, fun i u hu => h3 _ u ?_⟩
  have hi : i < 9 := by have := (List.getElem?_eq_some_iff.1 hu).1; simpa [nodeCells] using this
  rw [nodesCells, zip_cells nodeCells 9 (fun _ _ => rfl) ns kvs j n _ hj hkv i hi]
  exact hu
theorem RInts.at_ {w : World} {S : Nat → Prop} {v : Value} {ks : List Int} (h : RInts w S v ks) : ∃ A c, v = .slice A ks.length c ∧ ks.length ≤ c ∧ ks.length ≤ maxLen ∧
    (0 < ks.length → ∃ b off, A = some ⟨b, off, none⟩ ∧ S b ∧ ∀ (j : Nat) (k : Int), ks[j]? = some k → w.cell? ⟨b, off + j, none⟩ = some (.int .i64 k)) := by
  obtain ⟨_, hs, A, c, hv, hc, hr⟩ := h
  refine ⟨A, c, hv, hc, hs, fun hn => ?_⟩
  obtain ⟨b, off, hA, h1, h3⟩ := hr hn
  exact ⟨b, off, hA, h1, fun j k hk => h3 j _ (by simp [hk])⟩
theorem RTrees.at_ {w : World} {S : Nat → Prop} {v : Value} {ts : List Tr} (h : RTrees w S v ts) : ∃ A c, v = .slice A ts.length c ∧ ts.length ≤ c ∧ ts.length ≤ maxLen ∧
    (0 < ts.length → ∃ b off, A = some ⟨b, off, none⟩ ∧ S b ∧ ∀ (j : Nat) (t : Tr), ts[j]? = some t → ∃ nv, RNodes w S nv t.nodes ∧ (-9223372036854775808 ≤ t.root ∧ t.root ≤ 9223372036854775807) ∧
      w.cell? ⟨b, off + (j * 2), none⟩ = some nv ∧ w.cell? ⟨b, off + (j * 2 + 1), none⟩ = some (.int .i64 t.root)) := by
  obtain ⟨nvs, hl, ⟨hcl, hs, A, c, hv, hc, hr⟩, he⟩ := h
  refine ⟨A, c, hv, hc, hs, fun hn => ?_⟩
  obtain ⟨b, off, hA, h1, h3⟩ := hr hn
  refine ⟨b, off, hA, h1, fun j t hj => ?_⟩
  have hjl : j < ts.length := (List.getElem?_eq_some_iff.1 hj).1
  have hnv : nvs[j]? = some (nvs[j]'(by omega)) := List.getElem?_eq_getElem (by omega)
  refine ⟨_, (he j t _ hj hnv).1, (he j t _ hj hnv).2, h3 _ _ ?_, h3 _ _ ?_⟩
  · have := zip_cells (fun (t : Tr) nv => [nv, Value.int .i64 t.root]) 2 (fun _ _ => rfl) ts nvs j t _ hj hnv 0 (by omega)
    rw [Nat.add_zero] at this
    rw [this]; rfl
  · rw [zip_cells (fun (t : Tr) nv => [nv, Value.int .i64 t.root]) 2 (fun _ _ => rfl) ts nvs j t _ hj hnv 1 (by omega)]; rfl
theorem RNodes.known {w : World} {S : Nat → Prop} {b off c : Nat} {ns : List Nd} (h : RNodes w S (.slice (some ⟨b, off, none⟩) ns.length c) ns) (j : Nat) (n : Nd) (hj : ns[j]? = some n) :
    S b ∧ ∃ A ck, RInts w S (.slice A n.kids.length ck) n.kids ∧ n.d.Ok ∧ n.kids.length ≤ ck ∧ ∀ (i : Nat) (u : Value), (nodeCells n (.slice A n.kids.length ck))[i]? = some u → w.cell? ⟨b, off + (j * 9 + i), none⟩ = some u := by
  obtain ⟨A, c', hv, _, _, hr⟩ := h.at_
  injection hv with hv _ _
  subst hv
  have hjl : j < ns.length := (List.getElem?_eq_some_iff.1 hj).1
  obtain ⟨b', off', hA, h1, h3⟩ := hr (by omega)
  injection hA with hA
  injection hA with e1 e2
  subst e1; subst e2
  obtain ⟨kv, hk, hd, hc⟩ := h3 j n hj
  obtain ⟨Ak, ck, hkv, hl, _, _⟩ := hk.at_
  subst hkv
  exact ⟨h1, Ak, ck, hk, hd, hl, hc⟩
theorem RInts.get {w : World} {S : Nat → Prop} {A : Option Addr} {n c : Nat} {ks : List Int} (h : RInts w S (.slice A n c) ks) (j : Nat) (k : Int) (hj : ks[j]? = some k) : ∃ b off, A = some ⟨b, off, none⟩ ∧ S b ∧ w.cell? ⟨b, off + j, none⟩ = some (.int .i64 k) := by
  obtain ⟨A', c', hv, _, _, hr⟩ := h.at_
  injection hv with hv _ _
  subst hv
  have hjl : j < ks.length := (List.getElem?_eq_some_iff.1 hj).1
  obtain ⟨b, off, hA, h1, h3⟩ := hr (by omega)
  exact ⟨b, off, hA, h1, h3 j k hj⟩
end Go.Proofs.YtlmlbdmbgfclkaaDoor

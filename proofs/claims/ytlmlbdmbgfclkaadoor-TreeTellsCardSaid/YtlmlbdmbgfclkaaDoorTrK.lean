/- The contracts of nots, and small words: a tree that reads in what there is; a row of trees in a block. -/
import Derived.Test.YtlmlbdmbgfclkaaDoorTrF
import Derived.Test.YtlmlbdmbgfclkaaDoorTrL
import Derived.Test.YtlmlbdmbgfclkaaDoorTrG
namespace Go.Proofs.YtlmlbdmbgfclkaaDoor
open Go.RowKit
open Classical

theorem own_at {w : World} {base g n c k : Nat} {e : TypeId} {xs : List Value} {u : Value} (h : w.ownsRow base e 1 (.slice (some ⟨g, 0, none⟩) n c) n xs) (hk : xs[k]? = some u) : w.cell? ⟨g, k, none⟩ = some u := by
  have := h.cells (g := g) rfl k u hk
  have e1 : (⟨g, 0, none⟩ : Addr).add k = ⟨g, k, none⟩ := by
    unfold Addr.add
    split <;> simp_all
  rwa [e1] at this
/-- A tree that reads in what there is. -/
def HasT (w : World) (v : Value) (t : Tr) : Prop := RTree w (fun b => b < w.heap.size) v t
theorem HasT.below {w w' : World} {v : Value} {t : Tr} (h : HasT w v t) (hb : Below w.heap.size w w') : HasT w' v t :=
  (RTree.below h hb fun _ hb => hb).more fun _ h => Nat.lt_of_lt_of_le h hb.size
theorem HasT.given {w : World} {v : Value} {t : Tr} (h : HasT w v t) (hk : KTab w) (hs : t.nodes.length ≤ 500000) : Given t v (fun b => b < w.heap.size) w := ⟨h, fun _ h => h, hk, hs⟩
theorem RTree.has {w : World} {S : Nat → Prop} {v : Value} {t : Tr} (h : RTree w S v t) (hS : ∀ b, S b → b < w.heap.size) : HasT w v t := h.more hS
theorem OwnTree.has {w : World} {base : Nat} {v : Value} {t : Tr} (h : OwnTree w base v t) (h1 : -9223372036854775808 ≤ t.root) (h2 : t.root ≤ 9223372036854775807) : HasT w v t := h.read (fun _ _ h => h) h1 h2
theorem HasT.nodes {w : World} {nv : Value} {r : Int} {t : Tr} (h : HasT w (.agg #[nv, .int .i64 r]) t) : RNodes w (fun b => b < w.heap.size) nv t.nodes := by
  obtain ⟨nv', hv, h1, _⟩ := h
  have e : nv = nv' := by simp at hv; exact hv.1
  rw [e]; exact h1
theorem RTrees.of_blk {w : World} {S : Nat → Prop} {g : Nat} {ty : TypeId} {ts : List Tr} {nvs : List Value} (hl : nvs.length = ts.length) (hb : Blk w g ty (List.zipWith (fun (t : Tr) nv => [nv, Value.int .i64 t.root]) ts nvs).flatten.toArray)
    (hS : S g) (hm : ts.length ≤ maxLen) (h : ∀ (j : Nat) (t : Tr) (nv : Value), ts[j]? = some t → nvs[j]? = some nv → RNodes w S nv t.nodes ∧ -9223372036854775808 ≤ t.root ∧ t.root ≤ 9223372036854775807) :
    RTrees w S (.slice (some ⟨g, 0, none⟩) ts.length ts.length) ts := by
  refine ⟨nvs, hl, ⟨?_, hm, some ⟨g, 0, none⟩, ts.length, rfl, Nat.le_refl _, fun _ => ⟨g, 0, rfl, hS, fun j u hu => ?_⟩⟩, h⟩
  · have hf : ∀ (ts : List Tr) (nvs : List Value), nvs.length = ts.length → (List.zipWith (fun (t : Tr) nv => [nv, Value.int .i64 t.root]) ts nvs).flatten.length = ts.length * 2 := by
      intro ts
      induction ts with
      | nil => intro nvs h; simp
      | cons t ts ih =>
        intro nvs h
        cases nvs with
        | nil => simp at h
        | cons v nvs =>
          simp only [List.zipWith_cons_cons, List.flatten_cons, List.length_append, List.length_cons, List.length_nil]
          rw [ih nvs (by simpa using h)]; omega
    exact hf ts nvs hl
  · rw [Nat.zero_add, hb.cell j]
    simpa using hu
theorem RTrees.one {w : World} {S : Nat → Prop} {g : Nat} {ty : TypeId} {t : Tr} {nv : Value} (hb : Blk w g ty #[nv, .int .i64 t.root]) (hS : S g) (h : RTree w S (.agg #[nv, .int .i64 t.root]) t) : RTrees w S (.slice (some ⟨g, 0, none⟩) 1 1) [t] := by
  obtain ⟨nv', hv, h1⟩ := h
  have e : nv = nv' := by simpa using hv
  subst e
  exact RTrees.of_blk (ts := [t]) (nvs := [nv]) rfl hb hS (by simp [maxLen]) fun j t' nv' h2 h3 => by
    rcases j with _ | j
    · simp at h2 h3; subst h2; subst h3; exact h1
    · simp at h2
theorem RTrees.two {w : World} {S : Nat → Prop} {g : Nat} {ty : TypeId} {t u : Tr} {nv mv : Value} (hb : Blk w g ty #[nv, .int .i64 t.root, mv, .int .i64 u.root]) (hS : S g) (h : RTree w S (.agg #[nv, .int .i64 t.root]) t) (h' : RTree w S (.agg #[mv, .int .i64 u.root]) u) : RTrees w S (.slice (some ⟨g, 0, none⟩) 2 2) [t, u] := by
  obtain ⟨nv', hv, h1⟩ := h
  obtain ⟨mv', hv', h1'⟩ := h'
  have e : nv = nv' := by simpa using hv
  subst e
  have e : mv = mv' := by simpa using hv'
  subst e
  exact RTrees.of_blk (ts := [t, u]) (nvs := [nv, mv]) rfl hb hS (by simp [maxLen]) fun j t' nv' h2 h3 => by
    rcases j with _ | _ | j
    · simp at h2 h3; subst h2; subst h3; exact h1
    · simp at h2 h3; subst h2; subst h3; exact h1'
    · simp at h2

def notD : Dt := ⟨8, 0, 0, 0, 0, [], 0, 0⟩
def seqD : Dt := ⟨4, 0, 0, 0, 0, [], 0, 0⟩
def choiceD : Dt := ⟨5, 0, 0, 0, 0, [], 0, 0⟩
def notsT : Nat → T
  | 0 => .node default []
  | n + 1 => .node notD [notsT n]
theorem notsT_size (n : Nat) : (notsT n).size = n + 1 := by
  induction n with
  | zero => simp [notsT, T.size, sizes]
  | succ n ih => simp [notsT, T.size, sizes, ih]; omega
theorem notsT_depth (n : Nat) : (notsT n).depth = n + 1 := by
  induction n with
  | zero => simp [notsT, T.depth, depths]
  | succ n ih => simp [notsT, T.depth, depths, ih]; omega
/-- A tree all of whose nodes fit. -/
inductive FitT : T → Prop
  | node (d : Dt) (ks : List T) : fits d ks.length = true → (∀ k ∈ ks, FitT k) → FitT (.node d ks)
theorem fit_flat (t : T) (h : FitT t) : ∀ o, ∀ n ∈ flatAt o t, fits n.d n.kids.length = true := by
  induction t using T.ind with
  | h d ks ih =>
    obtain ⟨_, _, h1, h2⟩ := h
    have hs : ∀ (l : List T), (∀ k ∈ l, ∀ o, ∀ n ∈ flatAt o k, fits n.d n.kids.length = true) → ∀ o, ∀ n ∈ flatsAt o l, fits n.d n.kids.length = true := by
      intro l
      induction l with
      | nil => intro _ o n hn; simp [flatsAt] at hn
      | cons t l ih2 =>
        intro hl o n hn
        simp only [flatsAt, List.mem_append] at hn
        rcases hn with hn | hn
        · exact hl t (by simp) o n hn
        · exact ih2 (fun k hk => hl k (by simp [hk])) _ n hn
    intro o n hn
    simp only [flatAt, List.mem_append, List.mem_singleton] at hn
    rcases hn with hn | rfl
    · exact hs ks (fun k hk => ih k hk (h2 k hk)) o n hn
    · simpa using h1
theorem right_flat {t : T} (h : FitT t) : RightT (flatT t) := ⟨shape_flat t, fit_flat t h 0⟩
theorem treeOf_flat (t : T) : treeOf (flatT t) = t := by
  unfold treeOf flatT
  have := t.size_pos
  rw [show ((t.size : Int) - 1).toNat = t.size - 1 by omega]
  exact D_flat0 t
theorem fit_of_right {ns : List Nd} (hl : Low ns) (hf : ∀ n ∈ ns, fits n.d n.kids.length = true) : ∀ i, i < ns.length → FitT (D ns i) :=
  node_ind hl fun i n hn ih => by
    rw [D_eq hl hn]
    refine ⟨_, _, ?_, fun k hk => ?_⟩
    · rw [List.length_map]; exact hf n (List.mem_of_getElem? hn)
    · obtain ⟨j, hj, rfl⟩ := List.mem_map.1 hk
      exact ih j hj
theorem RightT.fitT {t : Tr} (h : RightT t) : FitT (treeOf t) := fit_of_right h.shape.low h.fit _ h.shape.root_lt
theorem fit_nots (n : Nat) : FitT (notsT n) := by
  induction n with
  | zero => exact ⟨_, _, by decide, fun k hk => by simp at hk⟩
  | succ n ih => exact ⟨_, _, (by decide : fits notD ((1 : Nat) : Int) = true), fun k hk => by simp at hk; subst hk; exact ih⟩
theorem right_nots (n : Nat) : RightT (flatT (notsT n)) := right_flat (fit_nots n)
theorem not_may_nots : ¬ MayT (flatT (notsT 100)) := by
  rintro ⟨_, _, h⟩
  rw [treeOf_flat, notsT_depth] at h
  omega
theorem flatT_len (t : T) : (flatT t).nodes.length = t.size := flatAt_length t 0

structure NotsRel (n : Nat) (B g : Nat) (w : World) (k : Nat) (nv : Value) (wr : World) : Prop where
  cell : Blk wr g 24 #[nv, .int .i64 k]
  own : OwnNodes wr 34 (B + 1) (fun b => b ≠ g) nv (flatT (notsT k)).nodes
  box : Blk wr B 24 #[.slice none 0 0, .int .i64 0]
  below : Below B w wr
  gt : B + 1 ≤ g

theorem nots_root (k : Nat) : (flatT (notsT k)).root = (k : Int) := by simp [flatT, notsT_size]
theorem nots_call {n B g k m c : Nat} {A : Option Addr} {w wo : World} (h : NotsRel n B g w k (.slice A m c) wo) (hB : B = w.heap.size) (hk : KTab w) (hkn : k ≤ 1000) :
    Calls Tryd.prog 19 #[.agg #[.int .u8 8, .int .u64 0, .int .u64 0, .int .u64 0, .int .u64 0, .string ⟨#[]⟩, .int .i64 0, .int .i64 0, .slice none 0 0], .slice (some ⟨wo.heap.size, 0, none⟩) 1 1]
      (wo.alloc (.cells #[.slice A m c, .int .i64 k] 24)) fun e w' => ∃ A' m' c', e = .returned (.tuple #[.agg #[.slice A' m' c', .int .i64 ((k + 1 : Nat) : Int)], .bool true]) ∧
        OwnNodes w' 34 (wo.heap.size + 1) (fun _ => True) (.slice A' m' c') (flatT (notsT (k + 1))).nodes ∧ Below (wo.heap.size + 1) (wo.alloc (.cells #[.slice A m c, .int .i64 k] 24)) w' := by
  subst hB
  have hT : HasT wo (.agg #[.slice A m c, .int .i64 (k : Int)]) (flatT (notsT k)) := ⟨_, by rw [nots_root], h.own.nodes, by rw [nots_root]; omega, by rw [nots_root]; omega⟩
  have hO := of_g (N := ⟨notD, []⟩) (kv0 := .slice none 0 0) (ts := [flatT (notsT k)]) (v := .slice (some ⟨wo.heap.size, 0, none⟩) 1 1) (S := fun b => b < wo.heap.size + 1) (w := wo.alloc (.cells #[.slice A m c, .int .i64 (k : Int)] 24)) ⟨by decide, by decide, by decide, by decide, by decide⟩
    ⟨RTrees.one (ty := 24) (t := flatT (notsT k)) (nv := .slice A m c) (by rw [nots_root]; exact Blk.new wo _ _) (Nat.lt_succ_self _) (by rw [nots_root]; exact (hT.below ((Below.refl _ _).alloc (Nat.le_refl _) _)).more fun b hb => by simpa using hb),
      fun b hb => by simpa using hb, (hk.below h.below).below ((Below.refl _ _).alloc (Nat.le_refl _) _), by simp [flatT, notsT_size]; omega, by simp⟩ (by simp [flatT, notsT_size]; omega)
  refine hO.mono ?_
  rintro e w' ⟨u, x, is, rfl, ⟨nv, rfl, ho⟩, hi, hb⟩
  have hf : fits notD ((1 : Nat) : Int) = true := by decide
  obtain ⟨rfl, rfl⟩ := hi.yes hf (by intro t ht; simp at ht; subst ht; exact right_nots k)
  simp only [List.map_cons, List.map_nil, treeOf_flat] at ho ⊢
  change OwnNodes w' _ _ _ nv (flatT (notsT (k + 1))).nodes at ho
  obtain ⟨kvs, ho0⟩ := ho
  obtain ⟨A', c', rfl, _⟩ := own_slice ho0.row
  refine ⟨A', _, c', ?_, ⟨kvs, by simpa using ho0⟩, by simpa using hb⟩
  have := nots_root (k + 1)
  simp only [notsT] at this
  rw [this]
set_option maxHeartbeats 2000000 in
theorem nots_g (n : Nat) (hn : n ≤ 1000) (w : World) (hk : KTab w) :
    Calls Tryd.prog 16 #[.int .i64 n] w fun e w' => ∃ u, e = .returned u ∧ OwnTree w' w.heap.size u (flatT (notsT n)) ∧ Below w.heap.size w w' := by
  have HK := Lib.hid hk
  clear hk
  go_enter Tryd.func16, Tryd.ntmps16
  go_wp2_with (first
    | (go_at_call 20
       refine (Empty_g _).mono ?_
       rintro e w1 ⟨u, rfl, ⟨xv, rfl, kvs, ho0⟩, hb1⟩
       obtain ⟨A2, c2, rfl, _, _, _⟩ := own_slice ho0.row
       have ho : OwnNodes w1 34 _ (fun _ => True) (.slice A2 1 c2) [⟨(default : Dt), []⟩] := ⟨kvs, ho0⟩
       have hb01 : Below w.heap.size w w1 := ((Below.refl _ _).alloc (Nat.le_refl _) _).trans (hb1.mono (by simp <;> omega))
       have hB1 : Blk w1 w.heap.size 24 #[.slice none 0 0, .int .i64 0] := (Blk.new w _ _).below hb1 (by simp)
       have HB1 := Lib.hid hB1
       have HO := Lib.hid ho
       have HS := Lib.hid hb1.size
       clear hb1 hB1 ho ho0)
    | fail)
  have hsz := HS.out
  simp only [World.size_alloc] at hsz
  obtain ⟨g, hg⟩ : ∃ g, g = w1.heap.size := ⟨_, rfl⟩
  have HG := Lib.hid hg
  rw [← hg]
  go_loopw [4] (fun i wr => ∃ (k : Nat) (A : Option Addr) (m c : Nat), k ≤ n ∧ i = .int .i64 k ∧ Hid (NotsRel n w.heap.size g w k (.slice A m c) wr)) (fun i _ => n - (intOf i).toNat)
  case atStart =>
    have hlt : ∀ b, b < w1.heap.size → b ≠ g := fun b hb e => by have := HG.out; omega
    refine ⟨0, A2, 1, c2, Nat.zero_le _, rfl, Lib.hid ⟨?_, ?_, HB1.out.alloc _, hb01.alloc hb01.size _, by omega⟩⟩
    · exact HG.out ▸ Blk.new _ _ _
    · have h1 := HO.out
      simp only [World.size_alloc] at h1
      exact (h1.weaken fun b _ hb _ => hlt b hb).below ((Below.refl _ _).alloc (Nat.le_refl _) _)
  case round =>
    clear hg hsz hb01
    obtain ⟨wo, rfl⟩ : ∃ wo, wo = wr := ⟨_, rfl⟩
    obtain ⟨k, A, m, c, hkn, rfl, HR⟩ := hrel
    have e0 : wo.cell? ⟨g, 0, none⟩ = some (.slice A m c) := HR.out.cell.cell 0
    have e1 : wo.cell? ⟨g, 1, none⟩ = some (.int .i64 k) := HR.out.cell.cell 1
    have hgB : g < wo.heap.size := HR.out.cell.lt
    by_cases hlt : k < n
    · have HL := Lib.hid (nots_call HR.out rfl HK.out (by omega))
      have hlt' : (k : Int) < (n : Int) := by omega
      go_wp2_with (first
        | (go_at_call 19
           refine HL.out.mono ?_
           rintro e w2 ⟨A2, m2, c2, rfl, ho2, hb2⟩
           have hC2 := (HR.out.cell.alloc (.cells #[.slice A m c, .int .i64 k] 24)).below hb2 (by omega)
           have d0 : w2.cell? ⟨g, 0, none⟩ = some (.slice A m c) := hC2.cell 0
           have d1 : w2.cell? ⟨g, 1, none⟩ = some (.int .i64 k) := hC2.cell 1
           have f0 := hC2.frozen 0
           have f1 := hC2.frozen 1
           have HC2 := Lib.hid hC2
           have HO2 := Lib.hid ho2
           have HB2 := Lib.hid hb2
           clear hC2 ho2 hb2)
        | fail)
      go_roundw
      case measure => simp [intOf]; omega
      case rel =>
        refine ⟨k + 1, A2, m2, c2, by omega, by go_num, Lib.hid ⟨HC2.out.set2 _ _, ?_, ?_, ?_, HR.out.gt⟩⟩
        · have h1 := HO2.out.weaken (Y := fun b => b ≠ g) (fun b h1 _ _ => by omega)
          exact (h1.low (grown_set2 _ g 0 1 _ _) (by omega)).base_ (by have := HR.out.gt; omega)
        · have hgt := HR.out.gt
          exact (((HR.out.box.alloc _).below HB2.out (by omega)).far (by simp; omega) _).far (by simp; omega) _
        · have hgt := HR.out.gt
          exact (((HR.out.below.alloc HR.out.below.size _).trans (HB2.out.mono (by omega))).setCell (by simp; omega) _).setCell (by simp; omega) _
    · have hkn' : k = n := by omega
      subst hkn'
      have d0 : wo.cell? ⟨w.heap.size, 0, none⟩ = some (.slice none 0 0) := HR.out.box.cell 0
      have d1 : wo.cell? ⟨w.heap.size, 1, none⟩ = some (.int .i64 0) := HR.out.box.cell 1
      have f0 := HR.out.box.frozen 0
      have f1 := HR.out.box.frozen 1
      go_wp2
      have hB2 := HR.out.box.set2 (.slice A m c) (.int .i64 (k : Int))
      refine bodyPost_ret (results_cell1 rfl _ _ w.heap.size _ _ _ rfl hB2 Tryd.underlying24 rfl tree_size) rfl ?_
      refine ⟨_, rfl, ⟨.slice A m c, by rw [nots_root], ?_⟩, (HR.out.below.setCell (by simp) _).setCell (by simp) _⟩
      exact ((HR.out.own.low (grown_set2 _ _ 0 1 _ _) (by omega)).base_ (by omega)).weaken fun _ _ _ _ => trivial
end Go.Proofs.YtlmlbdmbgfclkaaDoor

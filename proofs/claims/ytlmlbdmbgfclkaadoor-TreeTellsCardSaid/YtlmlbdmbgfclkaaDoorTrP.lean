/- The contract of tree.put: what stands at a node, clean, behind other nodes. -/
import Derived.Test.YtlmlbdmbgfclkaaDoorOwnN
import Derived.Test.YtlmlbdmbgfclkaaDoorTrW
import Derived.Test.YtlmlbdmbgfclkaaDoorLift
import Derived.Laws.CopyOwn
import Derived.Maps.OwnSet
import Derived.Laws.IdiomCopy
namespace Go.Proofs.YtlmlbdmbgfclkaaDoor
open Go.RowKit Go.WideShapes Go.Maps

theorem gRow_false (ns : List Nd) (i : Nat) : gRow false ns i = (post ns i).reverse := rfl
theorem node_info : (Tryd.prog.info? 34).map (fun i => (i.zero, i.size, i.bytes)) = some (some (.agg #[.int .u8 0, .int .u64 0, .int .u64 0, .int .u64 0, .int .u64 0, .string ⟨#[]⟩, .int .i64 0, .int .i64 0, .slice none 0 0]), 9, 96) := by kernel_rfl

theorem int_keys : Keyed Tryd.prog 3 := int_keyed Tryd.underlying3
theorem zero_int (w : World) : (zeroValue 3).run Tryd.prog w = .ok (.int .i64 0) w := by kernel_rfl
theorem int_size : (Tryd.prog.info? 3).map (·.size) = some 1 := by kernel_rfl
/-- make([]int, n) -/
theorem make_ints (n : Nat) (hn : n ≤ 1000000) : ∃ Z : Array Value, Z.size = n ∧ ∀ wx : World, (Instr.makeSlice 27 (.int .i64 (n : Int)) (.int .i64 (n : Int))).run Tryd.prog wx = .ok (.slice (some ⟨wx.heap.size, 0, none⟩) n n) (wx.alloc (.cells Z 3)) := by
  obtain ⟨i0, hi0, hz0, hz1, hz2⟩ := info_parts int_info
  refine ⟨madeCells (Value.cells (.int .i64 0)) (n * i0.size), ?_, fun wx => run_make_rowN _ _ i0 _ Tryd.underlying27 hi0 hz0 _ _ n n (Nat.le_refl _) (by rw [hz2]; omega) (by omega) wx⟩
  rw [hz1]
  simp [madeCells, Value.cells]

theorem half_at {ks : List Int} {place : Int → Int} {m : Nat} {z : Int} (hz : ks[m]? = some z) : ((ks.take m).map place ++ ks.drop m)[m]? = some z := by
  have hm : m < ks.length := (List.getElem?_eq_some_iff.1 hz).1
  have hl : ((ks.take m).map place).length = m := by simp; omega
  rw [List.getElem?_append_right (by omega), hl, Nat.sub_self, List.getElem?_drop]
  exact hz
theorem half_set {ks : List Int} {place : Int → Int} {m : Nat} {z : Int} (hz : ks[m]? = some z) : ((ks.take m).map place ++ ks.drop m).set m (place z) = (ks.take (m + 1)).map place ++ ks.drop (m + 1) := by
  have hm : m < ks.length := (List.getElem?_eq_some_iff.1 hz).1
  have hl : ((ks.take m).map place).length = m := by simp; omega
  rw [List.set_append_right _ _ (by omega), hl, Nat.sub_self, List.drop_eq_getElem_cons hm, List.set_cons_zero, List.take_add_one, hz]
  simp

structure PutRel (ns : List Nd) (base B gR M : Nat) (w : World) (nv : Value) (vo0 : Value) (X : Nat → Prop) (R : List Int) (outs : List Nd) (j : Nat) (vo : Value) (ns' : List Nd) (kvs : List Value) (place : Int → Int) (wr : World) : Prop where
  st : (R.take j).foldl (putStep ns) (outs, fun _ => 0) = (ns', place)
  out : OwnNK wr 34 base X vo ns' kvs
  new : vo.ownBlock = vo0.ownBlock ∨ ∀ g, vo.ownBlock = some g → M < g
  grown : w.grownBy wr vo0.ownBlock
  box : wr.cell? ⟨B, 0, none⟩ = some nv
  row : ∀ (i : Nat) (k : Int), R[i]? = some k → wr.cell? ⟨gR, i, none⟩ = some (.int .i64 k)
  map : MapIs Tryd.prog wr 3 3 M j place

theorem put_row2 {w : World} {base g c : Nat} {e : TypeId} {R : List Int} (h : w.ownsRow base e 1 (.slice (some ⟨g, 0, none⟩) R.length c) R.length (R.reverse.map (Value.int .i64))) :
    ∀ j, j < R.reverse.length → w.cell? ⟨g, 0 + j, none⟩ = some (.int .i64 (R.reverse.getD j 0)) := by
  intro j hj
  have hj2 : j < R.length := by simpa using hj
  rw [Nat.zero_add, h.cellAt j (by omega)]
  rw [List.getElem?_map, List.getD_eq_getElem?_getD, List.getElem?_eq_getElem hj]; rfl

theorem put_start {ns : List Nd} {base gR cu q : Nat} {w w2 w3 : World} {nv rv vo : Value} {te : TypeId} {R : List Int} {outs : List Nd} {kvs : List Value} {X0 : Nat → Prop} (hout : OwnNK w 34 base X0 vo outs kvs)
    (hO : w2.ownsRow (w.alloc (.cells #[nv, rv] te)).heap.size 3 1 (.slice (some ⟨gR, 0, none⟩) R.length cu) R.length (R.reverse.map (Value.int .i64))) (hb : Below (w.alloc (.cells #[nv, rv] te)).heap.size (w.alloc (.cells #[nv, rv] te)) w2)
    (h3 : w3 = (w2.drewN q).setCells gR 0 ((R.reverse.take R.length).reverse.map (Value.int .i64))) :
    PutRel ns base w.heap.size gR w3.heap.size w nv vo (fun b => (b < w.heap.size ∧ X0 b) ∨ w3.heap.size < b) R outs 0 vo outs kvs (fun _ => 0) (w3.alloc (.map #[] 0)) ∧ gR < w3.heap.size ∧ w.heap.size < gR := by
  have hlt := own_blk_lt hO (g := gR) rfl
  have hsz : (w.alloc (.cells #[nv, rv] te)).heap.size = w.heap.size + 1 := by simp
  have hK : (R.reverse.take R.length).reverse.map (Value.int .i64) = (R.reverse.map (Value.int .i64)).reverse := by
    rw [List.take_of_length_le (by simp), List.map_reverse, List.map_reverse]
  have hg3 : w2.grownBy w3 (some gR) := by rw [h3]; exact grown_setCells (only_drewN (grown_refl _ _) q) _ _
  have hrow : w3.ownsRow (w.alloc (.cells #[nv, rv] te)).heap.size 3 1 (.slice (some ⟨gR, 0, none⟩) R.length cu) R.length (R.map (Value.int .i64)) := by
    have h := own_reversed (T := []) (K := R.reverse) (q := q) (by simpa using hO)
    rw [h3, hK]
    simpa using h
  have hbw : Below w.heap.size w (w3.alloc (.map #[] 0)) := by
    have h1 : Below w.heap.size w w2 := ((Below.refl _ _).alloc (Nat.le_refl _) _).trans (hb.mono (by omega))
    have h2 := h1.trans (below_of_grown hg3 (by have := hb.size; omega) (fun r hr => by have : gR = r := by simpa using hr
                                                                                        omega))
    exact h2.alloc h2.size _
  have h3s := hg3.size
  refine ⟨⟨rfl, (hout.weaken (Y := fun b => (b < w.heap.size ∧ X0 b) ∨ w3.heap.size < b) (fun b _ h hx => .inl ⟨h, hx⟩)).frame (only_of_below hbw none) ?_ (fun g h => by cases h), .inl rfl, only_of_below hbw _, ?_, fun i k hk => ?_, MapIs.new _ _ _ _⟩, by omega, by omega⟩
  · cases h : vo.ownBlock with
    | none => exact .inl rfl
    | some g => exact .inr (by simp)
  · have h1 : (w.alloc (.cells #[nv, rv] te)).cell? ⟨w.heap.size, 0, none⟩ = some nv := by simp [Blk.cell (Blk.new w _ _)]
    have h2 : w2.cell? ⟨w.heap.size, 0, none⟩ = some nv := (hb.cell (p := ⟨w.heap.size, 0, none⟩) (by simp)).trans h1
    have h4 : w3.cell? ⟨w.heap.size, 0, none⟩ = some nv := hg3.cell h2 (by simp; omega)
    rw [World.cell?_alloc_lt _ _ _ (cell_lt h4)]
    exact h4
  · have hi : i < R.length := (List.getElem?_eq_some_iff.1 hk).1
    have h1 := hrow.cellAt i (by omega)
    rw [List.getElem?_map, hk] at h1
    rw [World.cell?_alloc_lt _ _ _ (by show gR < _; omega)]
    exact h1
theorem post_mem {ns : List Nd} (h : Low ns) {i : Nat} (hi : i < ns.length) {j : Nat} {k : Int} (hk : (post ns i)[j]? = some k) : 0 ≤ k ∧ k.toNat < ns.length := by
  have := mem_pre h i hi k ((post_perm h i hi).mem_iff.1 (List.mem_of_getElem? hk))
  omega

theorem putStep_length (ns : List Nd) : ∀ (l : List Int) (s : List Nd × (Int → Int)), (l.foldl (putStep ns) s).1.length ≤ s.1.length + l.length := by
  intro l
  induction l with
  | nil => intro s; simp
  | cons k l ih =>
    intro s
    have h1 := ih (putStep ns s k)
    have h2 : (putStep ns s k).1.length ≤ s.1.length + 1 := by unfold putStep; split <;> simp
    simp only [List.foldl_cons, List.length_cons]
    omega
theorem put_round {ns : List Nd} {base B gR M j : Nat} {w wo wy w6 w8 : World} {nv vo0 vo v8 kv : Value} {R : List Int} {outs ns' : List Nd} {kvs' : List Value} {place : Int → Int} {k : Int} {N : Nd} {D : DataW Unit}
    {X : Nat → Prop} (hXM : ¬ X M) (hXn : ∀ b, M < b → X b) (h : PutRel ns base B gR M w nv vo0 X R outs j vo ns' kvs' place wo) (hB : B = w.heap.size) (hbase : base ≤ B) (hBg : B < gR) (hgM : gR < M) (hMo : M < wo.heap.size) (hv0 : ∀ g, vo0.ownBlock = some g → g < B) (hk : R[j]? = some k) (hN : ns[k.toNat]? = some N)
    (hby : Below wo.heap.size wo wy) (hkv : RInts wy (fun b => wo.heap.size ≤ b ∧ b < wy.heap.size ∧ Soft wy b) kv (N.kids.map place)) (hd : N.d.Ok)
    (hm6 : w6.ownsMap Tryd.prog 3 (plainElem Tryd.prog 3) M (j + 1) (D.put (.int .i64 k) (.lit (.int .i64 (ns'.length : Int))))) (hD2 : IsMap D) (hD3 : ∀ z : Int, D.atKey (.int .i64 z) (.lit (.int .i64 0)) = .lit (.int .i64 (place z)))
    (hg6 : wy.grownBy w6 (some M)) (hown8 : w8.ownsRow base 34 9 v8 (ns'.length + 1) (nodesCells ns' kvs' ++ nodeCells ⟨N.d, N.kids.map place⟩ kv)) (hg8 : w6.grownBy w8 vo.ownBlock)
    (hat8 : v8.ownBlock = vo.ownBlock ∨ v8.ownBlock = some (w6.heap.size + 1)) :
    PutRel ns base B gR M w nv vo0 X R outs (j + 1) v8 (ns' ++ [⟨N.d, N.kids.map place⟩]) (kvs' ++ [kv]) (fun i => if i = k then (ns'.length : Int) else place i) w8 := by
  have hvo : ∀ g, vo.ownBlock = some g → g < B ∨ M < g := fun g hg => by
    rcases h.new with e | e
    · exact .inl (hv0 g (e ▸ hg))
    · exact .inr (e g hg)
  have hvl : ∀ g, vo.ownBlock = some g → g < wo.heap.size := fun g hg => (own_blk_lt h.out.row hg).2
  have s1 := hby.size
  have s2 := hg6.size
  have s3 := hg8.size
  have s0 := h.grown.size
  have hchain : ∀ i, i < wo.heap.size → i ≠ M → vo.ownBlock ≠ some i → w8.heap[i]? = wo.heap[i]? := fun i h1 h2 h3 =>
    (hg8.block i (by omega) (fun e => h3 e.symm)).trans ((hg6.block i (by omega) (by simpa using h2)).trans (hby.block i h1))
  have hcell : ∀ a : Addr, a.block < wo.heap.size → a.block ≠ M → vo.ownBlock ≠ some a.block → w8.cell? a = wo.cell? a := fun a h1 h2 h3 => World.cell?_of_block (hchain _ h1 h2 h3)
  have hn1 : some M ≠ vo.ownBlock := fun e => by have := hvo M e.symm; omega
  refine ⟨?_, ?_, ?_, ?_, ?_, ?_, ?_⟩
  · rw [List.take_add_one, hk, List.foldl_append, h.st]
    simp [putStep, hN]
  · have o1 := h.out.frame (only_of_below hby none) (by cases vo.ownBlock <;> simp) (fun g e => by cases e)
    have o2 := o1.frame hg6 (.inr (fun e => hn1 e.symm)) (fun g e hX => by
      have : M = g := by simpa using e
      exact hXM (this ▸ hX))
    refine o2.push ?_ hd hown8 hg8 ?_
    · refine (RInts.keep hkv fun p hp => World.cell?_of_block (hg6.block p.block hp.2.1 (by have := hp.1; simp; omega))).more fun b hb => ⟨by have := hb.1; omega, by have := hb.2.1; omega, fun e => ?_, hXn b (by have := hb.1; omega), hb.2.2.grown hg6 hb.2.1 (by have := hb.1; simp; omega)⟩
      have hb1 := hb.1
      have := hvl b e
      omega
    · rcases hat8 with e | e
      · exact .inl e
      · exact .inr fun g hg => by rw [e] at hg; injection hg; omega
  · rcases hat8 with e | e
    · rw [e]; exact h.new
    · refine .inr fun g hg => ?_
      rw [e] at hg; injection hg with hg; omega
  · refine ⟨hg8.os.trans (hg6.os.trans (hby.os.trans h.grown.os)), hg8.tape.trans (hg6.tape.trans (hby.tape.trans h.grown.tape)), hg8.output.trans (hg6.output.trans (hby.output.trans h.grown.output)), by omega, fun i hi hne => ?_⟩
    rw [hchain i (by omega) (by omega) (fun e => ?_)]
    · exact h.grown.block i hi hne
    · rcases h.new with e1 | e1
      · exact hne (by rw [← e1, e])
      · have := e1 i e; omega
  · rw [hcell _ (by show B < _; omega) (by show B ≠ _; omega) (fun e => by have := hvo B e; omega)]
    exact h.box
  · intro i z hz
    rw [hcell _ (by show gR < _; omega) (by show gR ≠ _; omega) (fun e => by have := hvo gR e; omega)]
    exact h.row i z hz
  · exact (MapIs.put hm6 hD2 hD3).kept hg8 hn1

set_option maxHeartbeats 1000000 in
theorem put_any (t : Tr) (tv : Value) (S : Nat → Prop) (node : Int) (vo : Value) (outs : List Nd) (kvs : List Value) (base : Nat) (w : World) (ht : RTree w S tv t) (hS : ∀ b, S b → b < w.heap.size ∧ vo.ownBlock ≠ some b)
    (hbase : base ≤ w.heap.size) (X0 : Nat → Prop) (hout : OwnNK w 34 base X0 vo outs kvs) (hlow : Low t.nodes) (h0 : 0 ≤ node) (hn : node.toNat < t.nodes.length) (hnd : (post t.nodes node.toNat).Nodup)
    (hsz : (D t.nodes node.toNat).size + outs.length ≤ 1000000) (hks : ∀ n ∈ t.nodes, n.kids.length ≤ 1000000) :
    Calls Tryd.prog 44 #[vo, tv, .int .i64 node] w fun e w' => ∃ u, e = .returned u ∧ OwnNodes w' 34 base (fun b => X0 b ∨ w.heap.size ≤ b) u (outs ++ flatAt outs.length (D t.nodes node.toNat)) ∧
      w.grownBy w' vo.ownBlock ∧ (u.ownBlock = vo.ownBlock ∨ ∀ g, u.ownBlock = some g → w.heap.size ≤ g) := by
  have hps := post_size hlow _ hn
  have hR0 := gRow_pos hlow false _ hn
  have HW := fun (o : Obj) => walk_any t tv S node false (w.alloc o) (ht.keep (fun p hp => World.cell?_alloc_lt w o p (hS _ hp).1)) (fun b hb => by simp; have := (hS b hb).1; omega) hlow h0 hn (by rw [gRow_false, List.length_reverse, hps]; omega)
  simp only [gRow_false, List.length_reverse] at HW hR0
  obtain ⟨R, hR⟩ : ∃ R, R = post t.nodes node.toNat := ⟨_, rfl⟩
  rw [← hR] at HW hps hnd hR0
  have HRd := Lib.hid hR
  have HW := Lib.hid HW
  clear hR
  obtain ⟨nv, rfl, hns, _⟩ := ht
  obtain ⟨A, c, rfl, hc, hs, hcells⟩ := hns.at_
  obtain ⟨b, off, rfl, hb1, hcell⟩ := hcells (by omega)
  obtain ⟨Ao, co, rfl, hco1, hco2, _⟩ := own_slice hout.row
  clear hcell hcells
  have hv0 : ∀ g, (Value.slice Ao outs.length co).ownBlock = some g → g < w.heap.size := fun g hg => (own_blk_lt hout.row hg).2
  have HV0 := Lib.hid hv0
  clear hv0
  have hmm : ∀ wx, (Instr.makeMap 71 (some (.int .i64 (R.length : Int)))).run Tryd.prog wx = .ok (.map (some wx.heap.size)) (wx.alloc (.map #[] 0)) := fun wx => run_makeMap_hint _ _ _ _ _ Tryd.underlying71 wx
  have hRl : R.length ≤ 1000000 := by omega
  have HPS := Lib.hid hps
  clear hps
  go_enter Tryd.func44, Tryd.ntmps44
  go_wp2_with (first
    | (go_at_call 41
       go_loud (refine (HW.out _).mono ?_)
       rintro e w2 ⟨u, rfl, hown2, hb2⟩
       obtain ⟨Au, cu, rfl, hcu1, hcu2, _⟩ := own_slice hown2
       obtain ⟨gR, rfl, hgR1, hgR2, _⟩ := own_some hown2 hR0
       have hrc := put_row2 hown2
       have hw2 := hb2.size
       have HO2 := Lib.hid hown2
       have Hb2 := Lib.hid hb2
       have HRV := Lib.hid (fun cx => Tryd.slices_Reverse_int_cells gR 0 R.length cx R.reverse w2 (by simp) (by omega) hrc (fun j _ => hown2.frozenAt _))
       clear hown2 hrc hb2)
    | (go_at_call 53
       go_loud (refine (HRV.out _).mono ?_)
       rintro e w3 ⟨rfl, q, hw3⟩
       have HW3 := Lib.hid hw3
       clear hw3)
    | fail)
  obtain ⟨hstart, hgR3, hgR4⟩ := put_start (ns := t.nodes) hout HO2.out Hb2.out HW3.out
  have HST := Lib.hid hstart
  clear hstart
  go_loopw [0, 24] (fun vo i wr => ∃ j : Nat, j ≤ R.length ∧ i = .int .i64 j ∧ ∃ (ns' : List Nd) (kvs' : List Value) (place : Int → Int) (A' : Option Addr) (c' : Nat), vo = .slice A' ns'.length c' ∧
    Hid (PutRel t.nodes base w.heap.size gR w3.heap.size w (.slice (some ⟨b, off, none⟩) t.nodes.length c) (.slice Ao outs.length co) (fun b => (b < w.heap.size ∧ X0 b) ∨ w3.heap.size < b) R outs j (.slice A' ns'.length c') ns' kvs' place wr)) (fun _ i _ => R.length - (intOf i).toNat)
  case atStart => exact ⟨0, Nat.zero_le _, rfl, outs, kvs, _, Ao, co, rfl, HST⟩
  case round =>
    obtain ⟨wo, rfl⟩ : ∃ wo, wo = wr := ⟨_, rfl⟩
    obtain ⟨j, hj, rfl, ns', kvs', place, A', c', rfl, HR⟩ := hrel
    by_cases hlt : j < R.length
    · obtain ⟨k, hk⟩ : ∃ k, R[j]? = some k := ⟨_, List.getElem?_eq_getElem hlt⟩
      have hkr := HR.out.row j k hk
      have hkb := post_mem hlow hn (by rw [← HRd.out]; exact hk)
      obtain ⟨N, hN⟩ : ∃ N, t.nodes[k.toNat]? = some N := ⟨_, List.getElem?_eq_getElem hkb.2⟩
      obtain ⟨_, Ak, ck, hki, hdo, hck, hkc⟩ := (hns.grown HR.out.grown hS).known k.toNat N hN
      have c0 : wo.cell? ⟨b, off + k.toNat * 9, none⟩ = some (.int .u8 N.d.kind) := hkc 0 _ rfl
      have c1 : wo.cell? ⟨b, off + k.toNat * 9 + 1, none⟩ = some (.int .u64 N.d.s0) := hkc 1 _ rfl
      have c2 : wo.cell? ⟨b, off + k.toNat * 9 + 2, none⟩ = some (.int .u64 N.d.s1) := hkc 2 _ rfl
      have c3 : wo.cell? ⟨b, off + k.toNat * 9 + 3, none⟩ = some (.int .u64 N.d.s2) := hkc 3 _ rfl
      have c4 : wo.cell? ⟨b, off + k.toNat * 9 + 4, none⟩ = some (.int .u64 N.d.s3) := hkc 4 _ rfl
      have c5 : wo.cell? ⟨b, off + k.toNat * 9 + 5, none⟩ = some (.string ⟨N.d.text.toArray⟩) := hkc 5 _ rfl
      have c6 : wo.cell? ⟨b, off + k.toNat * 9 + 6, none⟩ = some (.int .i64 N.d.min) := hkc 6 _ rfl
      have c7 : wo.cell? ⟨b, off + k.toNat * 9 + 7, none⟩ = some (.int .i64 N.d.max) := hkc 7 _ rfl
      have c8 : wo.cell? ⟨b, off + k.toNat * 9 + 8, none⟩ = some (.slice Ak N.kids.length ck) := hkc 8 _ rfl
      have hbox := HR.out.box
      have hk0 : 0 ≤ k := hkb.1
      have hkl : k < (t.nodes.length : Int) := by omega
      have hnk := hks N (List.mem_of_getElem? hN)
      obtain ⟨Z, hZ, hmk⟩ := make_ints N.kids.length hnk
      have HKR := Lib.hid (Row.reads hki (B := wo.heap.size) (fun b hb => by have := (hS b hb).1; have := HR.out.grown.size; omega))
      obtain ⟨Dm, hD1, hD2, hD3⟩ := HR.out.map
      have hMo := hD1.lt
      have HD := Lib.hid hD1
      have HD3 := Lib.hid hD3
      clear hkc hki hkb hD1 hD3
      go_wp2_with (first
        | (refine wpList_copy_all rfl (.tmp 37) (.tmp 39) _ _ rfl 3 Tryd.underlying27 int_size (wo.heap.size + 1) N.kids.length ck wo.heap.size Ak rfl rfl Z 3 (Blk.new1 _ _ _ _) hZ (N.kids.map (Value.int .i64)) ((HKR.out.alloc (Nat.le_refl _) _).alloc (by simp) _) (by simp [Value.oneCell']) ?_
           intro w5 r5 hB5 hg5
           have HB5 := Lib.hid hB5
           have HG5 := Lib.hid hg5
           clear hB5 hg5)
        | fail)
      have hC5 : Blk w5 wo.heap.size 34 #[.int .u8 N.d.kind, .int .u64 N.d.s0, .int .u64 N.d.s1, .int .u64 N.d.s2, .int .u64 N.d.s3, .string ⟨N.d.text.toArray⟩, .int .i64 N.d.min, .int .i64 N.d.max, .slice Ak N.kids.length ck] :=
        ((Blk.new wo _ _).alloc _).grown HG5.out (by simp)
      have hb5 : Below wo.heap.size wo w5 := (((Below.refl _ _).alloc (Nat.le_refl _) _).alloc (by simp) _).trans (below_of_grown HG5.out (by simp; omega) (fun r hr => by
        have : wo.heap.size + 1 = r := by simpa using hr
        omega))
      have HC5 := Lib.hid hC5
      have Hb5 := Lib.hid hb5
      clear hC5 hb5 hmk c0 c1 c2 c3 c4 c5 c6 c7 c8
      go_loopw [43] (fun i wr => ∃ m : Nat, m ≤ N.kids.length ∧ i = .int .i64 m ∧ Hid (Blk wr (wo.heap.size + 1) 3 (((N.kids.take m).map place ++ N.kids.drop m).map (Value.int .i64)).toArray) ∧
        Hid (Blk wr wo.heap.size 34 #[.int .u8 N.d.kind, .int .u64 N.d.s0, .int .u64 N.d.s1, .int .u64 N.d.s2, .int .u64 N.d.s3, .string ⟨N.d.text.toArray⟩, .int .i64 N.d.min, .int .i64 N.d.max, .slice Ak N.kids.length ck]) ∧ Hid (Below wo.heap.size wo wr)) (fun i _ => N.kids.length - (intOf i).toNat)
      case atStart => exact ⟨0, Nat.zero_le _, rfl, Lib.hid (by simpa using HB5.out), HC5, Hb5⟩
      case round =>
        obtain ⟨m, hm, rfl, HB6, HC6, Hb6⟩ := hrel
        by_cases hml : m < N.kids.length
        · obtain ⟨z, hz⟩ : ∃ z, N.kids[m]? = some z := ⟨_, List.getElem?_eq_getElem hml⟩
          have hzb := hlow _ N hN z (List.mem_of_getElem? hz)
          have hcm : wr.cell? ⟨wo.heap.size + 1, m, none⟩ = some (.int .i64 z) := by
            rw [HB6.out.cell m, List.getElem?_toArray, List.getElem?_map, half_at hz]; rfl
          have hfm := HB6.out.frozen m
          have hwi := Hb6.out.size
          have HD6 := Lib.hid (HD.out.kept (only_of_below Hb6.out none) (by simp))
          have hsl : (t.nodes.length : Int) ≤ 9223372036854775807 := by have := hs; unfold maxLen at this; omega
          have hzw : (Lit.int .i64 z).wf = true := WalkArith.wf_i64 (by omega)
          go_wp2_with (first
            | (at_lookup
               go_loud (refine wpList_lookup_own_int _ rfl (.tmp 48) (.tmp 52) 71 rfl 3 3 .i64 int_keys Tryd.underlying71 Tryd.underlying3 (zero_int _) w3.heap.size j Dm rfl HD6.out _ _ rfl (keyOf_int_mk Tryd.underlying3 hzw) ?_)
               intro x hat hwx
               obtain rfl : x = place z := by rw [HD3.out z] at hat; injection hat with hat; injection hat with _ hat; exact hat.symm)
            | fail)
          go_roundw
          case rel =>
            refine ⟨m + 1, by omega, by go_num, Lib.hid ?_, Lib.hid (HC6.out.far (by simp) _), Lib.hid (Hb6.out.setCell (by simp) _)⟩
            have := HB6.out.set_ m (.int .i64 (place z))
            rw [List.setIfInBounds_toArray, ← List.map_set, half_set hz] at this
            exact this
          case measure => simp [intOf]; omega
        · have hme : m = N.kids.length := by omega
          subst hme
          have hK6 : Blk wr (wo.heap.size + 1) 3 ((N.kids.map place).map (Value.int .i64)).toArray := by
            have := HB6.out
            simpa using this
          have HK6 := Lib.hid hK6
          obtain ⟨d0, d1, d2, d3, d4, d5, d6, d7, d8⟩ := HC6.out.nine
          have hf8 := HC6.out.frozen 8
          have hwi := Hb6.out.size
          have HD6 := Lib.hid (HD.out.kept (only_of_below Hb6.out none) (by simp))
          clear hK6
          have hnl : ns'.length ≤ 1000000 := by
            have h1 := putStep_length t.nodes (R.take j) (outs, fun _ => 0)
            rw [HR.out.st] at h1
            have h2 := HPS.out
            simp only [List.length_take] at h1
            omega
          have HY := fun u => Lib.hid (World.ownsMap.setCell HD6.out (a := ⟨wo.heap.size, 8, none⟩) (by show w3.heap.size ≠ wo.heap.size; omega) u)
          have hkw : (Lit.int .i64 k).wf = true := WalkArith.wf_i64 (by have := hs; unfold maxLen at this; omega)
          have hnw : (Lit.int .i64 (ns'.length : Int)).wf = true := WalkArith.wf_i64 (by omega)
          obtain ⟨i1, hi1, hy0, hy1, hy2⟩ := info_parts node_info
          have HVM : Hid ((Value.slice A' ns'.length c').ownBlock ≠ some w3.heap.size) := Lib.hid fun e => by
            rcases HR.out.new with e1 | e1
            · have := HV0.out _ (e1 ▸ e); omega
            · have := e1 _ e; omega
          rcases Nat.eq_zero_or_pos N.kids.length with hz | hz
          · have HBY : Hid (Below wo.heap.size wo (wr.setCell ⟨wo.heap.size, 8, none⟩ (.slice none 0 0))) := Lib.hid (Hb6.out.setCell (Nat.le_refl _) _)
            go_wp2_with (first
              | (at_mapUpdate
                 go_loud (refine wpList_mapUpdate_own _ rfl (.tmp 62) (.tmp 63) (.tmp 65) 71 rfl 3 3 int_keys Tryd.underlying71 _ w3.heap.size j Dm rfl (HY _).out (by unfold maxLen; omega) _ _ (.int .i64 k) rfl rfl (keyOf_int_mk Tryd.underlying3 hkw) (.lit (.int .i64 (ns'.length : Int))) [] (plainElem_int Tryd.underlying3 hnw) ?_)
                 intro w6 hm6 hg6
                 obtain ⟨e0, e1, e2, e3, e4, e5, e6, e7, e8⟩ := ((HC6.out.set_ 8 (.slice none 0 0)).grown hg6 (by simp; omega)).nine
                 have hO6 := ((HR.out.out.frame (only_of_below HBY.out none) (by cases A' <;> simp [Value.ownBlock]) (fun g e => by cases e)).row).kept hg6 (.inr HVM.out)
                 have HO6 := Lib.hid hO6
                 have hs6 : base ≤ w6.heap.size := Nat.le_trans hbase (Nat.le_trans HR.out.grown.size (Nat.le_trans HBY.out.size hg6.size))
                 clear hO6)
              | (at_builtin
                 go_loud (refine wpList_append1 w6 rfl (.tmp 66) (.tmp 68) _ rfl base 34 i1 _ 9 96 Tryd.underlying22 hi1 hy0 hy1 hy2 rfl (by omega) (.slice A' ns'.length c') ns'.length (nodesCells ns' kvs') rfl HO6.out [_, _, _, _, _, _, _, _, _] rfl rfl (by simp [Value.oneCell']) (by unfold maxLen; omega) (by omega) (by omega) ?_)
                 intro v8 w8 hown8 hg8 hat8)
              | fail)
            go_roundw
            case measure => simp [intOf]; omega
            case rel =>
              obtain ⟨A8, c8, rfl, _, _, _⟩ := own_slice hown8
              have hK0 : N.kids = [] := List.eq_nil_of_length_eq_zero hz
              have hpr := put_round (by omega) (fun _ h => .inr h) HR.out rfl hbase hgR4 hgR3 hMo HV0.out hk hN HBY.out (kv := .slice none 0 0) (by rw [hK0]; exact Row.nil_ _ _ _) hdo hm6 hD2 HD3.out hg6 hown8 hg8 hat8
              have e : (ns' ++ [(⟨N.d, N.kids.map place⟩ : Nd)]).length = ns'.length + 1 := by simp
              exact ⟨j + 1, by omega, by go_num, ns' ++ [⟨N.d, N.kids.map place⟩], _, _, A8, c8, by rw [e], Lib.hid (by rw [e]; exact hpr)⟩
          · have HBY : Hid (Below wo.heap.size wo ((wr.setCell ⟨wo.heap.size, 8, none⟩ (.slice none 0 0)).setCell ⟨wo.heap.size, 8, none⟩ (.slice (some ⟨wo.heap.size + 1, 0, none⟩) N.kids.length N.kids.length))) := Lib.hid ((Hb6.out.setCell (Nat.le_refl _) _).setCell (Nat.le_refl _) _)
            go_wp2_with (first
              | (at_mapUpdate
                 go_loud (refine wpList_mapUpdate_own _ rfl (.tmp 62) (.tmp 63) (.tmp 65) 71 rfl 3 3 int_keys Tryd.underlying71 _ w3.heap.size j Dm rfl (World.ownsMap.setCell (HY _).out (a := ⟨wo.heap.size, 8, none⟩) (by show w3.heap.size ≠ wo.heap.size; omega) _) (by unfold maxLen; omega) _ _ (.int .i64 k) rfl rfl (keyOf_int_mk Tryd.underlying3 hkw) (.lit (.int .i64 (ns'.length : Int))) [] (plainElem_int Tryd.underlying3 hnw) ?_)
                 intro w6 hm6 hg6
                 obtain ⟨e0, e1, e2, e3, e4, e5, e6, e7, e8⟩ := (((HC6.out.set_ 8 (.slice none 0 0)).set_ 8 (.slice (some ⟨wo.heap.size + 1, 0, none⟩) N.kids.length N.kids.length)).grown hg6 (by simp; omega)).nine
                 have hO6 := ((HR.out.out.frame (only_of_below HBY.out none) (by cases A' <;> simp [Value.ownBlock]) (fun g e => by cases e)).row).kept hg6 (.inr HVM.out)
                 have HO6 := Lib.hid hO6
                 have hs6 : base ≤ w6.heap.size := Nat.le_trans hbase (Nat.le_trans HR.out.grown.size (Nat.le_trans HBY.out.size hg6.size))
                 clear hO6)
              | (at_builtin
                 go_loud (refine wpList_append1 w6 rfl (.tmp 66) (.tmp 68) _ rfl base 34 i1 _ 9 96 Tryd.underlying22 hi1 hy0 hy1 hy2 rfl (by omega) (.slice A' ns'.length c') ns'.length (nodesCells ns' kvs') rfl HO6.out [_, _, _, _, _, _, _, _, _] rfl rfl (by simp [Value.oneCell']) (by unfold maxLen; omega) (by omega) (by omega) ?_)
                 intro v8 w8 hown8 hg8 hat8)
              | fail)
            go_roundw
            case measure => simp [intOf]; omega
            case rel =>
              obtain ⟨A8, c8, rfl, _, _, _⟩ := own_slice hown8
              have hpr := put_round (by omega) (fun _ h => .inr h) HR.out rfl hbase hgR4 hgR3 hMo HV0.out hk hN HBY.out (kv := .slice (some ⟨wo.heap.size + 1, 0, none⟩) N.kids.length N.kids.length)
                (by
                  have hsoft := ((HK6.out.far (p := ⟨wo.heap.size, 8, none⟩) (by simp) (.slice none 0 0)).far (p := ⟨wo.heap.size, 8, none⟩) (by simp) (.slice (some ⟨wo.heap.size + 1, 0, none⟩) N.kids.length N.kids.length)).soft
                  have := RInts.of_blk (S := fun b => wo.heap.size ≤ b ∧ b < ((wr.setCell ⟨wo.heap.size, 8, none⟩ (.slice none 0 0)).setCell ⟨wo.heap.size, 8, none⟩ (.slice (some ⟨wo.heap.size + 1, 0, none⟩) N.kids.length N.kids.length)).heap.size ∧ Soft ((wr.setCell ⟨wo.heap.size, 8, none⟩ (.slice none 0 0)).setCell ⟨wo.heap.size, 8, none⟩ (.slice (some ⟨wo.heap.size + 1, 0, none⟩) N.kids.length N.kids.length)) b)
                    ((HK6.out.far (p := ⟨wo.heap.size, 8, none⟩) (by simp) (.slice none 0 0)).far (p := ⟨wo.heap.size, 8, none⟩) (by simp) (.slice (some ⟨wo.heap.size + 1, 0, none⟩) N.kids.length N.kids.length)) ⟨by omega, by have := HK6.out.lt; simpa [World.setCell] using this, hsoft⟩ (by simp [maxLen]; omega)
                  simpa using this)
                hdo hm6 hD2 HD3.out hg6 hown8 hg8 hat8
              have e : (ns' ++ [(⟨N.d, N.kids.map place⟩ : Nd)]).length = ns'.length + 1 := by simp
              exact ⟨j + 1, by omega, by go_num, ns' ++ [⟨N.d, N.kids.map place⟩], _, _, A8, c8, by rw [e], Lib.hid (by rw [e]; exact hpr)⟩
    · have hjR : j = R.length := by omega
      subst hjR
      obtain ⟨place', e1, _, _⟩ := put_post hlow _ hn (by rw [← HRd.out]; exact hnd) outs (fun _ => 0)
      have hst := HR.out.st
      rw [List.take_length, HRd.out, e1] at hst
      injection hst with hst _
      subst hst
      clear e1
      have HE := Lib.hid (HR.out.out.weaken (Y := fun b => X0 b ∨ w.heap.size ≤ b) (fun b _ _ h => h.elim (fun h => .inl h.2) (fun h => .inr (by omega))))
      go_wp2
      go_ret
      refine ⟨_, rfl, ⟨_, HE.out⟩, HR.out.grown, ?_⟩
      rcases HR.out.new with e1 | e1
      · exact .inl e1
      · exact .inr fun g hg => by have := e1 g hg; omega
end Go.Proofs.YtlmlbdmbgfclkaaDoor

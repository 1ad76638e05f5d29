/- The contract of the law's own: a tree in new memory. -/
import Derived.Test.YtlmlbdmbgfclkaaDoorRfS
namespace Go.Proofs.YtlmlbdmbgfclkaaDoor
open Go.RowKit

structure OwnRel (t : Tr) (w : World) (cs : Array Value) (k : Nat) (vo : Value) (kvs : List Value) (wr : World) : Prop where
  box : Blk wr w.heap.size 24 cs
  res : Blk wr (w.heap.size + 1) 24 #[.slice none 0 0, .int .i64 0]
  out : Blk wr (w.heap.size + 2) 24 #[vo, .int .i64 t.root]
  own : OwnNK wr 34 (w.heap.size + 3) (fun _ => True) vo (t.nodes.take k) kvs
  below : Below w.heap.size w wr
theorem OwnRel.round {t : Tr} {w wq w8 wb : World} {cs : Array Value} {k : Nat} {vo v8 kv : Value} {kvs : List Value} {N : Nd} (h : OwnRel t w cs k vo kvs wq) (hN : t.nodes[k]? = some N) (hd : N.d.Ok)
    (hb : Below wq.heap.size wq wb) (hkv : OInts wb wq.heap.size kv N.kids) (hown : w8.ownsRow (w.heap.size + 3) 34 9 v8 (k + 1) (nodesCells (t.nodes.take k) kvs ++ nodeCells N kv)) (hg : wb.grownBy w8 vo.ownBlock)
    (hat : v8.ownBlock = vo.ownBlock ∨ v8.ownBlock = some (wb.heap.size + 1)) : OwnRel t w cs (k + 1) v8 (kvs ++ [kv]) (w8.setCell ⟨w.heap.size + 2, 0, none⟩ v8) := by
  have hk : k < t.nodes.length := (List.getElem?_eq_some_iff.1 hN).1
  have ht : t.nodes.take (k + 1) = t.nodes.take k ++ [N] := by rw [List.take_add_one, hN]; rfl
  have hl : (t.nodes.take k).length = k := by simp; omega
  have hvo : ∀ g, vo.ownBlock = some g → w.heap.size + 3 ≤ g ∧ g < wq.heap.size := fun g hg => own_blk_lt h.own.row hg
  have ho := h.out.lt
  have hs := hb.size
  have hb8 : Below (w.heap.size + 3) wb w8 := below_of_grown hg (by omega) fun g e => (hvo g e).1
  have o1 := h.own.frame (only_of_below hb none) (by cases vo.ownBlock <;> simp) (fun g e => by cases e)
  have o2 : OwnNK w8 34 (w.heap.size + 3) (fun _ => True) v8 (t.nodes.take k ++ [N]) (kvs ++ [kv]) := by
    refine o1.push (RInts.of_own hkv fun b hb2 => ?_) hd (by rw [hl]; exact hown) hg ?_
    · have h1 := hkv.lt b hb2
      exact ⟨by omega, h1.2, fun e => by have := (hvo b e).2; omega, trivial, own_soft hkv hb2⟩
    · rcases hat with e | e
      · exact .inl e
      · exact .inr fun g hg2 => by rw [e] at hg2; injection hg2; omega
  refine ⟨((h.box.below hb h.box.lt).below hb8 (by omega)).far (by simp) _, ((h.res.below hb h.res.lt).below hb8 (by omega)).far (by simp) _, ?_, ?_, ((h.below.trans (hb.mono h.below.size)).trans (hb8.mono (by omega))).setCell (by simp) _⟩
  · have := ((h.out.below hb h.out.lt).below hb8 (by omega)).set_ 0 v8
    simpa using this
  · rw [ht]
    have hg1 : w8.grownBy (w8.setCell ⟨w.heap.size + 2, 0, none⟩ v8) (some (w.heap.size + 2)) := only_setCell (grown_refl _ _) (.inl rfl) _
    exact (o2.weaken (Y := fun b => w.heap.size + 3 ≤ b) fun b h1 _ _ => h1).frame hg1 (.inr fun e => by have := (own_blk_lt o2.row e).1; omega) (fun g e hx => by injection e with e; omega) |>.weaken fun _ _ _ _ => trivial

theorem own_mid {t : Tr} {w wq wy w2 : World} {cs cN : Array Value} {k c1 : Nat} {vo v1 : Value} {kvs : List Value} {A1 : Option Addr} {K : List Int} (h : OwnRel t w cs k vo kvs wq) (hk : k ≤ t.nodes.length) (hby : Below wq.heap.size wq wy) (hsy : wy.heap.size = wq.heap.size + 2)
    (hny : Blk wy wq.heap.size 34 cN) (hv : v1 = .slice A1 (0 + K.length) c1) (hown1 : w2.ownsRow wq.heap.size 3 1 v1 (0 + K.length) ([] ++ K.map (Value.int .i64)))
    (hg1 : wy.grownBy w2 (Value.slice (some ⟨wq.heap.size + 1, 0, none⟩) 0 0).ownBlock) :
    Blk w2 wq.heap.size 34 cN ∧ w2.cell? ⟨w.heap.size + 2, 0, none⟩ = some vo ∧ Below wq.heap.size wq (w2.setCell ⟨wq.heap.size, 8, none⟩ (.slice A1 K.length c1)) ∧ OInts (w2.setCell ⟨wq.heap.size, 8, none⟩ (.slice A1 K.length c1)) wq.heap.size (.slice A1 K.length c1) K ∧
      (w2.setCell ⟨wq.heap.size, 8, none⟩ (.slice A1 K.length c1)).ownsRow (w.heap.size + 3) 34 9 vo k (nodesCells (t.nodes.take k) kvs) ∧ w.heap.size + 3 ≤ (w2.setCell ⟨wq.heap.size, 8, none⟩ (.slice A1 K.length c1)).heap.size := by
  subst hv
  simp only [Nat.zero_add, List.nil_append] at hown1
  have hgb : ∀ r, (Value.slice (some ⟨wq.heap.size + 1, 0, none⟩) 0 0).ownBlock = some r → wq.heap.size + 1 ≤ r := fun r hr => by
    have : wq.heap.size + 1 = r := by simpa [Value.ownBlock] using hr
    omega
  have hol := h.out.lt
  have hn2 := hny.grown hg1 (fun e => by have := hgb _ e.symm; omega)
  have hb2 : Below wq.heap.size wq w2 := hby.trans (below_of_grown hg1 (by omega) (fun r hr => by have := hgb r hr; omega))
  have hwb : Below wq.heap.size wq (w2.setCell ⟨wq.heap.size, 8, none⟩ (.slice A1 K.length c1)) := hb2.setCell (by simp) _
  have hlk : (t.nodes.take k).length = k := by rw [List.length_take]; omega
  have hrow := (h.own.frame (only_of_below hwb none) (by cases vo.ownBlock <;> simp) (fun g e => by cases e)).row
  rw [hlk] at hrow
  refine ⟨hn2, (hb2.cell (p := ⟨w.heap.size + 2, 0, none⟩) hol).trans (h.out.cell 0), hwb, ?_, hrow, Nat.le_trans (by omega) hwb.size⟩
  refine OInts.frame (r := some wq.heap.size) hown1 (only_setCell (grown_refl _ _) (.inl rfl) _) ?_
  cases hv : (Value.slice A1 K.length c1).ownBlock with
  | none => exact .inl rfl
  | some g =>
    refine .inr fun e => ?_
    injection e with e
    subst e
    have hcur : ∃ cur, Blk w2 wq.heap.size 3 cur := by
      rcases hown1.2 with ⟨h1, _⟩ | ⟨g', cap, cur, h1, _, hh, _⟩
      · rw [h1] at hv; simp [Value.ownBlock] at hv
      · rw [h1] at hv
        have : g' = wq.heap.size := by simpa [Value.ownBlock] using hv
        subst this
        exact ⟨cur, hh⟩
    obtain ⟨cur, hcur⟩ := hcur
    exact Blk.ne_ hn2 hcur (by decide) rfl

set_option maxRecDepth 20000 in
set_option maxHeartbeats 4000000 in
theorem own_g {t : Tr} {v : Value} {S : Nat → Prop} {w : World} (h : GivenR t v S w) :
    Calls Tryd.prog 27 #[v] w fun e w' => (∃ u, e = .returned u ∧ OwnTree w' w.heap.size u t) ∧ Below w.heap.size w w' := by
  obtain ⟨nv, rfl, hns, hr1, hr2⟩ := h.given.read
  obtain ⟨A, c, rfl, hc, hs, _⟩ := hns.at_
  have hS := h.given.old
  have hsm := h.given.small
  have hks := h.kids
  have HNS := Lib.hid hns
  obtain ⟨i0, hi0, hz0, hz1, hz2⟩ := info_parts int_info
  obtain ⟨i1, hi1, hy0, hy1, hy2⟩ := info_parts node_info
  obtain ⟨n, hn⟩ : ∃ n, n = t.nodes.length := ⟨_, rfl⟩
  have HN := Lib.hid hn
  rw [← hn] at HNS hsm ⊢
  clear hns h hn hc hs
  go_enter Tryd.func27, Tryd.ntmps27
  go_wp2_with fail
  go_loopw [4] (fun i wr => ∃ (k : Nat) (Ao : Option Addr) (co : Nat) (kvs : List Value), k ≤ n ∧ i = .int .i64 k ∧ Hid (OwnRel t w #[.slice A n c, .int .i64 t.root] k (.slice Ao k co) kvs wr)) (fun i _ => n - (intOf i).toNat)
  case atStart =>
    refine ⟨0, none, 0, [], Nat.zero_le _, rfl, Lib.hid ⟨((Blk.new w _ _).alloc _).alloc _, (Blk.new1 w _ _ _).alloc _, ?_, ?_, (((Below.refl _ _).alloc (Nat.le_refl _) _).alloc (by simp) _).alloc (by simp; omega) _⟩⟩
    · have := Blk.new ((w.alloc (.cells #[.slice A n c, .int .i64 t.root] 24)).alloc (.cells #[.slice none 0 0, .int .i64 0] 24)) 24 #[.slice none 0 0, .int .i64 t.root]
      simpa using this
    · exact OwnNK.nil_ _ _ _ _
  case round =>
    obtain ⟨wq, rfl⟩ : ∃ wq, wq = wr := ⟨_, rfl⟩
    obtain ⟨k, Ao, co, kvs, hk, rfl, HR⟩ := hrel
    have d0 : wq.cell? ⟨w.heap.size, 0, none⟩ = some (.slice A n c) := HR.out.box.cell 0
    by_cases hlt : k < n
    · obtain ⟨N, hN⟩ : ∃ N, t.nodes[k]? = some N := ⟨_, List.getElem?_eq_getElem (by rw [← HN.out]; exact hlt)⟩
      obtain ⟨b, off, Ak, ck, rfl, hbS, hki, hdo, c0, c1, c2, c3, c4, c5, c6, c7, c8⟩ := ((by have := HNS.out; rw [HN.out] at this; exact this : RNodes w S (.slice A t.nodes.length c) t.nodes).below HR.out.below hS).get k N hN
      have hkl := hks N (List.mem_of_getElem? hN)
      have hbB := hS b hbS
      have hbo := HR.out.below.size
      have hol := HR.out.out.lt
      have e20 : wq.cell? ⟨w.heap.size + 2, 0, none⟩ = some (.slice Ao k co) := HR.out.out.cell 0
      have hk0 : (0 : Int) ≤ (k : Int) := by omega
      have hkn : (k : Int) < (n : Int) := by omega
      have HN2 := Lib.hid hN
      have HDO := Lib.hid hdo
      have HE20 := Lib.hid e20
      obtain ⟨cs, hcs⟩ : ∃ cs : Array Value, cs = #[.int .u8 N.d.kind, .int .u64 N.d.s0, .int .u64 N.d.s1, .int .u64 N.d.s2, .int .u64 N.d.s3, .string ⟨N.d.text.toArray⟩, .int .i64 N.d.min, .int .i64 N.d.max, .slice Ak N.kids.length ck] := ⟨_, rfl⟩
      obtain ⟨wy, hwy⟩ : ∃ wy, wy = (wq.alloc (.cells cs 34)).alloc (.cells #[] 3) := ⟨_, rfl⟩
      have hby : Below wq.heap.size wq wy := by rw [hwy]; exact ((Below.refl _ _).alloc (Nat.le_refl _) _).alloc (by simp) _
      have hsy : wy.heap.size = wq.heap.size + 2 := by rw [hwy]; simp
      have hny : Blk wy wq.heap.size 34 cs := by rw [hwy]; exact (Blk.new _ _ _).alloc _
      have hoy : wy.ownsRow wq.heap.size 3 1 (.slice (some ⟨wq.heap.size + 1, 0, none⟩) 0 0) 0 [] := by
        rw [hwy]
        have := World.ownsRow_lit (base := wq.heap.size) (e := 3) (size := 1) (wq.alloc (.cells cs 34)) #[] 0 (by simp) (by simp [maxLen]) rfl
        simpa using this
      have hrd : Reads wy wy.heap.size 1 Ak N.kids.length (N.kids.map (Value.int .i64)) := Row.reads (hki.keep fun p hp => hby.cell (by have := hS _ hp; omega)) (fun b hb => by have := hS b hb; omega)
      rw [hcs] at hwy hny
      have HWY := Lib.hid hwy
      have HBY := Lib.hid hby
      have HSY := Lib.hid hsy
      have HKT := Lib.hid (show k ≤ t.nodes.length by have := HN.out; omega)
      have HNY := Lib.hid hny
      have HOY := Lib.hid hoy
      have HRD := Lib.hid hrd
      have hbas : wq.heap.size ≤ wy.heap.size := by omega
      rw [HWY.out] at HOY HRD hbas
      clear hki hdo hN hcs hwy hby hny hoy hrd e20
      go_wp2_with (first
        | (at_builtin
           go_loud (refine wpList_append_any _ rfl (.tmp 21) (.tmp 23) _ rfl wq.heap.size 3 i0 _ 1 8 Tryd.underlying27 hi0 hz0 hz1 hz2 rfl (by omega) (.slice (some ⟨wq.heap.size + 1, 0, none⟩) 0 0) 0 [] rfl HOY.out _ Ak N.kids.length ck (N.kids.map (Value.int .i64)) rfl HRD.out (by simp [Value.oneCell']) (by unfold maxLen; omega) (by omega) hbas ?_)
           rw [← HWY.out]
           intro v1 w2 hown1 hg1 _
           obtain ⟨A1, c1, hv1, _, _, _⟩ := own_slice hown1
           obtain ⟨hn2, e20, hwb, hkv, hrow, hbw⟩ := own_mid HR.out HKT.out HBY.out HSY.out HNY.out hv1 hown1 hg1
           simp only [Nat.zero_add] at hv1
           subst hv1
           obtain ⟨e0, e1, e2, e3, e4, e5, e6, e7, e8⟩ := hn2.nine
           have f8 := hn2.frozen 8
           have HROW := Lib.hid hrow
           have HKV := Lib.hid hkv
           have HWB := Lib.hid hwb
           clear hown1 hg1 hn2 hwb hkv hrow)
        | (at_builtin
           go_loud (refine wpList_append1N (w2.setCell ⟨wq.heap.size, 8, none⟩ (.slice A1 N.kids.length c1)) w2.heap.size (setCell_size _ _ _) rfl (.tmp 27) (.tmp 29) _ rfl (w.heap.size + 3) 34 i1 _ 9 96 Tryd.underlying22 hi1 hy0 hy1 hy2 rfl (by omega) (.slice Ao k co) k (nodesCells (t.nodes.take k) kvs) rfl HROW.out [_, _, _, _, _, _, _, _, _] rfl rfl (by simp [Value.oneCell']) (by unfold maxLen; omega) (by omega) hbw ?_)
           intro v8 w8 hown8 hg8 hat8
           obtain ⟨A8, c8', rfl, _, _, _⟩ := own_slice hown8
           have ho8 := (HR.out.out.below HWB.out hol).grown hg8 (fun e => by have := (own_blk_lt HR.out.own.row e.symm).1; omega)
           have e21 : w8.cell? ⟨w.heap.size + 2, 0, none⟩ = some (.slice Ao k co) := ho8.cell 0
           have f21 := ho8.frozen 0
           have HOWN8 := Lib.hid hown8
           have HG8 := Lib.hid hg8
           have HAT8 := Lib.hid hat8
           clear hown8 hg8 hat8 ho8)
        | fail)
      go_roundw
      case measure => simp [intOf]; omega
      case rel => exact ⟨k + 1, A8, c8', _, by omega, by go_num, Lib.hid (HR.out.round HN2.out HDO.out HWB.out HKV.out HOWN8.out HG8.out HAT8.out)⟩
    · obtain rfl : k = n := by omega
      have e20 : wq.cell? ⟨w.heap.size + 2, 0, none⟩ = some (.slice Ao k co) := HR.out.out.cell 0
      have e21 : wq.cell? ⟨w.heap.size + 2, 1, none⟩ = some (.int .i64 t.root) := HR.out.out.cell 1
      have r0 : wq.cell? ⟨w.heap.size + 1, 0, none⟩ = some (.slice none 0 0) := HR.out.res.cell 0
      have r1 : wq.cell? ⟨w.heap.size + 1, 1, none⟩ = some (.int .i64 0) := HR.out.res.cell 1
      have f0 := HR.out.res.frozen 0
      have f1 := HR.out.res.frozen 1
      go_wp2_with fail
      have hB2 := HR.out.res.set2 (.slice Ao k co) (.int .i64 t.root)
      refine bodyPost_ret (results_cell1 rfl _ _ (w.heap.size + 1) _ _ _ rfl hB2 Tryd.underlying24 rfl tree_size) rfl ?_
      refine ⟨⟨_, rfl, ⟨.slice Ao k co, rfl, ?_⟩⟩, (HR.out.below.setCell (by simp) _).setCell (by simp) _⟩
      have h1 := HR.out.own
      rw [HN.out, List.take_length] at h1
      have h2 : OwnNodes wq 34 (w.heap.size + 3) (fun _ => True) (.slice Ao k co) t.nodes := ⟨kvs, by rw [HN.out]; exact h1⟩
      exact (h2.low (g := w.heap.size + 1) (grown_set2 _ _ 0 1 _ _) (by omega)).base_ (by omega)
end Go.Proofs.YtlmlbdmbgfclkaaDoor

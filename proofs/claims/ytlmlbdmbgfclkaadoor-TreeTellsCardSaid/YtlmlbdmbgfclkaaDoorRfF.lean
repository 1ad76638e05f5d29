/- The contract of bonsairef04.Sub. -/
import Derived.Test.YtlmlbdmbgfclkaaDoorRfE
import Derived.Test.YtlmlbdmbgfclkaaDoorTrG
namespace Go.Proofs.YtlmlbdmbgfclkaaDoor
open Go.RowKit

/-- What stands behind each round of the second loop: nodes so far, and their places in a table. -/
structure PT (t : Tr) (w : World) (cs : Array Value) (P : List Int) (j : Nat) (vb : Value) (gT : Nat) (vo : Value) (ns' : List Nd) (kvs : List Value) (place : Int → Int) (wr : World) : Prop where
  st : (P.take j).foldl (putStep t.nodes) ([], fun _ => 0) = (ns', place)
  out : OwnNK wr 34 (w.heap.size + 2) (fun b => gT < b) vo ns' kvs
  new : ∀ g, vo.ownBlock = some g → gT < g
  row : OInts wr (w.heap.size + 2) vb P.reverse
  old : ∀ g, vb.ownBlock = some g → g < gT
  tab : Blk wr gT 3 (tabOf t.nodes.length fun i => place (i : Int)).toArray
  far : w.heap.size + 2 ≤ gT
  box : Blk wr w.heap.size 24 cs
  res : Blk wr (w.heap.size + 1) 24 #[.slice none 0 0, .int .i64 0]
  below : Below w.heap.size w wr
theorem grown_then_below {a w w' : World} {r : Option Nat} (h : a.grownBy w r) (hb : Below w.heap.size w w') : a.grownBy w' r :=
  ⟨hb.os.trans h.os, hb.tape.trans h.tape, hb.output.trans h.output, Nat.le_trans h.size hb.size, fun i hi hr => (hb.block i (Nat.lt_of_lt_of_le hi h.size)).trans (h.block i hi hr)⟩
theorem PT.round {t : Tr} {w wo wb w8 : World} {cs : Array Value} {P : List Int} {j gT : Nat} {vb vo v8 kv : Value} {ns' : List Nd} {kvs : List Value} {place : Int → Int} {k : Int} {N : Nd} (h : PT t w cs P j vb gT vo ns' kvs place wo)
    (hk : P[j]? = some k) (hN : t.nodes[k.toNat]? = some N) (h0 : 0 ≤ k) (hd : N.d.Ok) (hgb : wo.grownBy wb (some gT)) (htab : Blk wb gT 3 (tabOf t.nodes.length fun i => if (i : Int) = k then (ns'.length : Int) else place (i : Int)).toArray)
    (hkv : OInts wb wo.heap.size kv (N.kids.map place)) (hown8 : w8.ownsRow (w.heap.size + 2) 34 9 v8 (ns'.length + 1) (nodesCells ns' kvs ++ nodeCells ⟨N.d, N.kids.map place⟩ kv)) (hg8 : wb.grownBy w8 vo.ownBlock)
    (hat8 : v8.ownBlock = vo.ownBlock ∨ v8.ownBlock = some (wb.heap.size + 1)) :
    PT t w cs P (j + 1) vb gT v8 (ns' ++ [⟨N.d, N.kids.map place⟩]) (kvs ++ [kv]) (fun i => if i = k then (ns'.length : Int) else place i) w8 := by
  have hTl := h.tab.lt
  have hbl : Below (w.heap.size + 2) wo wb := below_of_grown hgb (by have := h.far; omega) (fun r hr => by have := h.far; injection hr with hr; omega)
  have hvo : ∀ g, vo.ownBlock = some g → w.heap.size + 2 ≤ g := fun g hg => (own_blk_lt h.out.row hg).1
  have hs1 := hgb.size
  have hbl8 : Below (w.heap.size + 2) wb w8 := below_of_grown hg8 (by have := h.far; omega) hvo
  refine ⟨?_, ?_, ?_, ?_, h.old, ?_, h.far, ?_, ?_, ?_⟩
  · rw [List.take_add_one, hk, List.foldl_append, h.st]
    simp [putStep, hN]
  · have o2 := h.out.frame hgb (.inr fun e => by have := h.new gT e; omega) (fun g e hX => by injection e with e; omega)
    refine o2.push (RInts.of_own hkv fun b hb => ?_) hd hown8 hg8 ?_
    · have h1 := hkv.lt b hb
      refine ⟨by have := h.far; omega, h1.2, fun e => ?_, by omega, own_soft hkv hb⟩
      have := (own_blk_lt h.out.row e).2
      omega
    · rcases hat8 with e | e
      · exact .inl e
      · exact .inr fun g hg => by rw [e] at hg; injection hg; omega
  · intro g hg
    rcases hat8 with e | e
    · exact h.new g (e ▸ hg)
    · rw [e] at hg; injection hg with hg; omega
  · have r1 := h.row.frame hgb (by
      cases hv : vb.ownBlock with
      | none => exact .inl rfl
      | some g => exact .inr fun e => by injection e with e; have := h.old g hv; omega)
    refine r1.frame hg8 ?_
    cases hv : vb.ownBlock with
    | none => exact .inl rfl
    | some g => exact .inr fun e => by have h1 := h.old g hv; have h2 := h.new g e.symm; omega
  · exact htab.grown hg8 fun e => by have := h.new gT e.symm; omega
  · exact (h.box.below hbl (by omega)).below hbl8 (by omega)
  · exact (h.res.below hbl (by omega)).below hbl8 (by omega)
  · exact h.below.trans ((hbl.mono (by omega)).trans (hbl8.mono (by omega)))

set_option maxRecDepth 20000 in
set_option maxHeartbeats 8000000 in
theorem rsub_g {t : Tr} {v : Value} {S : Nat → Prop} {w : World} (h : GivenR t v S w) (node : Int) :
    Calls Tryd.prog 35 #[v, .int .i64 node] w fun e w' => ∃ u x is, e = .returned (.tuple #[u, .bool is]) ∧ OwnTree w' w.heap.size u x ∧ IsSub t node x is ∧ Below w.heap.size w w' := by
  classical
  have HR := Lib.hid (fun wx (hx : Below w.heap.size w wx) => rright_g (h.below hx))
  obtain ⟨nv, rfl, hns, hr1, hr2⟩ := h.given.read
  obtain ⟨A, c, rfl, hc, hs, hcells⟩ := hns.at_
  have HG := Lib.hid h
  by_cases hin : RightT t ∧ 0 ≤ node ∧ node < (t.nodes.length : Int)
  · obtain ⟨hr, h0, hn⟩ := hin
    rw [decide_eq_true hr] at HR
    have hlow := hr.shape.low
    have hsm := h.given.small
    have hS := h.given.old
    obtain ⟨b, off, rfl, hbS, _⟩ := hcells (by omega)
    have hbB := hS b hbS
    have hnl : node.toNat < t.nodes.length := by omega
    obtain ⟨P, hP⟩ : ∃ P, P = post t.nodes node.toNat := ⟨_, rfl⟩
    have hPl : P.length ≤ 500000 := by
      rw [hP, post_size hlow _ hnl]
      have := size_le hr.shape node.toNat hnl
      omega
    have hmk := make_zeros t.nodes.length (by omega)
    obtain ⟨Z, hZ⟩ : ∃ Z, Z = (tabOf t.nodes.length fun _ => 0).toArray := ⟨_, rfl⟩
    rw [← hZ] at hmk
    have HZ := Lib.hid hZ
    have HP := Lib.hid hP
    have HROW := Lib.hid (show P.reverse = [] ++ rest false t.nodes [node] by rw [hP]; simp [rest, gRow])
    have HFIN := Lib.hid (put_post hlow node.toNat hnl (post_nodup hr.shape _ hnl) [] (fun _ => 0))
    have HMEM := Lib.hid (fun (j : Nat) (k : Int) (hk : P[j]? = some k) => post_mem hlow hnl (by rw [← hP]; exact hk))
    have HNS := Lib.hid hns
    have HRT := Lib.hid hr
    obtain ⟨i0, hi0, hz0, hz1, hz2⟩ := info_parts int_info
    obtain ⟨i1, hi1, hy0, hy1, hy2⟩ := info_parts node_info
    clear hns h hr hcells hP hZ
    go_enter Tryd.func35, Tryd.ntmps35
    go_wp2_with fail
    refine (HR.out _ (((Below.refl _ _).alloc (Nat.le_refl _) _).alloc (by simp) _)).mono ?_
    rintro e w1 ⟨rfl, hb1⟩
    have hb01 : Below w.heap.size w w1 := (((Below.refl _ _).alloc (Nat.le_refl _) _).alloc (by simp) _).trans (hb1.mono (by simp; omega))
    have hB1 : Blk w1 w.heap.size 24 #[.slice (some ⟨b, off, none⟩) t.nodes.length c, .int .i64 t.root] := ((Blk.new w _ _).alloc _).below hb1 (by simp; omega)
    have hC1 : Blk w1 (w.heap.size + 1) 24 #[.slice none 0 0, .int .i64 0] := (Blk.new1 _ _ _ _).below hb1 (by simp)
    have d0 : w1.cell? ⟨w.heap.size, 0, none⟩ = some (.slice (some ⟨b, off, none⟩) t.nodes.length c) := hB1.cell 0
    have hw1 : w.heap.size + 1 < w1.heap.size := hC1.lt
    have HB1 := Lib.hid hB1
    have HC1 := Lib.hid hC1
    have Hb01 := Lib.hid hb01
    clear hb1 hB1 hb01 hC1
    go_wp2_with fail
    go_loopw [6, 7] (fun vo vt wr => ∃ (O Td : List Int) (Ao : Option Addr) (co : Nat) (At : Option Addr) (ct : Nat), vo = .slice Ao O.length co ∧ vt = .slice At Td.length ct ∧ Hid (RW t false (w.heap.size + 2) w.heap.size w #[.slice (some ⟨b, off, none⟩) t.nodes.length c, .int .i64 t.root] P.reverse O Td (.slice Ao O.length co) (.slice At Td.length ct) wr) ∧ Hid (Blk wr (w.heap.size + 1) 24 #[.slice none 0 0, .int .i64 0])) (fun vo _ _ => P.length - lenOf vo)
    case atStart =>
      refine ⟨[], [node], none, 0, some ⟨w1.heap.size, 0, none⟩, 1, rfl, rfl, Lib.hid ⟨OInts.nil_ _ _, ?_, Ap.nil_ _ _, HROW.out, fun k hk => ?_, HB1.out.alloc _, Hb01.out.alloc Hb01.out.size _⟩, Lib.hid (HC1.out.alloc _)⟩
      · exact OInts.lit1 w1 _ _ (by omega)
      · simp at hk; subst hk; exact ⟨h0, hnl⟩
    case round =>
      clear d0
      obtain ⟨wo, rfl⟩ : ∃ wo, wo = wr := ⟨_, rfl⟩
      obtain ⟨O, Td, Ao, co, At, ct, rfl, rfl, HW, HC⟩ := hrel
      have d0 : wo.cell? ⟨w.heap.size, 0, none⟩ = some (.slice (some ⟨b, off, none⟩) t.nodes.length c) := HW.out.box.cell 0
      rcases nil_or_snoc Td with rfl | ⟨T, k, rfl⟩
      · have hPO : P.reverse = O := by have := HW.out.row; simpa [rest] using this
        obtain rfl : O = P.reverse := hPO.symm
        have hlen : (P.reverse).length = P.length := List.length_reverse
        rw [hlen] at HW ⊢
        obtain ⟨n, hn'⟩ : ∃ n, n = P.length := ⟨_, rfl⟩
        have HNN := Lib.hid hn'
        rw [← hn'] at HW hPl ⊢
        clear hPO hlen hn'
        go_wp2_with fail
        have HWo := HW
        go_loopw [10, 11] (fun vo i wr => ∃ (m : Nat) (z : Int) (ns' : List Nd) (kvs : List Value) (place : Int → Int) (A' : Option Addr) (c' : Nat), m ≤ n ∧ i = .int .i64 z ∧ z = (m : Int) - 1 ∧ vo = .slice A' ns'.length c' ∧
          Hid (PT t w #[.slice (some ⟨b, off, none⟩) t.nodes.length c, .int .i64 t.root] P (n - m) (.slice Ao n co) wo.heap.size (.slice A' ns'.length c') ns' kvs place wr)) (fun _ i _ => ((intOf i) + 1).toNat)
        case atStart =>
          refine ⟨n, _, [], [], fun _ => 0, none, 0, Nat.le_refl _, rfl, rfl, rfl, Lib.hid ⟨by simp, OwnNK.nil_ _ _ _ _, fun g h => by simp [Value.ownBlock] at h, HWo.out.out.alloc _, fun g hg => (HWo.out.out.lt g hg).2, ?_, HC.out.lt, HWo.out.box.alloc _, HC.out.alloc _, HWo.out.below.alloc HWo.out.below.size _⟩⟩
          rw [← HZ.out]
          exact Blk.new _ _ _
        case round =>
          clear d0
          obtain ⟨wq, rfl⟩ : ∃ wq, wq = wr := ⟨_, rfl⟩
          obtain ⟨m, z, ns', kvs, place, A', c', hm, rfl, hz, rfl, HQ⟩ := hrel
          have d0 : wq.cell? ⟨w.heap.size, 0, none⟩ = some (.slice (some ⟨b, off, none⟩) t.nodes.length c) := HQ.out.box.cell 0
          rcases m with _ | m
          · obtain rfl : z = -1 := by omega
            clear hz
            obtain ⟨place', e1, _, _⟩ := HFIN.out
            have hst := HQ.out.st
            rw [Nat.sub_zero, HNN.out, List.take_length, HP.out, e1] at hst
            simp only [List.nil_append, List.length_nil] at hst
            injection hst with hst _
            have hsz : ns'.length = (D t.nodes node.toNat).size := by rw [← hst, flatAt_length]
            have hsp : 0 < ns'.length := by rw [hsz]; exact (D t.nodes node.toNat).size_pos
            have hsl : ns'.length ≤ 1000000 := by
              rw [hsz]
              have := size_le HRT.out.shape node.toNat hnl
              omega
            have HST := Lib.hid hst
            have HSZ := Lib.hid hsz
            have f0 := HQ.out.res.frozen 0
            have f1 := HQ.out.res.frozen 1
            have g0 : wq.cell? ⟨w.heap.size + 1, 0, none⟩ = some (.slice none 0 0) := HQ.out.res.cell 0
            have g1 : wq.cell? ⟨w.heap.size + 1, 1, none⟩ = some (.int .i64 0) := HQ.out.res.cell 1
            clear hst hsz e1
            go_wp2_with fail
            obtain ⟨w3, hw3⟩ : ∃ w3, w3 = (wq.setCell ⟨w.heap.size + 1, 0, none⟩ (.slice A' ns'.length c')).setCell ⟨w.heap.size + 1, 1, none⟩ (.int .i64 ((ns'.length : Int) - 1)) := ⟨_, rfl⟩
            have hB3 : Blk w3 (w.heap.size + 1) 24 #[.slice A' ns'.length c', .int .i64 ((ns'.length : Int) - 1)] := by
              rw [hw3]; exact (HQ.out.res.set_ 0 (.slice A' ns'.length c')).set_ 1 (.int .i64 ((ns'.length : Int) - 1))
            have ho2 : OwnNodes w3 34 (w.heap.size + 2) (fun _ => True) (.slice A' ns'.length c') ns' := by
              rw [hw3]
              exact (OwnNodes.weaken ⟨kvs, HQ.out.out⟩ fun _ _ _ _ => trivial).low (g := w.heap.size + 1) (grown_set2 _ _ _ _ _ _) (by omega)
            have hb3 : Below w.heap.size w w3 := by
              rw [hw3]
              exact (HQ.out.below.setCell (by simp) _).setCell (by simp) _
            rw [← hw3]
            refine bodyPost_ret (results_cell2 rfl _ _ (w.heap.size + 1) _ _ _ rfl hB3 Tryd.underlying24 rfl tree_size) rfl ?_
            refine ⟨_, flatT (D t.nodes node.toNat), true, rfl, ⟨.slice A' ns'.length c', ?_, ?_⟩, ⟨fun _ _ _ => ⟨rfl, rfl⟩, fun hno => absurd ⟨HRT.out, h0, hn⟩ hno⟩, hb3⟩
            · rw [flatT, HSZ.out]
            · show OwnNodes w3 _ _ _ _ (flatAt 0 (D t.nodes node.toNat))
              rw [HST.out]
              exact ho2.base_ (by omega)
          · obtain rfl : z = (m : Int) := by omega
            clear hz
            obtain ⟨k, hk⟩ : ∃ k, P[n - (m + 1)]? = some k := ⟨_, List.getElem?_eq_getElem (by have := HNN.out; omega)⟩
            obtain ⟨hk0, hkl⟩ := HMEM.out _ k hk
            obtain ⟨N, hN⟩ : ∃ N, t.nodes[k.toNat]? = some N := ⟨_, List.getElem?_eq_getElem hkl⟩
            obtain ⟨_, Ak, ck, hki, hdo, hck, hkc⟩ := (HNS.out.below HQ.out.below hS).known k.toNat N hN
            have hrev : P.reverse[m]? = some k := by
              have := HNN.out
              rw [List.getElem?_reverse (by omega), ← hk]; congr 1; omega
            obtain ⟨gr, rfl, -, hgr1, hgr2, hkr⟩ := HQ.out.row.at_ hrev
            have hgT := HQ.out.tab.lt
            have hgr3 : gr < wo.heap.size := HQ.out.old gr rfl
            have cc : ∀ i u, (nodeCells N (.slice Ak N.kids.length ck))[i]? = some u → wq.cell? ⟨b, off + (k.toNat * 9 + i), none⟩ = some u := hkc
            have c0 : wq.cell? ⟨b, off + k.toNat * 9, none⟩ = some (.int .u8 N.d.kind) := cc 0 _ rfl
            have c1 : wq.cell? ⟨b, off + k.toNat * 9 + 1, none⟩ = some (.int .u64 N.d.s0) := cc 1 _ rfl
            have c2 : wq.cell? ⟨b, off + k.toNat * 9 + 2, none⟩ = some (.int .u64 N.d.s1) := cc 2 _ rfl
            have c3 : wq.cell? ⟨b, off + k.toNat * 9 + 3, none⟩ = some (.int .u64 N.d.s2) := cc 3 _ rfl
            have c4 : wq.cell? ⟨b, off + k.toNat * 9 + 4, none⟩ = some (.int .u64 N.d.s3) := cc 4 _ rfl
            have c5 : wq.cell? ⟨b, off + k.toNat * 9 + 5, none⟩ = some (.string ⟨N.d.text.toArray⟩) := cc 5 _ rfl
            have c6 : wq.cell? ⟨b, off + k.toNat * 9 + 6, none⟩ = some (.int .i64 N.d.min) := cc 6 _ rfl
            have c7 : wq.cell? ⟨b, off + k.toNat * 9 + 7, none⟩ = some (.int .i64 N.d.max) := cc 7 _ rfl
            have c8 : wq.cell? ⟨b, off + k.toNat * 9 + 8, none⟩ = some (.slice Ak N.kids.length ck) := cc 8 _ rfl
            have hm0 : (0 : Int) ≤ (m : Int) := by omega
            have hlt : m < n := by omega
            have hmn : (m : Int) < (n : Int) := by omega
            have hkn : k < (t.nodes.length : Int) := by omega
            have HK := Lib.hid hk
            have HN := Lib.hid hN
            have HKI := Lib.hid hki
            have HDO := Lib.hid hdo
            have hkk : N.kids.length ≤ 1000000 := HG.out.kids N (List.mem_of_getElem? hN)
            have n0 := World.new_ne wq _ d0
            have n1 := World.new_ne wq _ hkr
            have n2 := World.new_ne wq _ c0
            clear hk hN hki hdo hkc cc hrev
            go_upto_region 15 with fail
            go_cut [12] from 69 to 76 (fun X wx => X = .pointer (some ⟨wq.heap.size, 0, none⟩) ∧ Hid (wx = (wq.alloc (.cells #[.int .u8 N.d.kind, .int .u64 N.d.s0, .int .u64 N.d.s1, .int .u64 N.d.s2, .int .u64 N.d.s3, .string ⟨N.d.text.toArray⟩, .int .i64 N.d.min, .int .i64 N.d.max, .slice Ak N.kids.length ck] 34)).drew))
            case first =>

              go_region_held3 (fun w' => w'.cell? ⟨w.heap.size, 0, none⟩ = some (.slice (some ⟨b, off, none⟩) t.nodes.length c) ∧ w'.cell? ⟨gr, m, none⟩ = some (.int .i64 k) ∧ w'.cell? ⟨b, off + k.toNat * 9, none⟩ = some (.int .u8 N.d.kind) ∧ w'.cell? ⟨b, off + k.toNat * 9 + 1, none⟩ = some (.int .u64 N.d.s0) ∧ w'.cell? ⟨b, off + k.toNat * 9 + 2, none⟩ = some (.int .u64 N.d.s1) ∧ w'.cell? ⟨b, off + k.toNat * 9 + 3, none⟩ = some (.int .u64 N.d.s2) ∧ w'.cell? ⟨b, off + k.toNat * 9 + 4, none⟩ = some (.int .u64 N.d.s3) ∧ w'.cell? ⟨b, off + k.toNat * 9 + 5, none⟩ = some (.string ⟨N.d.text.toArray⟩) ∧ w'.cell? ⟨b, off + k.toNat * 9 + 6, none⟩ = some (.int .i64 N.d.min) ∧ w'.cell? ⟨b, off + k.toNat * 9 + 7, none⟩ = some (.int .i64 N.d.max) ∧ w'.cell? ⟨b, off + k.toNat * 9 + 8, none⟩ = some (.slice Ak N.kids.length ck)) (go_keep) (fail)
              all_goals (go_wp2_with fail)
              all_goals go_meet
              all_goals exact ⟨rfl, Lib.hid rfl⟩
            case rest =>
              obtain ⟨rfl, HWC⟩ := hcut
              have hcw : wq.grownBy wc none := by rw [HWC.out]; exact only_drew (only_alloc (grown_refl wq none) _)
              have hnb : Blk wc wq.heap.size 34 #[.int .u8 N.d.kind, .int .u64 N.d.s0, .int .u64 N.d.s1, .int .u64 N.d.s2, .int .u64 N.d.s3, .string ⟨N.d.text.toArray⟩, .int .i64 N.d.min, .int .i64 N.d.max, .slice Ak N.kids.length ck] := by rw [HWC.out]; exact (Blk.new _ _ _).drew
              have htb : Blk wc wo.heap.size 3 (tabOf t.nodes.length fun i => place (i : Int)).toArray := HQ.out.tab.grown hcw (by simp)
              have hcr : wc.cell? ⟨gr, m, none⟩ = some (.int .i64 k) := hcw.cell hkr (by simp)
              have hct : wc.cell? ⟨wo.heap.size, k.toNat, none⟩ = some (.int .i64 (place k)) := by
                rw [htb.cell, List.getElem?_toArray, tabOf_at hkl, Int.toNat_of_nonneg hk0]
              have hft := htb.frozen k.toNat
              have hnl' : ns'.length ≤ 1000000 := by
                have h1 := putStep_length t.nodes (P.take (n - (m + 1))) ([], fun _ => 0)
                rw [HQ.out.st] at h1
                simp only [List.length_take, List.length_nil] at h1
                omega
              have HCW := Lib.hid hcw
              have HNB := Lib.hid hnb
              have HTB := Lib.hid htb
              clear hcw hnb htb d0 hkr c0 c1 c2 c3 c4 c5 c6 c7 c8 n0 n1 n2
              go_wp2_with fail
              obtain ⟨wa, hwa⟩ : ∃ wa, wa = wc.setCell ⟨wo.heap.size, k.toNat, none⟩ (.int .i64 (ns'.length : Int)) := ⟨_, rfl⟩
              rw [← hwa]
              have hga : wq.grownBy wa (some wo.heap.size) := by
                rw [hwa]
                exact only_setCell (a := wq) (g := wo.heap.size) ⟨HCW.out.os, HCW.out.tape, HCW.out.output, HCW.out.size, fun i hi _ => HCW.out.block i hi (by simp)⟩ (.inl rfl) _
              have hna : Blk wa wq.heap.size 34 #[.int .u8 N.d.kind, .int .u64 N.d.s0, .int .u64 N.d.s1, .int .u64 N.d.s2, .int .u64 N.d.s3, .string ⟨N.d.text.toArray⟩, .int .i64 N.d.min, .int .i64 N.d.max, .slice Ak N.kids.length ck] := by rw [hwa]; exact HNB.out.far (by simp; omega) _
              have hta : Blk wa wo.heap.size 3 (tabOf t.nodes.length fun i => if (i : Int) = k then (ns'.length : Int) else place (i : Int)).toArray := by
                rw [hwa]
                have := HTB.out.set_ k.toNat (.int .i64 (ns'.length : Int))
                rw [List.setIfInBounds_toArray, tabOf_set (G := fun i => if (i : Int) = k then (ns'.length : Int) else place (i : Int)) _ (fun j _ => by
                  by_cases e : j = k.toNat
                  · rw [if_pos e, if_pos (by omega)]
                  · rw [if_neg e, if_neg (by omega)])] at this
                exact this
              have HGA := Lib.hid hga
              have HNA := Lib.hid hna
              have HTA := Lib.hid hta
              have hwl : wq.heap.size < wa.heap.size := hna.lt
              clear hwa hga hna hta hct hft hcr
              go_loopw [13, 14] (fun v i wr => ∃ (q : Nat) (A3 : Option Addr) (c3 : Nat), q ≤ N.kids.length ∧ i = .int .i64 q ∧ v = .slice A3 q c3 ∧ Hid (OInts wr wa.heap.size (.slice A3 q c3) ((N.kids.take q).map place)) ∧ Hid (Below wa.heap.size wa wr)) (fun _ i _ => N.kids.length - (intOf i).toNat)
              case atStart => exact ⟨0, none, 0, Nat.zero_le _, rfl, rfl, Lib.hid (OInts.nil_ _ _), Lib.hid (Below.refl _ _)⟩
              case round =>
                obtain ⟨wi, rfl⟩ : ∃ wi, wi = wr := ⟨_, rfl⟩
                obtain ⟨q, A3, c3, hq, rfl, rfl, HKR, HBI⟩ := hrel
                have hni := HNA.out.below HBI.out HNA.out.lt
                obtain ⟨e0, e1, e2, e3, e4, e5, e6, e7, e8⟩ := hni.nine
                have hsa := HBI.out.size
                by_cases hql : q < N.kids.length
                · obtain ⟨kk, hkk⟩ : ∃ kk, N.kids[q]? = some kk := ⟨_, List.getElem?_eq_getElem hql⟩
                  have hkb := hlow _ N HN.out kk (List.mem_of_getElem? hkk)
                  obtain ⟨bk, ok, rfl, hbk, hkc⟩ := (HKI.out.keep (w' := wi) fun p hp => by
                    have h1 := hS _ hp
                    exact (HBI.out.cell (by omega)).trans (World.cell?_of_block (HGA.out.block p.block (by omega) (by simp; omega)))).get q kk hkk
                  obtain ⟨x, hx⟩ : ∃ x, x = place kk := ⟨_, rfl⟩
                  have hct : wi.cell? ⟨wo.heap.size, kk.toNat, none⟩ = some (.int .i64 x) := by
                    rw [(HTA.out.below HBI.out HTA.out.lt).cell, List.getElem?_toArray, tabOf_at (by omega), if_neg (by omega), Int.toNat_of_nonneg hkb.1, hx]
                  have hkk0 : 0 ≤ kk := hkb.1
                  have hkkl : kk < (t.nodes.length : Int) := by omega
                  have hql' : (q : Int) < (N.kids.length : Int) := by omega
                  have HKO := Lib.hid (show wi.ownsRow wa.heap.size 3 1 (.slice A3 q c3) q (((N.kids.take q).map place).map (Value.int .i64)) by
                    have h1 := HKR.out
                    unfold OInts at h1
                    have e : ((N.kids.take q).map place).length = q := by simp; omega
                    rwa [e] at h1)
                  have HX := Lib.hid (show (N.kids.take (q + 1)).map place = (N.kids.take q).map place ++ [x] by rw [List.take_add_one, hkk, hx]; simp)
                  clear hkk hx hni hkb
                  go_wp2_with (at_builtin; go_loud (refine wpList_append1 wi rfl (.tmp 92) (.tmp 101) _ rfl wa.heap.size 3 i0 _ 1 8 Tryd.underlying27 hi0 hz0 hz1 hz2 rfl (by omega) (.slice A3 q c3) q _ rfl HKO.out [.int .i64 x] rfl rfl (by simp [Value.oneCell']) (by unfold maxLen; omega) (by omega) (by omega) ?_); intro v5 w5 hown5 hgg5 hat5; have HOWN5 := Lib.hid hown5; have HGG5 := Lib.hid hgg5; clear hown5 hgg5 hat5)
                  go_roundw
                  case measure => simp [intOf]; omega
                  case rel =>
                    obtain ⟨A5, c5, rfl, _, _, _⟩ := own_slice HOWN5.out
                    (repeat apply Exists.intro)
                    refine ⟨?_, rfl⟩
                    refine ⟨q + 1, A5, c5, by omega, by go_num, rfl, Lib.hid ?_, Lib.hid (HBI.out.trans (below_of_grown HGG5.out hsa (fun r hr => (HKR.out.lt r hr).1)))⟩
                    have h1 := HOWN5.out
                    unfold OInts
                    have e : ((N.kids.take (q + 1)).map place).length = q + 1 := by simp; omega
                    rw [e, HX.out, List.map_append]
                    exact h1
                · obtain rfl : q = N.kids.length := by omega
                  have f8 := hni.frozen 8
                  have hgi := grown_then_below HGA.out HBI.out
                  obtain ⟨wb, hwb⟩ : ∃ wb, wb = wi.setCell ⟨wq.heap.size, 8, none⟩ (.slice A3 N.kids.length c3) := ⟨_, rfl⟩
                  have hgb : wq.grownBy wb (some wo.heap.size) := by rw [hwb]; exact only_setCell hgi (.inr (Nat.le_refl _)) _
                  have hrow : wb.ownsRow (w.heap.size + 2) 34 9 (.slice A' ns'.length c') ns'.length (nodesCells ns' kvs) := HQ.out.out.row.kept hgb (.inr fun e => by have := HQ.out.new _ e; omega)
                  have hkv : OInts wb wq.heap.size (.slice A3 N.kids.length c3) (N.kids.map place) := by
                    have h1 := HKR.out
                    rw [List.take_length] at h1
                    rw [hwb]
                    refine (h1.frame (r := some wq.heap.size) (only_setCell (grown_refl _ _) (.inl rfl) _) ?_).base_ (by omega)
                    cases hv : (Value.slice A3 N.kids.length c3).ownBlock with
                    | none => exact .inl rfl
                    | some g => exact .inr fun e => by injection e with e; have := (h1.lt g hv).1; omega
                  have htb : Blk wb wo.heap.size 3 (tabOf t.nodes.length fun i => if (i : Int) = k then (ns'.length : Int) else place (i : Int)).toArray := by
                    rw [hwb]; exact (HTA.out.below HBI.out HTA.out.lt).far (by simp; omega) _
                  have HWB := Lib.hid hwb
                  have HGB := Lib.hid hgb
                  have HROWB := Lib.hid hrow
                  have HKV := Lib.hid hkv
                  have HTBB := Lib.hid htb
                  have hwbs : wq.heap.size ≤ wb.heap.size := hgb.size
                  have hwbl : w.heap.size + 2 ≤ wb.heap.size := by omega
                  clear hwb hgb hrow hkv htb hni hgi
                  rw [HWB.out] at HROWB HGB HKV HTBB hwbs hwbl
                  go_wp2_with (at_builtin; go_loud (refine wpList_append1N (wi.setCell ⟨wq.heap.size, 8, none⟩ (.slice A3 N.kids.length c3)) wi.heap.size (setCell_size _ _ _) rfl (.tmp 105) (.tmp 107) _ rfl (w.heap.size + 2) 34 i1 _ 9 96 Tryd.underlying22 hi1 hy0 hy1 hy2 rfl (by omega) (.slice A' ns'.length c') ns'.length (nodesCells ns' kvs) rfl HROWB.out [_, _, _, _, _, _, _, _, _] rfl rfl (by simp [Value.oneCell']) (by unfold maxLen; omega) (by omega) hwbl ?_); intro v8 w8 hown8 hg8 hat8; have HOWN8 := Lib.hid hown8; have HG8 := Lib.hid hg8; have HAT8 := Lib.hid hat8; clear hown8 hg8 hat8)
                  go_roundw
                  case measure => simp [intOf]
                  case rel =>
                    obtain ⟨A8, c8', rfl, _, _, _⟩ := own_slice HOWN8.out
                    have hpt := HQ.out.round HK.out HN.out hk0 HDO.out HGB.out HTBB.out HKV.out HOWN8.out HG8.out HAT8.out
                    have e : (ns' ++ [(⟨N.d, N.kids.map place⟩ : Nd)]).length = ns'.length + 1 := by simp
                    have e2 : n - (m + 1) + 1 = n - m := by omega
                    rw [e2] at hpt
                    (repeat apply Exists.intro)
                    refine ⟨?_, rfl⟩
                    exact ⟨m, _, ns' ++ [⟨N.d, N.kids.map place⟩], _, _, A8, c8', by omega, rfl, rfl, by rw [e], Lib.hid (by rw [e]; exact hpt)⟩
      · have hszs := HW.out.sizes hlow
        rw [List.length_append, List.length_singleton, List.length_reverse] at hszs
        have hkf := HW.out.fine k (by simp)
        obtain ⟨N, hN⟩ : ∃ N, t.nodes[k.toNat]? = some N := ⟨_, List.getElem?_eq_getElem hkf.2⟩
        have hnext := HW.out.next hlow
        rw [pushed_of hN, if_neg (by decide)] at hnext
        obtain ⟨hrow2, hfine2, hsz2⟩ := hnext
        simp only [List.length_append, List.length_singleton, List.length_reverse] at hsz2
        obtain ⟨g, rfl, -, hg1, hg2, hk⟩ := HW.out.todo.at_ (j := T.length) (k := k) (by simp)
        obtain ⟨A', c', hv', hc1, hc2⟩ := HW.out.todo.slice
        injection hv' with hAA _ hcc
        subst hcc
        clear hAA
        have hTl : T.length + 1 ≤ 1000000000 := by omega
        have hOl : O.length + 1 ≤ 1000000000 := by omega
        have hbo := HW.out.below.size
        have hCl := HC.out.lt
        have HSH := Lib.hid (show OInts wo (w.heap.size + 2) (.slice (some ⟨g, 0, none⟩) T.length ct) T by
          have := HW.out.todo.shrink (m := T.length) (by simp)
          simpa using this)
        have HROW2 := Lib.hid hrow2
        have HFINE2 := Lib.hid hfine2
        have HAP := Lib.hid (show Ap (.slice (some ⟨g, 0, none⟩) T.length ct) (.slice Ao O.length co) from fun x h1 h2 => HW.out.ap.symm x (by simpa [Value.ownBlock] using h1) h2)
        obtain ⟨_, Ak, ck, hki, -, hck, hkc⟩ := (HNS.out.below HW.out.below hS).known k.toNat N hN
        have c8 : wo.cell? ⟨b, off + k.toNat * 9 + 8, none⟩ = some (.slice Ak N.kids.length ck) := hkc 8 _ rfl
        have HKI := Lib.hid hki
        have HN := Lib.hid hN
        have hk0 : 0 ≤ k := hkf.1
        have hkl : k < (t.nodes.length : Int) := by omega
        have hkk : N.kids.length ≤ 1000000 := HG.out.kids N (List.mem_of_getElem? HN.out)
        clear hkc hki hkf hrow2 hfine2 hN
        simp only [List.length_append, List.length_singleton] at hc1 ⊢
        have hTc : (T.length : Int) ≤ (ct : Int) := by omega
        go_wp2_with (first
          | (at_builtin
             go_loud (refine wpList_append1 wo rfl (.tmp 46) (.tmp 48) _ rfl (w.heap.size + 2) 3 i0 _ 1 8 Tryd.underlying27 hi0 hz0 hz1 hz2 rfl (by omega) (.slice Ao O.length co) O.length (O.map (Value.int .i64)) rfl HW.out.out [.int .i64 k] rfl rfl (by simp [Value.oneCell']) (by unfold maxLen; omega) (by omega) (by omega) ?_)
             intro v1 w2 hown1 hgg hat1
             have hb2 : Below w.heap.size w w2 := HW.out.below.trans (below_of_grown hgg HW.out.below.size (fun r hr => by have := (HW.out.out.lt r hr).1; omega))
             have hB2 := HW.out.box.grown hgg (fun e => by have := (HW.out.out.lt _ e.symm).1; omega)
             have hC2 := HC.out.grown hgg (fun e => by have := (HW.out.out.lt _ e.symm).1; omega)
             have d0 : w2.cell? ⟨w.heap.size, 0, none⟩ = some (.slice (some ⟨b, off, none⟩) t.nodes.length c) := hB2.cell 0
             have c8 : w2.cell? ⟨b, off + k.toNat * 9 + 8, none⟩ = some (.slice Ak N.kids.length ck) := (hgg.cell c8 (fun e => by have := (HW.out.out.lt _ e.symm).1; simp only at this; omega))
             have hbes := HSH.out.beside HAP.out hgg hat1 (Nat.le_succ _)
             have HT2 := Lib.hid (show w2.ownsRow (w.heap.size + 2) 3 1 (.slice (some ⟨g, 0, none⟩) T.length ct) T.length (T.map (Value.int .i64)) from hbes.1)
             have HAP2 := Lib.hid hbes.2
             have HRD := Lib.hid (Row.reads (HKI.out.keep (w' := w2) fun p hp => (hb2.cell (hS _ hp)).trans (HW.out.below.cell (hS _ hp)).symm) (B := w2.heap.size) (fun b hb => Nat.lt_of_lt_of_le (hS b hb) hb2.size))
             have hsz2' : w.heap.size + 2 ≤ w2.heap.size := Nat.le_trans (by omega) hgg.size
             have HOWN1 := Lib.hid hown1
             have HB2 := Lib.hid hB2
             have HC2 := Lib.hid hC2
             have Hb2 := Lib.hid hb2
             clear hown1 hgg hat1 hB2 hb2 hC2 hbes)
          | (at_builtin
             go_loud (refine wpList_append_any w2 rfl (.tmp 50) (.tmp 56) _ rfl (w.heap.size + 2) 3 i0 _ 1 8 Tryd.underlying27 hi0 hz0 hz1 hz2 rfl (by omega) (.slice (some ⟨g, 0, none⟩) T.length ct) T.length (T.map (Value.int .i64)) rfl HT2.out w2.heap.size Ak N.kids.length ck (N.kids.map (Value.int .i64)) rfl HRD.out (by simp [Value.oneCell']) (by unfold maxLen; omega) (by omega) hsz2' ?_)
             intro v3 w3 hown3 hg3 hat3
             have HOWN3 := Lib.hid hown3
             have HG3 := Lib.hid hg3
             have HAT3 := Lib.hid hat3
             clear hown3 hg3 hat3))
        obtain ⟨A1, c1, rfl, _, _, _⟩ := own_slice HOWN1.out
        obtain ⟨A3, c3, rfl, _, _, _⟩ := own_slice HOWN3.out
        have hbes3 := OInts.beside (OInts.push1 HOWN1.out) HAP2.out.symm HG3.out HAT3.out (Nat.le_refl _)
        have hTb : ∀ r, (Value.slice (some ⟨g, 0, none⟩) T.length ct).ownBlock = some r → w.heap.size + 2 ≤ r := fun r hr => by
          have : g = r := by simpa [Value.ownBlock] using hr
          omega
        go_roundw
        case measure => simp [lenOf]; omega
        case rel =>
          have e1 : (O ++ [k]).length = O.length + 1 := by simp
          have e2 : (T ++ N.kids).length = T.length + N.kids.length := by simp
          refine ⟨O ++ [k], T ++ N.kids, A1, c1, A3, c3, by rw [e1], by rw [e2], Lib.hid ⟨?_, ?_, ?_, HROW2.out, HFINE2.out, ?_, ?_⟩, Lib.hid ?_⟩
          · rw [e1]; exact hbes3.1
          · rw [e2]; exact OInts.push HOWN3.out
          · rw [e1, e2]; exact hbes3.2
          · exact HB2.out.grown HG3.out (fun e => by have := hTb _ e.symm; omega)
          · exact Hb2.out.trans (below_of_grown HG3.out Hb2.out.size (fun r hr => by have := hTb r hr; omega))
          · exact HC2.out.grown HG3.out (fun e => by have := hTb _ e.symm; omega)
  · have HIN := Lib.hid hin
    have hcase : ¬ RightT t ∨ (RightT t ∧ node < 0) ∨ (RightT t ∧ 0 ≤ node ∧ (t.nodes.length : Int) ≤ node) := by
      by_cases hr : RightT t
      · by_cases h0 : 0 ≤ node
        · exact .inr (.inr ⟨hr, h0, by
            rcases Int.lt_or_le node (t.nodes.length : Int) with h1 | h1
            · exact absurd ⟨hr, h0, h1⟩ hin
            · exact h1⟩)
        · exact .inr (.inl ⟨hr, by omega⟩)
      · exact .inl hr
    clear hin h hns
    rcases hcase with hr | ⟨hr, hn0⟩ | ⟨hr, hn0, hn1⟩
    · rw [decide_eq_false hr] at HR
      clear hr
      go_enter Tryd.func35, Tryd.ntmps35
      go_wp2_with (first
        | (go_at_call 28
           refine (HR.out _ (((Below.refl _ _).alloc (Nat.le_refl _) _).alloc (by simp) _)).mono ?_
           rintro e w1 ⟨rfl, hb1⟩
           have hb01 : Below w.heap.size w w1 := (((Below.refl _ _).alloc (Nat.le_refl _) _).alloc (by simp) _).trans (hb1.mono (by simp; omega))
           have d0 : w1.cell? ⟨w.heap.size, 0, none⟩ = some (.slice A t.nodes.length c) := by
             rw [hb1.cell (p := ⟨w.heap.size, 0, none⟩) (by simp; omega)]; exact ((Blk.new w _ _).alloc _).cell 0
           have hB1 : Blk w1 (w.heap.size + 1) 24 #[.slice none 0 0, .int .i64 0] := (Blk.new1 _ _ _ _).below hb1 (by simp)
           have f0 := hB1.frozen 0
           have f1 := hB1.frozen 1
           have e0 : w1.cell? ⟨w.heap.size + 1, 0, none⟩ = some (.slice none 0 0) := hB1.cell 0
           have e1 : w1.cell? ⟨w.heap.size + 1, 1, none⟩ = some (.int .i64 0) := hB1.cell 1
           have HB1 := Lib.hid hB1
           clear hb1 hB1)
        | fail)
      obtain ⟨w3, hw3⟩ : ∃ w3, w3 = (w1.setCell ⟨w.heap.size + 1, 0, none⟩ (.slice none 0 0)).setCell ⟨w.heap.size + 1, 1, none⟩ (.int .i64 0) := ⟨_, rfl⟩
      have hB3 : Blk w3 (w.heap.size + 1) 24 #[.slice none 0 0, .int .i64 0] := by
        rw [hw3]; exact (HB1.out.set_ 0 (.slice none 0 0)).set_ 1 (.int .i64 0)
      have hb3 : Below w.heap.size w w3 := by
        rw [hw3]
        exact (hb01.setCell (by simp) _).setCell (by simp) _
      rw [← hw3]
      refine bodyPost_ret (results_cell2 rfl _ _ (w.heap.size + 1) _ _ _ rfl hB3 Tryd.underlying24 rfl tree_size) rfl ?_
      exact ⟨_, _, _, rfl, OwnTree.zero _ _, ⟨fun a b c => absurd ⟨a, b, c⟩ HIN.out, fun _ => ⟨rfl, rfl⟩⟩, hb3⟩
    · rw [decide_eq_true hr] at HR
      clear hr
      go_enter Tryd.func35, Tryd.ntmps35
      go_wp2_with (first
        | (go_at_call 28
           refine (HR.out _ (((Below.refl _ _).alloc (Nat.le_refl _) _).alloc (by simp) _)).mono ?_
           rintro e w1 ⟨rfl, hb1⟩
           have hb01 : Below w.heap.size w w1 := (((Below.refl _ _).alloc (Nat.le_refl _) _).alloc (by simp) _).trans (hb1.mono (by simp; omega))
           have d0 : w1.cell? ⟨w.heap.size, 0, none⟩ = some (.slice A t.nodes.length c) := by
             rw [hb1.cell (p := ⟨w.heap.size, 0, none⟩) (by simp; omega)]; exact ((Blk.new w _ _).alloc _).cell 0
           have hB1 : Blk w1 (w.heap.size + 1) 24 #[.slice none 0 0, .int .i64 0] := (Blk.new1 _ _ _ _).below hb1 (by simp)
           have f0 := hB1.frozen 0
           have f1 := hB1.frozen 1
           have e0 : w1.cell? ⟨w.heap.size + 1, 0, none⟩ = some (.slice none 0 0) := hB1.cell 0
           have e1 : w1.cell? ⟨w.heap.size + 1, 1, none⟩ = some (.int .i64 0) := hB1.cell 1
           have HB1 := Lib.hid hB1
           clear hb1 hB1)
        | fail)
      obtain ⟨w3, hw3⟩ : ∃ w3, w3 = (w1.setCell ⟨w.heap.size + 1, 0, none⟩ (.slice none 0 0)).setCell ⟨w.heap.size + 1, 1, none⟩ (.int .i64 0) := ⟨_, rfl⟩
      have hB3 : Blk w3 (w.heap.size + 1) 24 #[.slice none 0 0, .int .i64 0] := by
        rw [hw3]; exact (HB1.out.set_ 0 (.slice none 0 0)).set_ 1 (.int .i64 0)
      have hb3 : Below w.heap.size w w3 := by
        rw [hw3]
        exact (hb01.setCell (by simp) _).setCell (by simp) _
      rw [← hw3]
      refine bodyPost_ret (results_cell2 rfl _ _ (w.heap.size + 1) _ _ _ rfl hB3 Tryd.underlying24 rfl tree_size) rfl ?_
      exact ⟨_, _, _, rfl, OwnTree.zero _ _, ⟨fun a b c => absurd ⟨a, b, c⟩ HIN.out, fun _ => ⟨rfl, rfl⟩⟩, hb3⟩
    · rw [decide_eq_true hr] at HR
      clear hr
      go_enter Tryd.func35, Tryd.ntmps35
      go_wp2_with (first
        | (go_at_call 28
           refine (HR.out _ (((Below.refl _ _).alloc (Nat.le_refl _) _).alloc (by simp) _)).mono ?_
           rintro e w1 ⟨rfl, hb1⟩
           have hb01 : Below w.heap.size w w1 := (((Below.refl _ _).alloc (Nat.le_refl _) _).alloc (by simp) _).trans (hb1.mono (by simp; omega))
           have d0 : w1.cell? ⟨w.heap.size, 0, none⟩ = some (.slice A t.nodes.length c) := by
             rw [hb1.cell (p := ⟨w.heap.size, 0, none⟩) (by simp; omega)]; exact ((Blk.new w _ _).alloc _).cell 0
           have hB1 : Blk w1 (w.heap.size + 1) 24 #[.slice none 0 0, .int .i64 0] := (Blk.new1 _ _ _ _).below hb1 (by simp)
           have f0 := hB1.frozen 0
           have f1 := hB1.frozen 1
           have e0 : w1.cell? ⟨w.heap.size + 1, 0, none⟩ = some (.slice none 0 0) := hB1.cell 0
           have e1 : w1.cell? ⟨w.heap.size + 1, 1, none⟩ = some (.int .i64 0) := hB1.cell 1
           have HB1 := Lib.hid hB1
           clear hb1 hB1)
        | fail)
      obtain ⟨w3, hw3⟩ : ∃ w3, w3 = (w1.setCell ⟨w.heap.size + 1, 0, none⟩ (.slice none 0 0)).setCell ⟨w.heap.size + 1, 1, none⟩ (.int .i64 0) := ⟨_, rfl⟩
      have hB3 : Blk w3 (w.heap.size + 1) 24 #[.slice none 0 0, .int .i64 0] := by
        rw [hw3]; exact (HB1.out.set_ 0 (.slice none 0 0)).set_ 1 (.int .i64 0)
      have hb3 : Below w.heap.size w w3 := by
        rw [hw3]
        exact (hb01.setCell (by simp) _).setCell (by simp) _
      rw [← hw3]
      refine bodyPost_ret (results_cell2 rfl _ _ (w.heap.size + 1) _ _ _ rfl hB3 Tryd.underlying24 rfl tree_size) rfl ?_
      exact ⟨_, _, _, rfl, OwnTree.zero _ _, ⟨fun a b c => absurd ⟨a, b, c⟩ HIN.out, fun _ => ⟨rfl, rfl⟩⟩, hb3⟩
end Go.Proofs.YtlmlbdmbgfclkaaDoor

/- The contract of bonsairef04.Walk. -/
import Derived.Test.YtlmlbdmbgfclkaaDoorRfC
import Derived.Test.YtlmlbdmbgfclkaaDoorTwo
import Derived.Outline
namespace Go.Proofs.YtlmlbdmbgfclkaaDoor
open Go.RowKit
open Classical

/-- Rows that a walk over a tree keeps: what is told, what is still to come. -/
structure RW (t : Tr) (forth : Bool) (base B : Nat) (w : World) (cs : Array Value) (R O Td : List Int) (vo vt : Value) (wr : World) : Prop where
  out : OInts wr base vo O
  todo : OInts wr base vt Td
  ap : Ap vo vt
  row : R = O ++ rest forth t.nodes Td
  fine : ∀ k ∈ Td, 0 ≤ k ∧ k.toNat < t.nodes.length
  box : Blk wr B 24 cs
  below : Below w.heap.size w wr
theorem RW.sizes {t : Tr} {forth : Bool} {base B : Nat} {w wr : World} {cs : Array Value} {R O Td : List Int} {vo vt : Value} (h : RW t forth base B w cs R O Td vo vt wr) (hlow : Low t.nodes) : O.length + Td.length ≤ R.length := by
  have h1 := rest_length forth _ (fun k hk => gRow_pos hlow forth _ (h.fine k hk).2)
  have h2 := congrArg List.length h.row
  rw [List.length_append] at h2
  omega
theorem RW.next {t : Tr} {forth : Bool} {base B : Nat} {w wr : World} {cs : Array Value} {R O T : List Int} {k : Int} {vo vt : Value} (h : RW t forth base B w cs R O (T ++ [k]) vo vt wr) (hlow : Low t.nodes) :
    R = (O ++ [k]) ++ rest forth t.nodes (T ++ pushed forth t.nodes k.toNat) ∧ (∀ j ∈ T ++ pushed forth t.nodes k.toNat, 0 ≤ j ∧ j.toNat < t.nodes.length) ∧ (O ++ [k]).length + (T ++ pushed forth t.nodes k.toNat).length ≤ R.length := by
  have hk := h.fine k (by simp)
  have h1 : R = (O ++ [k]) ++ rest forth t.nodes (T ++ pushed forth t.nodes k.toNat) := by rw [h.row, rest_snoc hlow forth T k hk.1 hk.2]; simp
  have h2 : ∀ j ∈ T ++ pushed forth t.nodes k.toNat, 0 ≤ j ∧ j.toNat < t.nodes.length := fun j hj => by
    rcases List.mem_append.1 hj with hj | hj
    · exact h.fine j (by simp [hj])
    · exact pushed_ok hlow forth _ hk.2 j hj
  refine ⟨h1, h2, ?_⟩
  have h3 := rest_length forth _ (fun k hk => gRow_pos hlow forth _ (h2 k hk).2)
  have h4 := congrArg List.length h1
  rw [List.length_append] at h4
  omega
structure RWIn (base B : Nat) (w : World) (cs : Array Value) (O Td : List Int) (vo vt : Value) (wr : World) : Prop where
  out : OInts wr base vo O
  todo : OInts wr base vt Td
  ap : Ap vo vt
  box : Blk wr B 24 cs
  below : Below w.heap.size w wr

set_option maxRecDepth 20000 in
set_option maxHeartbeats 4000000 in
theorem rWalk_g {t : Tr} {v : Value} {S : Nat → Prop} {w : World} (h : GivenR t v S w) :
    Calls Tryd.prog 34 #[v] w fun e w' => ∃ u, e = .returned u ∧ w'.ownsRow w.heap.size 3 1 u (walkOf t).length ((walkOf t).map (Value.int .i64)) ∧ Below w.heap.size w w' := by
  have HR := Lib.hid (fun wx (hx : Below w.heap.size w wx) => rright_g (h.below hx))
  have HG := Lib.hid h
  obtain ⟨nv, rfl, hns, hr1, hr2⟩ := h.given.read
  obtain ⟨A, c, rfl, hc, hs, hcells⟩ := hns.at_
  by_cases hr : RightT t
  · have hv : walkOf t = pre t.nodes t.root.toNat := if_pos hr
    rw [decide_eq_true hr] at HR
    have hlow := hr.shape.low
    have hn := hr.shape.root_lt
    have h0 := hr.shape.pos
    have hsz := h.given.small
    have hS := h.given.old
    obtain ⟨b, off, rfl, hbS, _⟩ := hcells (by omega)
    have hbB := hS b hbS
    have hRl : (walkOf t).length ≤ 500000 := by
      rw [hv]
      have := (pre_perm hr.shape).length_eq; rw [length_rangeI] at this; omega
    obtain ⟨R, hR⟩ : ∃ R, R = walkOf t := ⟨_, rfl⟩
    rw [← hR] at hRl ⊢
    have HROW := Lib.hid (show R = [] ++ rest true t.nodes [t.root] by rw [hR, hv]; simp [rest, gRow])
    have HNS := Lib.hid hns
    have HRT := Lib.hid hr
    obtain ⟨i0, hi0, hz0, hz1, hz2⟩ := info_parts int_info
    clear hns h hv hr hcells hR
    go_enter Tryd.func34, Tryd.ntmps34
    go_wp2_with fail
    refine (HR.out _ ((Below.refl _ _).alloc (Nat.le_refl _) _)).mono ?_
    rintro e w1 ⟨rfl, hb1⟩
    have hb01 : Below w.heap.size w w1 := ((Below.refl _ _).alloc (Nat.le_refl _) _).trans (hb1.mono (by simp <;> omega))
    have hB1 : Blk w1 w.heap.size 24 #[.slice (some ⟨b, off, none⟩) t.nodes.length c, .int .i64 t.root] := (Blk.new w _ _).below hb1 (by simp)
    have d1 : w1.cell? ⟨w.heap.size, 1, none⟩ = some (.int .i64 t.root) := hB1.cell 1
    have hw1 : w.heap.size < w1.heap.size := hB1.lt
    have HB1 := Lib.hid hB1
    have Hb01 := Lib.hid hb01
    clear hb1 hB1 hb01
    go_wp2_with fail
    go_loopw [3, 4] (fun vo vt wr => ∃ (O Td : List Int) (Ao : Option Addr) (co : Nat) (At : Option Addr) (ct : Nat), vo = .slice Ao O.length co ∧ vt = .slice At Td.length ct ∧ Hid (RW t true (w.heap.size + 1) w.heap.size w #[.slice (some ⟨b, off, none⟩) t.nodes.length c, .int .i64 t.root] R O Td (.slice Ao O.length co) (.slice At Td.length ct) wr)) (fun vo _ _ => R.length - lenOf vo)
    case atStart =>
      refine ⟨[], [t.root], none, 0, some ⟨w1.heap.size, 0, none⟩, 1, rfl, rfl, Lib.hid ⟨OInts.nil_ _ _, ?_, Ap.nil_ _ _, HROW.out, fun k hk => ?_, HB1.out.alloc _, Hb01.out.alloc Hb01.out.size _⟩⟩
      · exact OInts.lit1 w1 _ _ (by omega)
      · simp at hk; subst hk; exact ⟨h0, hn⟩
    case round =>
      clear d1
      obtain ⟨wo, rfl⟩ : ∃ wo, wo = wr := ⟨_, rfl⟩
      obtain ⟨O, Td, Ao, co, At, ct, rfl, rfl, HW⟩ := hrel
      rcases nil_or_snoc Td with rfl | ⟨T, k, rfl⟩
      · go_wp2
        go_ret
        have hr : R = O := by have := HW.out.row; simpa [rest] using this
        subst hr
        exact ⟨_, rfl, (HW.out.out.base_ (by omega)), HW.out.below⟩
      · have hszs := HW.out.sizes hlow
        rw [List.length_append, List.length_singleton] at hszs
        have hkf := HW.out.fine k (by simp)
        obtain ⟨N, hN⟩ : ∃ N, t.nodes[k.toNat]? = some N := ⟨_, List.getElem?_eq_getElem hkf.2⟩
        have hnext := HW.out.next hlow
        rw [pushed_of hN, if_pos rfl] at hnext
        obtain ⟨hrow2, hfine2, hsz2⟩ := hnext
        simp only [List.length_append, List.length_singleton, List.length_reverse] at hsz2
        obtain ⟨g, rfl, _, hg1, hg2, hk⟩ := HW.out.todo.at_ (j := T.length) (k := k) (by simp)
        obtain ⟨A', c', hv', hc1, hc2⟩ := HW.out.todo.slice
        injection hv' with hAA _ hcc
        subst hcc
        clear hAA
        have hTl : T.length + 1 ≤ 1000000000 := by omega
        have hOl : O.length + 1 ≤ 1000000000 := by omega
        have hbo := HW.out.below.size
        have HSH := Lib.hid (show OInts wo (w.heap.size + 1) (.slice (some ⟨g, 0, none⟩) T.length ct) T by
          have := HW.out.todo.shrink (m := T.length) (by simp)
          simpa using this)
        have HROW2 := Lib.hid hrow2
        have HFINE2 := Lib.hid hfine2
        have HAP := Lib.hid (show Ap (.slice (some ⟨g, 0, none⟩) T.length ct) (.slice Ao O.length co) from fun x h1 h2 => HW.out.ap.symm x (by simpa [Value.ownBlock] using h1) h2)
        obtain ⟨_, Ak, ck, hki, -, hck, hkc⟩ := (HNS.out.below HW.out.below hS).known k.toNat N hN
        have c8 : wo.cell? ⟨b, off + k.toNat * 9 + 8, none⟩ = some (.slice Ak N.kids.length ck) := hkc 8 _ rfl
        have HKI := Lib.hid hki
        have HN := Lib.hid hN
        have hk0 : 0 ≤ k := hkf.1
        have hkl : k < (t.nodes.length : Int) := by omega
        clear hkc hki hkf hrow2 hfine2 hN
        simp only [List.length_append, List.length_singleton] at hc1 ⊢
        have hTc : (T.length : Int) ≤ (ct : Int) := by omega
        go_wp2_with (at_builtin; go_loud (refine wpList_append1 wo rfl (.tmp 28) (.tmp 30) _ rfl (w.heap.size + 1) 3 i0 _ 1 8 Tryd.underlying27 hi0 hz0 hz1 hz2 rfl (by omega) (.slice Ao O.length co) O.length (O.map (Value.int .i64)) rfl HW.out.out [.int .i64 k] rfl rfl (by simp [Value.oneCell']) (by unfold maxLen; omega) (by omega) (by omega) ?_); intro v1 w2 hown1 hgg hat1; have hb2 : Below w.heap.size w w2 := HW.out.below.trans (below_of_grown hgg HW.out.below.size (fun r hr => by have := (HW.out.out.lt r hr).1; omega)); have hB2 := HW.out.box.grown hgg (fun e => by have := (HW.out.out.lt _ e.symm).1; omega); have d0 : w2.cell? ⟨w.heap.size, 0, none⟩ = some (.slice (some ⟨b, off, none⟩) t.nodes.length c) := hB2.cell 0; have c8 : w2.cell? ⟨b, off + k.toNat * 9 + 8, none⟩ = some (.slice Ak N.kids.length ck) := (hgg.cell c8 (fun e => by have := (HW.out.out.lt _ e.symm).1; simp only at this; omega)); have HOWN1 := Lib.hid hown1; have HGG := Lib.hid hgg; have HAT1 := Lib.hid hat1; have HB2 := Lib.hid hB2; have Hb2 := Lib.hid hb2; clear hown1 hgg hat1 hB2 hb2)
        obtain ⟨A1, c1, rfl, _, _, _⟩ := own_slice HOWN1.out
        have hbes := HSH.out.beside HAP.out HGG.out HAT1.out (Nat.le_succ _)
        have HIN := Lib.hid (RWIn.mk (cs := #[.slice (some ⟨b, off, none⟩) t.nodes.length c, .int .i64 t.root]) (OInts.push1 HOWN1.out) hbes.1 hbes.2.symm HB2.out Hb2.out)
        have HKI2 := Lib.hid (HKI.out.keep (w' := w2) fun p hp => (Hb2.out.cell (hS _ hp)).trans (HW.out.below.cell (hS _ hp)).symm)
        clear hbes c8 d0
        go_loopw [4, 7] (fun vt i wr => ∃ (m : Nat) (z : Int) (n3 : Nat) (A3 : Option Addr) (c3 : Nat), m ≤ N.kids.length ∧ i = .int .i64 z ∧ z = (m : Int) - 1 ∧ vt = .slice A3 n3 c3 ∧ Hid (n3 = (T ++ (N.kids.drop m).reverse).length) ∧ Hid (RWIn (w.heap.size + 1) w.heap.size w #[.slice (some ⟨b, off, none⟩) t.nodes.length c, .int .i64 t.root] (O ++ [k]) (T ++ (N.kids.drop m).reverse) (.slice A1 (O.length + 1) c1) (.slice A3 n3 c3) wr)) (fun _ i _ => ((intOf i) + 1).toNat)
        case atStart =>
          refine ⟨N.kids.length, _, _, _, _, Nat.le_refl _, rfl, rfl, rfl, Lib.hid (by simp), ?_⟩
          rw [List.drop_length, List.reverse_nil, List.append_nil]
          exact HIN
        case round =>
          obtain ⟨wi, rfl⟩ : ∃ wi, wi = wr := ⟨_, rfl⟩
          obtain ⟨m, z, n3, A3, c3, hm, rfl, hz, rfl, HN3, HI⟩ := hrel
          rcases m with _ | m
          · obtain rfl : z = -1 := by omega
            clear hz
            go_wp2
            go_roundw
            case measure => simp [lenOf]; omega
            case rel =>
              have e1 : (O ++ [k]).length = O.length + 1 := by simp
              have e2 : n3 = (T ++ N.kids.reverse).length := by simpa using HN3.out
              have hI := HI.out
              rw [List.drop_zero, e2] at hI
              refine ⟨O ++ [k], T ++ N.kids.reverse, A1, c1, A3, c3, by rw [e1], by rw [e2], Lib.hid ⟨?_, hI.todo, ?_, HROW2.out, HFINE2.out, hI.box, hI.below⟩⟩
              · rw [e1]; exact hI.out
              · rw [e1]; exact hI.ap
          · obtain rfl : z = (m : Int) := by omega
            clear hz
            obtain ⟨kk, hkk⟩ : ∃ kk, N.kids[m]? = some kk := ⟨_, List.getElem?_eq_getElem (by omega)⟩
            obtain ⟨bk, ok, rfl, hbk, hkc⟩ := (HKI.out.keep (w' := wi) fun p hp => (HI.out.below.cell (hS _ hp)).trans (HW.out.below.cell (hS _ hp)).symm).get m kk hkk
            have hml : (m : Int) < (N.kids.length : Int) := by omega
            have hm0 : (0 : Int) ≤ (m : Int) := by omega
            have hd : (N.kids.drop m).reverse = (N.kids.drop (m + 1)).reverse ++ [kk] := by
              rw [List.drop_eq_getElem_cons (by omega), List.reverse_cons]
              have : N.kids[m] = kk := by rw [List.getElem?_eq_getElem (by omega)] at hkk; injection hkk
              rw [this]
            have hn3 := HN3.out
            have hn3l : n3 ≤ 1000000 := by
              rw [hn3]; simp; omega
            have HTD := Lib.hid (show wi.ownsRow (w.heap.size + 1) 3 1 (.slice A3 n3 c3) n3 ((T ++ (N.kids.drop (m + 1)).reverse).map (Value.int .i64)) by
              have h1 := HI.out.todo
              unfold OInts at h1
              rwa [← hn3] at h1)
            have HD := Lib.hid hd
            have hwi := HI.out.below.size
            clear hd hkk hn3
            go_wp2_with (at_builtin; go_loud (refine wpList_append1 wi rfl (.tmp 45) (.tmp 50) _ rfl (w.heap.size + 1) 3 i0 _ 1 8 Tryd.underlying27 hi0 hz0 hz1 hz2 rfl (by omega) (.slice A3 n3 c3) n3 _ rfl HTD.out [.int .i64 kk] rfl rfl (by simp [Value.oneCell']) (by unfold maxLen; omega) (by omega) (by have := HI.out.box.lt; omega) ?_); intro v5 w5 hown5 hgg5 hat5; have HOWN5 := Lib.hid hown5; have HGG5 := Lib.hid hgg5; have HAT5 := Lib.hid hat5; clear hown5 hgg5 hat5)
            go_roundw
            case measure => simp [intOf]
            case rel =>
              obtain ⟨A5, c5, rfl, _, _, _⟩ := own_slice HOWN5.out
              have hbes := HI.out.out.beside HI.out.ap HGG5.out HAT5.out (Nat.le_succ _)
              have hL : T ++ (N.kids.drop m).reverse = (T ++ (N.kids.drop (m + 1)).reverse) ++ [kk] := by rw [HD.out, List.append_assoc]
              have hn5 : n3 + 1 = (T ++ (N.kids.drop m).reverse).length := by rw [hL, List.length_append, ← HN3.out]; rfl
              refine ⟨m, _, n3 + 1, A5, c5, by omega, rfl, rfl, rfl, Lib.hid hn5, Lib.hid ⟨hbes.1, ?_, hbes.2, ?_, ?_⟩⟩
              · have h1 := HOWN5.out
                unfold OInts
                rw [← hn5, hL, List.map_append]
                exact h1
              · exact HI.out.box.grown HGG5.out (fun e => by have := (HI.out.todo.lt _ e.symm).1; omega)
              · exact HI.out.below.trans (below_of_grown HGG5.out hwi (fun r hr => by have := (HI.out.todo.lt r hr).1; omega))
  · have hv : walkOf t = [] := if_neg hr
    rw [decide_eq_false hr] at HR
    have HV := Lib.hid hv
    clear h hns hr hv hcells
    go_enter Tryd.func34, Tryd.ntmps34
    go_wp2_with fail
    refine (HR.out _ ((Below.refl _ _).alloc (Nat.le_refl _) _)).mono ?_
    rintro e w1 ⟨rfl, hb1⟩
    have hb01 : Below w.heap.size w w1 := ((Below.refl _ _).alloc (Nat.le_refl _) _).trans (hb1.mono (by simp <;> omega))
    clear hb1
    go_wp2_with fail
    go_ret
    exact ⟨_, rfl, by rw [HV.out]; exact World.ownsRow_nil _ _ _ _, hb01⟩
end Go.Proofs.YtlmlbdmbgfclkaaDoor

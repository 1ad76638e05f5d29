/- The contracts of slices.Equal (of numbers), of the comparison of two nodes, of slices.EqualFunc, and of tree.Same. -/
import Derived.Test.YtlmlbdmbgfclkaaDoorTrX
namespace Go.Proofs.YtlmlbdmbgfclkaaDoor
open Go.RowKit
open Classical

theorem below_drewN_self (w : World) (q : Nat) : Below w.heap.size w (w.drewN q) := below_drewN (Below.refl _ _) q
theorem equal_ints {w : World} {S S' : Nat → Prop} {v v' : Value} {ks ks' : List Int} (h : RInts w S v ks) (h' : RInts w S' v' ks') :
    Calls Tryd.prog 46 #[v, v'] w fun e w' => e = .returned (.bool (decide (ks = ks'))) ∧ Below w.heap.size w w' := by
  obtain ⟨A, c, rfl, hc, hs, hr⟩ := h.at_
  obtain ⟨A', c', rfl, hc', hs', hr'⟩ := h'.at_
  clear h h'
  unfold maxLen at hs hs'
  by_cases hl : ks.length = ks'.length
  · rcases Nat.eq_zero_or_pos ks.length with h0 | h0
    · have e1 : ks = [] := List.eq_nil_of_length_eq_zero h0
      have e2 : ks' = [] := List.eq_nil_of_length_eq_zero (by omega)
      subst e1; subst e2
      refine (Tryd.slices_Equal_int_empty A A' c 0 c' w (by omega)).mono ?_
      rintro e w' ⟨rfl, rfl⟩
      exact ⟨by simp, Below.refl _ _⟩
    · obtain ⟨b, o, rfl, _, hcell⟩ := hr h0
      obtain ⟨b', o', rfl, _, hcell'⟩ := hr' (by omega)
      refine (Tryd.slices_Equal_int b o ks.length c b' o' ks'.length c' ks ks' w (Nat.le_refl _) (Nat.le_refl _) (by omega) (by omega) (fun j hj => ?_) (fun j hj => ?_)).mono ?_
      · have := hcell j _ (List.getElem?_eq_getElem hj)
        simpa [List.getD, hj] using this
      · have := hcell' j _ (List.getElem?_eq_getElem hj)
        simpa [List.getD, hj] using this
      · rintro e w' ⟨rfl, q, rfl⟩
        refine ⟨?_, below_drewN_self w q⟩
        rw [List.take_length, List.take_length]
        congr 2
        rw [Bool.eq_iff_iff, beq_iff_eq, decide_eq_true_eq]
  · have hne : ks ≠ ks' := fun e => hl (by rw [e])
    have HNE := Lib.hid hne
    have hl2 : ((ks.length : Int) == (ks'.length : Int)) = false := by simp; omega
    clear hne hr hr'
    generalize ks.length = n at *
    generalize ks'.length = m at *
    go_enter Tryd.func46, Tryd.ntmps46
    go_wp2
    go_ret
    exact ⟨ret_bool (by simp [HNE.out]), Below.refl _ _⟩

set_option maxHeartbeats 1000000 in
theorem same1_g {w : World} {S S' : Nat → Prop} {v v' : Value} {x y : Nd} (hx : RNode w S v x) (hy : RNode w S' v' y) (hS : ∀ b, S b → b < w.heap.size) (hS' : ∀ b, S' b → b < w.heap.size) :
    Calls Tryd.prog 45 #[v, v'] w fun e w' => e = .returned (.bool (decide (x = y))) ∧ Below w.heap.size w w' := by
  obtain ⟨kv, rfl, hk, hd⟩ := hx
  obtain ⟨kv', rfl, hk', hd'⟩ := hy
  have HE := Lib.hid (fun wx (hb : Below w.heap.size w wx) => equal_ints (hk.below hb hS) (hk'.below hb hS'))
  obtain ⟨⟨k1, a0, a1, a2, a3, t1, m1, n1⟩, ks1⟩ := x
  obtain ⟨⟨k2, b0, b1, b2, b3, t2, m2, n2⟩, ks2⟩ := y
  clear hk hk' hd hd'
  simp only [nodeCells] at *
  obtain ⟨X, hX⟩ : ∃ X, X = decide (ks1 = ks2) := ⟨_, rfl⟩
  rw [← hX] at HE
  have HX := Lib.hid hX
  clear hX
  go_enter Tryd.func45, Tryd.ntmps45
  go_wp2_with (go_at_call 46; refine (HE.out _ (((Below.refl _ _).alloc (Nat.le_refl _) _).alloc (by simp) _)).mono ?_; rintro e w1 ⟨rfl, hb1⟩)
  all_goals go_ret
  all_goals refine ⟨ret_bool ?_, ?_⟩
  all_goals first
    | exact ((Below.refl _ _).alloc (Nat.le_refl _) _).alloc (by simp) _
    | exact (((Below.refl _ _).alloc (Nat.le_refl _) _).alloc (by simp) _).trans (hb1.mono (by simp <;> omega))
    | (try rw [HX.out]
       clear HX HE
       simp [*]
       done)
    | (rw [eq_comm, decide_eq_false_iff_not]
       simp only [Nd.mk.injEq, Dt.mk.injEq]
       rintro ⟨⟨h1, h2, h3, h4, h5, _⟩, _⟩
       have h6 : a0 = b0 ∧ a1 = b1 ∧ a2 = b2 ∧ a3 = b3 := ⟨h2, h3, h4, h5⟩
       contradiction)

/-- A node of a row: its nine cells as a walk reads them. -/
theorem RNodes.get {w : World} {S : Nat → Prop} {A : Option Addr} {n c : Nat} {ns : List Nd} (h : RNodes w S (.slice A n c) ns) (j : Nat) (x : Nd) (hj : ns[j]? = some x) :
    ∃ b off Ak ck, A = some ⟨b, off, none⟩ ∧ S b ∧ RInts w S (.slice Ak x.kids.length ck) x.kids ∧ x.d.Ok ∧
      w.cell? ⟨b, off + j * 9, none⟩ = some (.int .u8 x.d.kind) ∧ w.cell? ⟨b, off + j * 9 + 1, none⟩ = some (.int .u64 x.d.s0) ∧ w.cell? ⟨b, off + j * 9 + 2, none⟩ = some (.int .u64 x.d.s1) ∧
      w.cell? ⟨b, off + j * 9 + 3, none⟩ = some (.int .u64 x.d.s2) ∧ w.cell? ⟨b, off + j * 9 + 4, none⟩ = some (.int .u64 x.d.s3) ∧ w.cell? ⟨b, off + j * 9 + 5, none⟩ = some (.string ⟨x.d.text.toArray⟩) ∧
      w.cell? ⟨b, off + j * 9 + 6, none⟩ = some (.int .i64 x.d.min) ∧ w.cell? ⟨b, off + j * 9 + 7, none⟩ = some (.int .i64 x.d.max) ∧ w.cell? ⟨b, off + j * 9 + 8, none⟩ = some (.slice Ak x.kids.length ck) := by
  have hjl : j < ns.length := (List.getElem?_eq_some_iff.1 hj).1
  obtain ⟨A', c', hv, _, _, hr⟩ := h.at_
  injection hv with h1 h2 h3
  subst h1; subst h2; subst h3
  obtain ⟨b, off, rfl, hS, _⟩ := hr (by omega)
  obtain ⟨_, Ak, ck, hk, hd, _, hc⟩ := h.known j x hj
  exact ⟨b, off, Ak, ck, rfl, hS, hk, hd, hc 0 _ rfl, hc 1 _ rfl, hc 2 _ rfl, hc 3 _ rfl, hc 4 _ rfl, hc 5 _ rfl, hc 6 _ rfl, hc 7 _ rfl, hc 8 _ rfl⟩
set_option maxHeartbeats 1000000 in
theorem equalf_g {w : World} {S S' : Nat → Prop} {v v' : Value} {xs ys : List Nd} (hx : RNodes w S v xs) (hy : RNodes w S' v' ys) (hS : ∀ b, S b → b < w.heap.size) (hS' : ∀ b, S' b → b < w.heap.size) (hl : xs.length ≤ 1000000) :
    Calls Tryd.prog 43 #[v, v', .func (.func 45) #[] #[]] w fun e w' => e = .returned (.bool (decide (xs = ys))) ∧ Below w.heap.size w w' := by
  obtain ⟨A, c, rfl, hc, hs, hr⟩ := hx.at_
  obtain ⟨A', c', rfl, hc', hs', hr'⟩ := hy.at_
  by_cases hle : xs.length = ys.length
  · have HX := Lib.hid hx
    have HY := Lib.hid hy
    have HLE := Lib.hid hle
    clear hx hy hr hr'
    rw [← hle] at hs' hc'
    rw [← hle]
    clear hle
    go_enter Tryd.func43, Tryd.ntmps43
    go_wp2
    go_loopw [17] (fun i wr => ∃ k : Nat, k ≤ xs.length ∧ i = .int .i64 k ∧ Hid (xs.take k = ys.take k) ∧ Hid (Below w.heap.size w wr)) (fun i _ => xs.length - (intOf i).toNat)
    case atStart => exact ⟨0, Nat.zero_le _, rfl, Lib.hid (by simp), Lib.hid (Below.refl _ _)⟩
    case round =>
      obtain ⟨k, hk, rfl, HA, HB⟩ := hrel
      by_cases hlt : k < xs.length
      · obtain ⟨x, hx⟩ : ∃ x, xs[k]? = some x := ⟨_, List.getElem?_eq_getElem hlt⟩
        obtain ⟨y, hy⟩ : ∃ y, ys[k]? = some y := ⟨_, List.getElem?_eq_getElem (by rw [← HLE.out]; exact hlt)⟩
        obtain ⟨b, off, Ak, ck, rfl, hbS, hki, hdo, c0, c1, c2, c3, c4, c5, c6, c7, c8⟩ := (HX.out.below HB.out hS).get k x hx
        obtain ⟨b', off', Ak', ck', rfl, hbS', hki', hdo', e0, e1, e2, e3, e4, e5, e6, e7, e8⟩ := (HY.out.below HB.out hS').get k y hy
        have hbB := hS b hbS
        have hbB' := hS' b' hbS'
        have hbs := HB.out.size
        have hS2 := fun b hb => Nat.lt_of_lt_of_le (hS b hb) hbs
        have hS2' := fun b hb => Nat.lt_of_lt_of_le (hS' b hb) hbs
        have g0 := fun o : Obj => (World.cell?_alloc_lt wr o ⟨b', off' + k * 9, none⟩ (by show b' < _; omega)).trans e0
        have g1 := fun o : Obj => (World.cell?_alloc_lt wr o ⟨b', off' + k * 9 + 1, none⟩ (by show b' < _; omega)).trans e1
        have g2 := fun o : Obj => (World.cell?_alloc_lt wr o ⟨b', off' + k * 9 + 2, none⟩ (by show b' < _; omega)).trans e2
        have g3 := fun o : Obj => (World.cell?_alloc_lt wr o ⟨b', off' + k * 9 + 3, none⟩ (by show b' < _; omega)).trans e3
        have g4 := fun o : Obj => (World.cell?_alloc_lt wr o ⟨b', off' + k * 9 + 4, none⟩ (by show b' < _; omega)).trans e4
        have g5 := fun o : Obj => (World.cell?_alloc_lt wr o ⟨b', off' + k * 9 + 5, none⟩ (by show b' < _; omega)).trans e5
        have g6 := fun o : Obj => (World.cell?_alloc_lt wr o ⟨b', off' + k * 9 + 6, none⟩ (by show b' < _; omega)).trans e6
        have g7 := fun o : Obj => (World.cell?_alloc_lt wr o ⟨b', off' + k * 9 + 7, none⟩ (by show b' < _; omega)).trans e7
        have g8 := fun o : Obj => (World.cell?_alloc_lt wr o ⟨b', off' + k * 9 + 8, none⟩ (by show b' < _; omega)).trans e8
        have HS := Lib.hid (fun (wx : World) (hx : Below wr.heap.size wr wx) => same1_g (w := wx) ⟨_, rfl, hki.below hx hS2, hdo⟩ ⟨_, rfl, hki'.below hx hS2', hdo'⟩ (fun b hb => Nat.lt_of_lt_of_le (hS2 b hb) hx.size) (fun b hb => Nat.lt_of_lt_of_le (hS2' b hb) hx.size))
        simp only [nodeCells] at HS
        have HXK := Lib.hid hx
        have HYK := Lib.hid hy
        clear hx hy hki hki' hdo hdo' e0 e1 e2 e3 e4 e5 e6 e7 e8
        by_cases hxy : x = y
        · rw [decide_eq_true hxy] at HS
          have htk : xs.take (k + 1) = ys.take (k + 1) := by rw [List.take_add_one, List.take_add_one, HA.out, HXK.out, HYK.out, hxy]
          have HTK := Lib.hid htk
          clear htk hxy
          go_wp2_with (go_at_call 45; refine (HS.out _ (((Below.refl _ _).alloc (Nat.le_refl _) _).alloc (by simp) _)).mono ?_; rintro e w1 ⟨rfl, hb1⟩)
          go_roundw
          case rel => exact ⟨k + 1, by omega, by go_num, HTK, Lib.hid (HB.out.trans (((((Below.refl _ _).alloc (Nat.le_refl _) _).alloc (by simp) _).trans (hb1.mono (by simp <;> omega))).mono HB.out.size))⟩
          case measure => simp [intOf]; omega
        · rw [decide_eq_false hxy] at HS
          have hne : xs ≠ ys := fun e => by
            have h1 := HXK.out
            rw [e, HYK.out] at h1
            injection h1 with h1
            exact hxy h1.symm
          have HNE := Lib.hid hne
          clear hne hxy
          go_wp2_with (go_at_call 45; refine (HS.out _ (((Below.refl _ _).alloc (Nat.le_refl _) _).alloc (by simp) _)).mono ?_; rintro e w1 ⟨rfl, hb1⟩)
          go_ret
          exact ⟨ret_bool (by simp [HNE.out]), HB.out.trans (((((Below.refl _ _).alloc (Nat.le_refl _) _).alloc (by simp) _).trans (hb1.mono (by simp <;> omega))).mono HB.out.size)⟩
      · have heq : xs = ys := by
          have h := HA.out
          rwa [List.take_of_length_le (by omega), List.take_of_length_le (by rw [← HLE.out]; omega)] at h
        have HEQ := Lib.hid heq
        clear heq
        go_wp2
        go_ret
        exact ⟨ret_bool (by simp [HEQ.out]), HB.out⟩
  · have hne : xs ≠ ys := fun e => hle (by rw [e])
    have HNE := Lib.hid hne
    have hl2 : ((xs.length : Int) == (ys.length : Int)) = false := by simp; omega
    clear hne hr hr' hx hy
    generalize xs.length = n at *
    generalize ys.length = m at *
    go_enter Tryd.func43, Tryd.ntmps43
    go_wp2
    go_ret
    exact ⟨ret_bool (by simp [HNE.out]), Below.refl _ _⟩
end Go.Proofs.YtlmlbdmbgfclkaaDoor

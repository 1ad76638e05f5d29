/- NameFree answers true for every stem and all texts that are used. Conditions: the texts are Go's; the library's table lies as laid. -/
import Derived.Test.YthmkmffehbdniaaDoorNmBack
import Derived.Test.YthmkmffehbdniaaDoorNmS
import Derived.Test.YthmkmffehbdniaaDoorMem
import Derived.Deep.QuietTactic
import Derived.BigQuiet
import Derived.Test.YthmkmffehbdniaaDoorLift
namespace Go.Proofs.YthmkmffehbdniaaDoor
open Go.RowKit Go.ChangeShapes Go.WideShapes Go.ChangeMaps

def strCells (us : List (List UInt8)) : List Value := us.map fun l => Value.string ⟨l.toArray⟩
theorem strCells_one (us : List (List UInt8)) : ∀ u ∈ strCells us, u.oneCell' = true := by
  intro u hu
  obtain ⟨l, _, rfl⟩ := List.mem_map.1 hu
  rfl
theorem strCells_at (us : List (List UInt8)) (j : Nat) (h : j < us.length) : (strCells us)[j]? = some (.string ⟨(us.getD j []).toArray⟩) := by
  simp [strCells, h]
theorem RStrs.reads {w : World} {B : Nat} {v : Value} {us : List (List UInt8)} (h : RStrs w B v us) : ∃ A c, v = .slice A us.length c ∧ Reads w B 1 A us.length (strCells us) := by
  obtain ⟨A, c, rfl, _, hc⟩ := h
  refine ⟨A, c, rfl, by simp [strCells], fun hn => ?_⟩
  obtain ⟨b, off, rfl, hb, _⟩ := hc 0 hn
  refine ⟨_, rfl, hb, fun j u hu => ?_⟩
  have hj : j < us.length := by
    have := (List.getElem?_eq_some_iff.1 hu).1
    simpa [strCells] using this
  obtain ⟨b', off', e, _, hcell⟩ := hc j hj
  injection e with e
  injection e with e1 e2
  rw [strCells_at us j hj] at hu
  have ea : (⟨b, off, none⟩ : Addr).add j = ⟨b', off' + j, none⟩ := by
    rw [e1, e2]
    unfold Addr.add
    split
    · simp [*]
    · rfl
  rw [ea, hcell]; exact hu
theorem rstrs_of_own {w : World} {base : Nat} {e : TypeId} {v : Value} {us : List (List UInt8)} (h : w.ownsRow base e 1 v us.length (strCells us)) (hl : us.length ≤ maxLen) : RStrs w w.heap.size v us := by
  rcases Nat.eq_zero_or_pos us.length with h0 | h0
  · obtain rfl : us = [] := List.eq_nil_of_length_eq_zero h0
    rcases h.2 with ⟨rfl, _⟩ | ⟨g, cap, cur, rfl, _⟩
    · exact ⟨_, _, rfl, hl, fun j hj => by simp at hj⟩
    · exact ⟨_, _, rfl, hl, fun j hj => by simp at hj⟩
  · obtain ⟨g, cap, rfl, _, hlt⟩ := h.form h0
    refine ⟨_, _, rfl, hl, fun j hj => ⟨g, 0, rfl, hlt, ?_⟩⟩
    have := h.cells (g := g) rfl j _ (strCells_at us j hj)
    rw [← this]
    congr 1
    unfold Addr.add
    split
    · simp [*]
    · simp
theorem str_info : (Tryd.prog.info? 9).map (fun i => (i.zero, i.size, i.bytes)) = some (some (.string ⟨#[]⟩), 1, 16) := by kernel_rfl

theorem cellsStr : Tryd.prog.cellsOf 9 = 1 := by kernel_rfl
theorem open_strs {H : Type} {enc : TypeId × Value → H} {W : World} {base : Nat} {v : Value} {d : DataW H} {p : List MemPlace} (hv : Value.okWide Tryd.prog W .any base 22 v) (h : DataW.Trod enc Tryd.prog W 0 (fun _ => true) true 22 v d p) :
    ∃ us, RStrs W W.heap.size v us := by
  obtain ⟨a0, len, cap, rfl⟩ := okWide_slice Tryd.underlying22 hv
  obtain ⟨fuel, hf⟩ := h
  rcases open_strings Tryd.underlying22 Tryd.underlying9 cellsStr hf with ⟨hcs, _⟩ | ⟨a, len', cap', ss, hcs, _, hl, hm, hz, _, hcell, _⟩
  · simp only [Value.cells, List.cons.injEq, Value.slice.injEq, and_true] at hcs
    obtain ⟨rfl, rfl, rfl⟩ := hcs
    exact ⟨[], _, _, rfl, by simp, fun j hj => by simp at hj⟩
  · simp only [Value.cells, List.cons.injEq, Value.slice.injEq, and_true] at hcs
    obtain ⟨rfl, rfl, rfl⟩ := hcs
    have hlen : len ≤ ss.length := by rw [hz]; split <;> omega
    have hus : ((ss.take len).map fun s => s.data.toList).length = len := by simp [hlen]
    refine ⟨(ss.take len).map fun s => s.data.toList, some a, cap, by rw [hus], by rw [hus]; omega, fun j hj => ?_⟩
    rw [hus] at hj
    have hc0 := hcell 0 (by omega)
    obtain ⟨b, off, rfl⟩ := addr_plain (show W.cell? a = _ from hc0)
    have hc := hcell j (by omega)
    have ea : (⟨b, off, none⟩ : Addr).add j = ⟨b, off + j, none⟩ := by
      unfold Addr.add
      split
      · simp [*]
      · rfl
    rw [ea] at hc
    have hj2 : j < ss.length := by omega
    refine ⟨b, off, rfl, cell_lt hc, ?_⟩
    rw [hc]
    have e1 : ss.getD j ByteArray.empty = ss[j] := by simp [hj2]
    have e2 : ((ss.take len).map fun s => s.data.toList).getD j [] = ss[j].data.toList := by simp [hj, hj2]
    rw [e1, e2]
theorem free_b (st : List UInt8) (hst : st.length ≤ 4611686018427387904) (v : Value) (us : List (List UInt8)) (w0 w : World) (hb : Below w0.heap.size w0 w) (ht : Tab w0) (hus : RStrs w w.heap.size v us) :
    Calls Tryd.prog 11 #[.string ⟨st.toArray⟩, v] w fun e w' => ∃ r, FreeIs st us r ∧ e = .returned (.string ⟨r.toArray⟩) ∧ Below w.heap.size w w' ∧ Below w0.heap.size w0 w' :=
  (free_any st hst v us w (ht.below hb) hus).mono fun _ _ ⟨r, h1, h2, h3⟩ => ⟨r, h1, h2, h3, hb.trans (h3.mono hb.size)⟩
theorem rfree_b (st : List UInt8) (hst : st.length ≤ 4611686018427387904) (v : Value) (us : List (List UInt8)) (w0 w : World) (hb : Below w0.heap.size w0 w) (hus : RStrs w w.heap.size v us) :
    Calls Tryd.prog 12 #[.string ⟨st.toArray⟩, v] w fun e w' => ∃ r, FreeIs st us r ∧ e = .returned (.string ⟨r.toArray⟩) ∧ Below w.heap.size w w' ∧ Below w0.heap.size w0 w' :=
  (rfree_any st hst v us w hus).mono fun _ _ ⟨r, h1, h2, h3⟩ => ⟨r, h1, h2, h3, hb.trans (h3.mono hb.size)⟩
theorem RStrs.more {w : World} {B B' : Nat} {v : Value} {us : List (List UInt8)} (h : RStrs w B v us) (hB : B ≤ B') : RStrs w B' v us := by
  obtain ⟨A, c, hv, hl, hc⟩ := h
  exact ⟨A, c, hv, hl, fun j hj => by obtain ⟨b, off, h1, h2, h3⟩ := hc j hj; exact ⟨b, off, h1, by omega, h3⟩⟩

set_option maxHeartbeats 2000000 in
theorem lfree_any (stem : ByteArray) (v : Value) (us : List (List UInt8)) (hs : stem.size ≤ maxLen) (w : World) (ht : Tab w) (hus : RStrs w w.heap.size v us) :
    Calls Tryd.prog 3 #[.string stem, v] w (TruePost w) := by
  have h0 : Below w.heap.size w w := Below.refl _ _
  obtain ⟨st, rfl⟩ : ∃ st : List UInt8, stem = ⟨st.toArray⟩ := ⟨stem.data.toList, rfl⟩
  have hst : st.length ≤ maxLen := by have e : (⟨st.toArray⟩ : ByteArray).size = st.length := by show st.toArray.size = _; simp
                                      omega
  have HT := Lib.hid ht
  have HR := Lib.hid hus
  obtain ⟨A, c, hv, hrd⟩ := hus.reads
  have hlen : us.length ≤ maxLen := by obtain ⟨_, _, _, h, _⟩ := hus; exact h
  subst hv
  clear ht hus hs
  unfold maxLen at hst hlen
  by_cases hl : 200 < st.length ∨ 300 < us.length
  · by_cases h1 : 200 < st.length
    rotate_left
    have h2 : 300 < us.length := by omega
    all_goals
      clear hl
      go_enter Tryd.func3, Tryd.ntmps3
      go_wp2_with (go_at_call 10; refine (works_b w _ (by assumption) HT.out).mono ?_; rintro e w1 ⟨rfl, hb1⟩)
      go_ret
      exact ⟨rfl, by assumption⟩
  · have hl1 : st.length ≤ 200 := by omega
    have hl2 : us.length ≤ 300 := by omega
    clear hl hst hlen
    obtain ⟨i0, hi0, hz0, hz1, hz2⟩ := info_parts str_info
    have Hone := Lib.hid (strCells_one us)
    have Hrd := Lib.hid hrd
    clear hrd
    go_enter Tryd.func3, Tryd.ntmps3
    have hlit := World.ownsRow_lit (base := w.heap.size) (e := 9) (size := 1) w #[] 0 (Nat.le_refl _) (by simp [maxLen]) rfl
    have Hlit := Lib.hid hlit
    clear hlit
    go_wp2_with (first
      | (at_builtin; refine wpList_append_any _ rfl (.tmp 16) (.tmp 17) _ rfl w.heap.size 9 i0 _ 1 16 Tryd.underlying22 hi0 hz0 hz1 hz2 rfl (by omega) (.slice (some ⟨w.heap.size, 0, none⟩) 0 0) 0 [] rfl Hlit.out w.heap.size A us.length c (strCells us) rfl (Hrd.out.alloc (Nat.le_refl _) _) Hone.out (by unfold maxLen; omega) (by omega) (by simp) ?_; intro v1 w1 hown1 hg1 hat1)
      | fail)
    have hb1 : Below w.heap.size w w1 := ((Below.refl w.heap.size w).alloc (Nat.le_refl _) _).grown hg1 (by simp) (fun k hk => by simp [Value.ownBlock] at hk; omega)
    have hown2 : w1.ownsRow w.heap.size 9 1 v1 us.length (strCells us) := by simpa using hown1
    have hR1 := rstrs_of_own hown2 (by unfold maxLen; omega)
    have HOwn := Lib.hid hown2
    have HR1 := Lib.hid hR1
    clear hown1 hown2 hg1 hat1 hR1
    go_wp2_with fail
    refine (free_b st (by omega) v1 us w w1 hb1 HT.out HR1.out).mono ?_
    rintro e w2 ⟨r, hr, rfl, hb2, hb3⟩
    have HFr := Lib.hid hr
    clear hr
    go_wp2_with fail
    refine (rfree_b st (by omega) _ us w w2 hb3 ((HR.out.below hb3).more hb3.size)).mono ?_
    rintro e w3 ⟨r', hr', rfl, hb4, hb5⟩
    obtain rfl : r = r' := free_unique HFr.out hr'
    clear hr'
    go_wp2_with fail
    have hR3 : RStrs w3 w3.heap.size v1 us := ((HR1.out.below hb2).more hb2.size).below (hb4.mono (Nat.le_refl _)) |>.more hb4.size
    have hR4 : RStrs w3 w3.heap.size (.slice A us.length c) us := (HR.out.below hb5).more hb5.size
    obtain ⟨A1, c1, hv1, _, hc1⟩ := hR3
    obtain ⟨A2, c2, hv2, _, hc2⟩ := hR4
    injection hv2 with e1 e2 e3
    subst e1
    have HC1 := Lib.hid hc1
    have HC2 := Lib.hid hc2
    have hT3 := HT.out.below hb5
    have HT3 := Lib.hid hT3
    rw [hv1]
    clear hc1 hc2 hv1 e2 e3 HFr hT3
    go_loopw [6] (fun i wr => ∃ j : Nat, j ≤ us.length ∧ i = .int .i64 j ∧ Below w3.heap.size w3 wr) (fun i _ => us.length - (intOf i).toNat)
    case atStart => exact ⟨0, Nat.zero_le _, rfl, Below.refl _ _⟩
    case round =>
      obtain ⟨j, hj, rfl, hB⟩ := hrel
      by_cases hlt : j < us.length
      · obtain ⟨b1, o1, hA1, hlt1, hx1⟩ := HC1.out j hlt
        obtain ⟨b2, o2, hA2, hlt2, hx2⟩ := HC2.out j hlt
        have g1 : wr.cell? ⟨b1, o1 + j, none⟩ = some (.string ⟨(us.getD j []).toArray⟩) := (hB.cell (p := ⟨b1, o1 + j, none⟩) hlt1).trans hx1
        have g2 : wr.cell? ⟨b2, o2 + j, none⟩ = some (.string ⟨(us.getD j []).toArray⟩) := (hB.cell (p := ⟨b2, o2 + j, none⟩) hlt2).trans hx2
        generalize us.getD j [] = y at *
        rw [hA1, hA2]
        have i1 : (0 : Int) ≤ (j : Int) := by omega
        have i2 : (j : Int) < (us.length : Int) := by omega
        clear hx1 hx2 hA1 hA2
        go_wp2
        go_quiet (fail)
        go_wp2
        go_roundw
        case rel => exact ⟨j + 1, by omega, by go_num, below_drewN hB _⟩
        case measure => simp [intOf]; omega
      · go_wp2_with fail
        refine (works_any wr (HT3.out.below hB)).mono ?_
        rintro e w4 ⟨rfl, hb6⟩
        go_wp2_with fail
        go_ret
        exact ⟨rfl, hb5.trans ((hB.trans (hb6.mono hB.size)).mono hb5.size)⟩
end Go.Proofs.YthmkmffehbdniaaDoor

/- NameOwn answers true for every stem and all texts that are used. Conditions: the texts are Go's; the library's table lies as laid. -/
import Derived.Test.YthmkmffehbdniaaDoorNmFree
import Derived.Test.YthmkmffehbdniaaDoorNmN
namespace Go.Proofs.YthmkmffehbdniaaDoor
open Go.RowKit

namespace Nm
theorem dig_pos {l : List UInt8} {d : UInt8} (h : may l = true) (hd : isDig d = true) (hl : l.length ≤ 31) : may (l ++ [d]) = true := by
  unfold may at h
  simp only [Bool.and_eq_true, decide_eq_true_eq] at h
  obtain ⟨⟨h1, h2⟩, h3⟩ := h
  have hs := nmLen_spec l
  rw [h3] at hs
  have hpos : 0 < l.length := List.length_pos_iff.2 h1
  have ht : IsTake (l ++ [d]) (l.length + 1) := by
    refine ⟨by simp, fun j hj => ?_, fun h => by simp at h⟩
    by_cases e : j = l.length
    · subst e
      unfold ok
      have : (l ++ [d]).getD l.length 0 = d := by simp
      rw [this, hd]; simp [hpos]
    · have := hs.2.1 j (by omega)
      unfold ok at this ⊢
      have e2 : (l ++ [d]).getD j 0 = l.getD j 0 := by
        have : j < l.length := by omega
        simp [List.getElem?_append, this]
      rw [e2]; exact this
  unfold may
  rw [← ht.eq]
  simp; omega
theorem tryAt_small (st : List UInt8) (k : Nat) (h1 : 1 ≤ k) (h2 : k ≤ 8) : tryAt st k = st ++ [UInt8.ofNat (48 + (k + 1))] := by
  unfold tryAt
  rw [if_neg (by omega), show wrap64 ((k : Int) + 1) = ((k + 1 : Nat) : Int) from by unfold wrap64; omega, itoa_small (k + 1) (by omega)]
theorem tryAt_ne (st : List UInt8) (i j : Nat) (hi : i < 4) (hj : j < 4) (h : tryAt st i = tryAt st j) : i = j := by
  have key : ∀ a, a < 4 → (tryAt st a = if a = 0 then st else st ++ [UInt8.ofNat (48 + (a + 1))]) := fun a ha => by
    split
    · rename_i e; subst e; rfl
    · exact tryAt_small st a (by omega) (by omega)
  rw [key i hi, key j hj] at h
  split at h <;> split at h
  · omega
  · have := congrArg List.length h; simp at this
  · have := congrArg List.length h; simp at this
  · have h2 := List.append_cancel_left h
    injection h2 with h2
    have h3 := congrArg UInt8.toNat h2
    rw [(dig_of (i + 1) (by omega)).2, (dig_of (j + 1) (by omega)).2] at h3
    omega
end Nm
theorem four_used {st : List UInt8} {us : List (List UInt8)} {k : Nat} (hk : 4 ≤ k) (h : ∀ i, i < k → Nm.tryAt st i ∈ us) : 4 ≤ us.length := by
  have hn : ((List.range 4).map (Nm.tryAt st)).Nodup := by
    rw [List.nodup_iff_pairwise_ne, List.pairwise_map]
    refine List.Pairwise.imp_of_mem (fun {i j} hi hj hlt e => ?_) (List.pairwise_lt_range (n := 4))
    have := Nm.tryAt_ne st i j (List.mem_range.1 hi) (List.mem_range.1 hj) e
    omega
  have hs : ((List.range 4).map (Nm.tryAt st)) ⊆ us := by
    intro y hy
    obtain ⟨i, hi, rfl⟩ := List.mem_map.1 hy
    exact h i (by have := List.mem_range.1 hi; omega)
  have := List.Nodup.length_le_of_subset hn hs
  simpa using this
/-- What Free tells: nothing, where the stem is none, is too long, or more than three are used; else a name of the stem that is not used. -/
theorem free_facts {st : List UInt8} {us : List (List UInt8)} {r : List UInt8} (h : FreeIs st us r) :
    (r = [] ∧ (Nm.may st = false ∨ 28 < st.length ∨ 3 < us.length)) ∨ (r ≠ [] ∧ Nm.may r = true ∧ has us r = false ∧ st.length ≤ r.length ∧ r.take st.length = st) := by
  rcases h with ⟨k, h1, h2, h3, rfl⟩ | ⟨k, h1, h2, h3, rfl⟩
  · refine .inr ?_
    have hm := h1 k (by omega)
    refine ⟨fun e => by rw [e] at hm; exact absurd hm (by decide), hm, decide_eq_false h3, ?_, ?_⟩
    · unfold Nm.tryAt
      split
      · exact Nat.le_refl _
      · simp
    · unfold Nm.tryAt
      split
      · simp
      · simp
  · refine .inl ⟨rfl, ?_⟩
    cases hst : Nm.may st
    · exact .inl rfl
    · refine .inr ?_
      by_cases h28 : 28 < st.length
      · exact .inl h28
      · refine .inr ?_
        have h4 : 4 ≤ k := by
          rcases Nat.lt_or_ge k 4 with h5 | h5
          · exfalso
            rcases Nat.eq_zero_or_pos k with h0 | h0
            · subst h0
              rw [show Nm.tryAt st 0 = st from rfl, hst] at h2; cases h2
            · rw [Nm.tryAt_small st k h0 (by omega), Nm.dig_pos hst (Nm.dig_of (k + 1) (by omega)).1 (by omega)] at h2
              cases h2
          · exact h5
        have := four_used h4 h3
        omega
theorem free_next {st : List UInt8} {us : List (List UInt8)} {r r' : List UInt8} (h : FreeIs st (us ++ [r]) r') (hr : r ≠ []) : r' ≠ r := by
  rcases h with ⟨k, h1, h2, h3, rfl⟩ | ⟨k, h1, h2, h3, rfl⟩
  · exact fun e => h3 (by rw [e]; simp)
  · exact fun e => hr e.symm

theorem may_b (l : List UInt8) (hl : (⟨l.toArray⟩ : ByteArray).size ≤ maxLen) (b : Bool) (h : Nm.may l = b) (w : World) :
    Calls Tryd.prog 16 #[.string ⟨l.toArray⟩] w fun e w' => e = .returned (.bool b) ∧ w = w' :=
  (may_any ⟨l.toArray⟩ hl w).mono fun _ _ hp => ⟨by rw [hp.1, ← h], hp.2⟩
theorem size_l (l : List UInt8) : (⟨l.toArray⟩ : ByteArray).size = l.length := by show l.toArray.size = _; simp

set_option maxHeartbeats 2000000 in
theorem lown_any (stem : ByteArray) (v : Value) (us : List (List UInt8)) (hs : stem.size ≤ maxLen) (w : World) (ht : Tab w) (hus : RStrs w w.heap.size v us) :
    Calls Tryd.prog 6 #[.string stem, v] w (TruePost w) := by
  have h0 : Below w.heap.size w w := Below.refl _ _
  obtain ⟨st, rfl⟩ : ∃ st : List UInt8, stem = ⟨st.toArray⟩ := ⟨stem.data.toList, rfl⟩
  have hst : st.length ≤ maxLen := by rw [← size_l]; exact hs
  have HT := Lib.hid ht
  have HR := Lib.hid hus
  obtain ⟨A, c, hv, hrd⟩ := hus.reads
  have hlen : us.length ≤ maxLen := by obtain ⟨_, _, _, h, _⟩ := hus; exact h
  subst hv
  clear ht hus hs
  unfold maxLen at hst hlen
  by_cases hl : 200 < st.length ∨ 300 < us.length
  · by_cases h1 : 200 < st.length
    rotate_left
    have h2 : 300 < us.length := by omega
    all_goals
      clear hl
      go_enter Tryd.func6, Tryd.ntmps6
      go_wp2_with (go_at_call 10; refine (works_b w _ (by assumption) HT.out).mono ?_; rintro e w1 ⟨rfl, hb1⟩)
      go_ret
      exact ⟨rfl, by assumption⟩
  · have hl1 : st.length ≤ 200 := by omega
    have hl2 : us.length ≤ 300 := by omega
    clear hl hst hlen
    obtain ⟨i0, hi0, hz0, hz1, hz2⟩ := info_parts str_info
    have Hone := Lib.hid (strCells_one us)
    have Hrd := Lib.hid hrd
    clear hrd
    obtain ⟨M, hM⟩ : ∃ M, Hid (M = Nm.may st) := ⟨_, rfl⟩
    have hmay := fun W => may_b st (by rw [size_l]; unfold maxLen; omega) M hM.out.symm W
    have HMay := Lib.hid hmay
    clear hmay
    go_enter Tryd.func6, Tryd.ntmps6
    go_wp2_with fail
    refine (works_any w HT.out).mono ?_
    rintro e w1 ⟨rfl, hb1⟩
    go_wp2_with fail
    refine (free_b st (by omega) _ us w w1 hb1 HT.out ((HR.out.below hb1).more hb1.size)).mono ?_
    rintro e w2 ⟨r, hr, rfl, _, hb2⟩
    have HFr := Lib.hid hr
    have hfacts := free_facts hr
    clear hr
    rcases hfacts with ⟨rfl, hf⟩ | ⟨hf1, hf2, hf3, hf4, hf5⟩
    · have hf' : M = false ∨ (M = true ∧ 28 < (st.length : Int)) ∨ (M = true ∧ (st.length : Int) ≤ 28 ∧ 3 < (us.length : Int)) := by
        rw [hM.out]
        cases hq : Nm.may st
        · exact .inl rfl
        · rcases hf with h | h | h
          · rw [hq] at h; cases h
          · exact .inr (.inl ⟨rfl, by omega⟩)
          · by_cases h9 : 28 < st.length
            · exact .inr (.inl ⟨rfl, by omega⟩)
            · exact .inr (.inr ⟨rfl, by omega, by omega⟩)
      clear hf
      rcases hf' with hf | ⟨hf, hf2⟩ | ⟨hf, hf2, hf3⟩
      all_goals
        go_wp2_with (go_at_call 16; refine (HMay.out _).mono ?_; rintro e w' ⟨rfl, rfl⟩)
        go_ret
        exact ⟨rfl, hb2⟩
    · have hre : r.isEmpty = false := by simpa using hf1
      have hrl : r.length ≤ 32 := Nm.may_len hf2
      have hmr := fun W => may_b r (by rw [size_l]; unfold maxLen; omega) true hf2 W
      have HMR := Lib.hid hmr
      have HR2 := Lib.hid ((HR.out.below hb2).more hb2.size)
      obtain ⟨A2, c2, hv2, _, hc2⟩ := HR2.out
      injection hv2 with e1 e2 e3
      subst e1
      have HC2 := Lib.hid hc2
      have HF3 := Lib.hid hf3
      have HF5 := Lib.hid hf5
      have HF1 := Lib.hid hf1
      clear hc2 e2 e3 hmr hf2 hf3 hf5 hf1
      go_wp2_with fail
      go_loopw [6, 7] (fun h i wr => ∃ j : Nat, j ≤ us.length ∧ i = .int .i64 j ∧ h = .bool (has (us.take j) r) ∧ Below w2.heap.size w2 wr) (fun _ i _ => us.length - (intOf i).toNat)
      case atStart => exact ⟨0, Nat.zero_le _, rfl, by simp [has], Below.refl _ _⟩
      case round =>
        obtain ⟨j, hj, rfl, rfl, hB⟩ := hrel
        by_cases hlt : j < us.length
        · obtain ⟨b2, o2, hA2, hlt2, hx2⟩ := HC2.out j hlt
          have g2 : wr.cell? ⟨b2, o2 + j, none⟩ = some (.string ⟨(us.getD j []).toArray⟩) := (hB.cell (p := ⟨b2, o2 + j, none⟩) hlt2).trans hx2
          have hsn := has_snoc us r j hlt
          have HSN := Lib.hid hsn
          clear hsn hx2
          generalize us.getD j [] = y at *
          rw [hA2]
          clear hA2
          cases hh : has (us.take j) r
          · go_wp2
            go_roundw
            case rel => exact ⟨j + 1, by omega, by go_num, by rw [HSN.out, hh]; rfl, hB⟩
            case measure => simp [intOf]; omega
          · go_wp2
            go_roundw
            case rel => exact ⟨j + 1, by omega, by go_num, by rw [HSN.out, hh]; rfl, hB⟩
            case measure => simp [intOf]; omega
        · have hj' : us.take j = us := List.take_of_length_le (by omega)
          have hbr := hb2.trans (hB.mono hb2.size)
          rw [hj', HF3.out]
          clear hj'
          have hlit := World.ownsRow_lit (base := wr.heap.size) (e := 9) (size := 1) wr #[] 0 (Nat.le_refl _) (by simp [maxLen]) rfl
          have Hlit := Lib.hid hlit
          have Hrd2 := Lib.hid (((Hrd.out.below hbr).more hbr.size).alloc (Nat.le_refl _) (.cells #[] 9))
          clear hlit
          go_wp2_with (first
            | (at_builtin
               refine wpList_append_any _ rfl (.tmp 56) (.tmp 57) _ rfl wr.heap.size 9 i0 _ 1 16 Tryd.underlying22 hi0 hz0 hz1 hz2 rfl (by omega) (.slice (some ⟨wr.heap.size, 0, none⟩) 0 0) 0 [] rfl Hlit.out wr.heap.size A us.length c (strCells us) rfl Hrd2.out Hone.out (by unfold maxLen; omega) (by omega) (by simp) ?_
               intro v4 w4 hown4 hg4 hat4
               have hb4 : Below wr.heap.size wr w4 := ((Below.refl wr.heap.size wr).alloc (Nat.le_refl _) _).grown hg4 (by simp) (fun k hk => by simp [Value.ownBlock] at hk; omega)
               have hown5 : w4.ownsRow wr.heap.size 9 1 v4 us.length (strCells us) := by simpa using hown4
               have HO5 := Lib.hid (hown5.alloc (.cells #[.string ⟨r.toArray⟩] 9))
               have hrd5 : Reads (w4.alloc (.cells #[.string ⟨r.toArray⟩] 9)) (w4.heap.size + 1) 1 (some ⟨w4.heap.size, 0, none⟩) 1 [.string ⟨r.toArray⟩] := ⟨rfl, fun _ => ⟨_, rfl, Nat.lt_succ_self _, cell_one_new _ _ _⟩⟩
               have Hrd5 := Lib.hid hrd5
               have hob : ∀ k, v4.ownBlock = some k → wr.heap.size ≤ k := fun k hk => (hown5.lt k hk).1
               have Hob := Lib.hid hob
               clear hown4 hown5 hg4 hat4 hrd5 hob
               have hsz4 := hb4.size)
            | (at_builtin
               refine wpList_append_any _ rfl (.tmp 58) (.tmp 60) _ rfl wr.heap.size 9 i0 _ 1 16 Tryd.underlying22 hi0 hz0 hz1 hz2 rfl (by omega) v4 us.length (strCells us) rfl HO5.out (w4.heap.size + 1) (some ⟨w4.heap.size, 0, none⟩) 1 1 [.string ⟨r.toArray⟩] rfl Hrd5.out (by simp [Value.oneCell']) (by unfold maxLen; omega) (by omega) (by simp; omega) ?_
               intro v6 w6 hown6 hg6 hat6)
            | fail)
          have hb6 : Below wr.heap.size wr w6 := (hb4.alloc hb4.size _).grown hg6 (by simp; omega) (fun k hk => Hob.out k hk)
          have hown7 : w6.ownsRow wr.heap.size 9 1 v6 (us ++ [r]).length (strCells (us ++ [r])) := by simpa [strCells] using hown6
          have HR7 := Lib.hid (rstrs_of_own hown7 (by simp [maxLen]; omega))
          clear hown6 hown7 hg6 hat6
          go_wp2_with fail
          refine (free_b st (by omega) v6 (us ++ [r]) w w6 (hbr.trans (hb6.mono hbr.size)) HT.out HR7.out).mono ?_
          rintro e w7 ⟨r', hr', rfl, _, hb7⟩
          have hne : (r'.toArray.toList == r.toArray.toList) = false := by
            have := free_next hr' HF1.out
            simpa using this
          have hne2 : (r' == r) = false := by simpa using hne
          clear hr' hne
          have hex : (⟨r.toArray⟩ : ByteArray).extract 0 st.length = ⟨st.toArray⟩ := by
            rw [str_take]
            show (⟨(r.take st.length).toArray⟩ : ByteArray) = _
            rw [HF5.out]
          go_wp2_with (go_at_call 16; refine (HMR.out _).mono ?_; rintro e w' ⟨rfl, rfl⟩)
          go_ret
          exact ⟨rfl, hb7⟩
end Go.Proofs.YthmkmffehbdniaaDoor

/- The contract of bonsairef04.Right. Conditions: the tree reads in what there is; bounds on sizes. -/
import Derived.Test.YtlmlbdmbgfclkaaDoorRfA
import Derived.Test.YtlmlbdmbgfclkaaDoorTrS
import Derived.Outline
namespace Go.Proofs.YtlmlbdmbgfclkaaDoor
open Go.RowKit

theorem right_count {t : Tr} (h0 : 0 ≤ t.root) (h1 : t.root < t.nodes.length) (hfit : ∀ n ∈ t.nodes, fits n.d n.kids.length = true) (hlow : Low t.nodes) :
    RightT t ↔ ∀ i : Nat, i < t.nodes.length → (kidsOf t.nodes).count (i : Int) = if (i : Int) = t.root then 0 else 1 := by
  have hlen : ∀ (j : Nat) (n : Nd), t.nodes[j]? = some n → j < t.nodes.length := fun j n hn => (List.getElem?_eq_some_iff.1 hn).1
  constructor
  · intro hr i hi
    have hp := hr.shape.perm.count_eq (i : Int)
    have hnd : (rangeI t.nodes.length).count (i : Int) = 1 := Nat.le_antisymm (List.nodup_iff_count.1 (nodup_rangeI _) _) (List.count_pos_iff.2 (mem_rangeI.2 ⟨by omega, by omega⟩))
    rw [hnd, List.count_cons] at hp
    by_cases e : (i : Int) = t.root
    · rw [if_pos e]; rw [if_pos (by rw [e]; exact beq_self_eq_true _)] at hp; omega
    · rw [if_neg e]; rw [if_neg (by simpa using fun e2 => e e2.symm)] at hp; omega
  · intro hc
    have hmem : ∀ k ∈ kidsOf t.nodes, 0 ≤ k ∧ k + 1 < t.nodes.length := fun k hk => by
      obtain ⟨i, n, hn, hk⟩ := mem_kidsOf.1 hk
      have := hlow i n hn k hk
      have := hlen i n hn
      omega
    have htop : t.root + 1 = t.nodes.length := by
      rcases Nat.eq_zero_or_pos t.nodes.length with e | e
      · omega
      · have h2 := hc (t.nodes.length - 1) (by omega)
        by_cases e2 : ((t.nodes.length - 1 : Nat) : Int) = t.root
        · omega
        · rw [if_neg e2] at h2
          have h3 : ((t.nodes.length - 1 : Nat) : Int) ∈ kidsOf t.nodes := List.count_pos_iff.1 (by omega)
          have := hmem _ h3
          omega
    have hroot : t.root ∉ kidsOf t.nodes := fun h => by
      have := hc t.root.toNat (by omega)
      rw [Int.toNat_of_nonneg h0, if_pos rfl] at this
      exact absurd (List.count_pos_iff.2 h) (by omega)
    have hnd : (kidsOf t.nodes).Nodup := List.nodup_iff_count.2 fun k => by
      by_cases hk : k ∈ kidsOf t.nodes
      · have h2 := hmem k hk
        have := hc k.toNat (by omega)
        rw [Int.toNat_of_nonneg h2.1] at this
        split at this <;> omega
      · rw [List.count_eq_zero.2 hk]; omega
    refine (rightT_iff htop h0 ⟨fun j n _ hn => hfit n (List.mem_of_getElem? hn), fun j n _ hn => hlow j n hn, by rw [List.take_length]; exact List.nodup_cons.2 ⟨hroot, hnd⟩⟩).2 fun j hj => ?_
    by_cases e : (j : Int) = t.root
    · rw [e]; simp
    · have := hc j hj
      rw [if_neg e] at this
      exact List.mem_cons_of_mem _ (List.count_pos_iff.1 (by omega))

def cnt (L : List Int) (i : Nat) : Int := ((L.count (i : Int) : Nat) : Int)
theorem cnt_set {n : Nat} {L : List Int} {k : Int} (h0 : 0 ≤ k) : (tabOf n (cnt L)).set k.toNat (.int .i64 (cnt L k.toNat + 1)) = tabOf n (cnt (L ++ [k])) :=
  tabOf_set _ fun j _ => by
    unfold cnt
    rw [List.count_append]
    by_cases e : j = k.toNat
    · subst e; rw [if_pos rfl, Int.toNat_of_nonneg h0]; simp
    · rw [if_neg e, List.count_singleton, if_neg (by simp; omega)]; simp
theorem cnt_le (L : List Int) (i : Nat) : 0 ≤ cnt L i ∧ cnt L i ≤ L.length := ⟨by unfold cnt; omega, by unfold cnt; have := List.count_le_length (a := (i : Int)) (l := L); omega⟩
theorem kidsOf_le {ns : List Nd} {K : Nat} (hks : ∀ n ∈ ns, n.kids.length ≤ K) (j : Nat) : (kidsOf (ns.take j)).length ≤ j * K := by
  induction j with
  | zero => simp [kidsOf]
  | succ j ih =>
    cases hn : ns[j]? with
    | none =>
      have : ns.take (j + 1) = ns.take j := by rw [List.take_add_one, hn]; simp
      rw [this, Nat.succ_mul]; omega
    | some n =>
      rw [kidsOf_take hn, List.length_append]
      have := hks n (List.mem_of_getElem? hn)
      rw [Nat.succ_mul]; omega

structure RRel (ns : List Nd) (root : Int) (n : Nat) (w : World) (B : Nat) (nv : Value) (te : TypeId) (j : Nat) (wr : World) : Prop where
  fit : ∀ (i : Nat) (N : Nd), i < j → ns[i]? = some N → fits N.d N.kids.length = true
  low : ∀ (i : Nat) (N : Nd), i < j → ns[i]? = some N → ∀ k ∈ N.kids, 0 ≤ k ∧ k < (i : Int)
  box : Blk wr B te #[nv, .int .i64 root]
  tab : Blk wr (B + 1) 3 (tabOf n (cnt (kidsOf (ns.take j)))).toArray
  below : Below B w wr
structure RIn (ns : List Nd) (root : Int) (n : Nat) (w : World) (B : Nat) (nv : Value) (te : TypeId) (g : Nat) (cs : Array Value) (j : Nat) (kids : List Int) (q : Nat) (wr : World) : Prop where
  low : ∀ k ∈ kids.take q, 0 ≤ k ∧ k < (j : Int)
  box : Blk wr B te #[nv, .int .i64 root]
  nbox : Blk wr g 34 cs
  tab : Blk wr (B + 1) 3 (tabOf n (cnt (kidsOf (ns.take j) ++ kids.take q))).toArray
  below : Below B w wr

open Classical in
set_option maxRecDepth 100000 in
set_option maxHeartbeats 4000000 in
theorem rright_any (t : Tr) (v : Value) (S : Nat → Prop) (w : World) (ht : RTree w S v t) (hS : ∀ b, S b → b < w.heap.size) (hsz : t.nodes.length ≤ 1000000) (hks : ∀ n ∈ t.nodes, n.kids.length ≤ 1000000) :
    Calls Tryd.prog 28 #[v] w fun e w' => e = .returned (.bool (decide (RightT t))) ∧ Below w.heap.size w w' := by
  obtain ⟨nv, rfl, hns, hr1, hr2⟩ := ht
  obtain ⟨A, c, rfl, hc, hs, hcells⟩ := hns.at_
  clear hcells
  have hmk := make_zeros t.nodes.length hsz
  by_cases hroot : 0 ≤ t.root ∧ t.root < t.nodes.length
  · obtain ⟨hr3, hr4⟩ := hroot
    obtain ⟨ns, root⟩ := t
    simp only at *
    obtain ⟨n, hm⟩ : ∃ n, ns.length = n := ⟨_, rfl⟩
    obtain ⟨A', c', hv, _, _, hcells⟩ := hns.at_
    injection hv with h1 _ h3
    subst h1
    subst h3
    obtain ⟨b, off, rfl, hbS, _⟩ := hcells (by omega)
    have hbB := hS b hbS
    clear hcells
    obtain ⟨Z, hZ⟩ : ∃ Z, Z = (tabOf ns.length fun _ => 0).toArray := ⟨_, rfl⟩
    rw [← hZ] at hmk
    have HZ := Lib.hid hZ
    have HNS := Lib.hid hns
    rw [hm] at hmk hsz hc hs HNS hr4
    have HM := Lib.hid hm
    have HR0 := Lib.hid hr3
    rw [hm]
    clear hZ hns hm
    go_enter Tryd.func28, Tryd.ntmps28
    go_wp2
    go_loopw [4] (fun i wr => ∃ j : Nat, j ≤ n ∧ i = .int .i64 j ∧ Hid (RRel ns root n w w.heap.size (.slice (some ⟨b, off, none⟩) n c) 24 j wr)) (fun i _ => n - (intOf i).toNat)
    case atStart =>
      refine ⟨0, Nat.zero_le _, rfl, Lib.hid ⟨fun i N h => by omega, fun i N h => by omega, (Blk.new w _ _).alloc _, ?_, ((Below.refl _ _).alloc (Nat.le_refl _) _).alloc (by simp) _⟩⟩
      have h1 : Z = (tabOf n (cnt (kidsOf (ns.take 0)))).toArray := by
        rw [HZ.out, HM.out]
        congr 1
      rw [← h1]
      exact Blk.new1 _ _ _ _
    case round =>
      obtain ⟨wo, rfl⟩ : ∃ wo, wo = wr := ⟨_, rfl⟩
      obtain ⟨j, hj, rfl, HR⟩ := hrel
      by_cases hlt : j < n
      · obtain ⟨N, hN⟩ : ∃ N, ns[j]? = some N := ⟨_, List.getElem?_eq_getElem (by rw [HM.out]; exact hlt)⟩
        have hns2 : RNodes wo S (.slice (some ⟨b, off, none⟩) ns.length c) ns := by
          have := HNS.out.below HR.out.below hS
          rwa [HM.out]
        obtain ⟨_, Ak, ck, hki, hdo, hck, hkc⟩ := hns2.known j N hN
        have e0 : wo.cell? ⟨w.heap.size, 0, none⟩ = some (.slice (some ⟨b, off, none⟩) n c) := HR.out.box.cell 0
        have c0 : wo.cell? ⟨b, off + j * 9, none⟩ = some (.int .u8 N.d.kind) := hkc 0 _ rfl
        have c1 : wo.cell? ⟨b, off + j * 9 + 1, none⟩ = some (.int .u64 N.d.s0) := hkc 1 _ rfl
        have c2 : wo.cell? ⟨b, off + j * 9 + 2, none⟩ = some (.int .u64 N.d.s1) := hkc 2 _ rfl
        have c3 : wo.cell? ⟨b, off + j * 9 + 3, none⟩ = some (.int .u64 N.d.s2) := hkc 3 _ rfl
        have c4 : wo.cell? ⟨b, off + j * 9 + 4, none⟩ = some (.int .u64 N.d.s3) := hkc 4 _ rfl
        have c5 : wo.cell? ⟨b, off + j * 9 + 5, none⟩ = some (.string ⟨N.d.text.toArray⟩) := hkc 5 _ rfl
        have c6 : wo.cell? ⟨b, off + j * 9 + 6, none⟩ = some (.int .i64 N.d.min) := hkc 6 _ rfl
        have c7 : wo.cell? ⟨b, off + j * 9 + 7, none⟩ = some (.int .i64 N.d.max) := hkc 7 _ rfl
        have c8 : wo.cell? ⟨b, off + j * 9 + 8, none⟩ = some (.slice Ak N.kids.length ck) := hkc 8 _ rfl
        have hF := fun (o : Obj) => rfits_any N hdo (.slice Ak N.kids.length ck) (N.kids.length : Int) (wo.alloc o)
        have hbs := HR.out.below.size
        have HN := Lib.hid hN
        have HKI := Lib.hid hki
        have hkl : N.kids.length ≤ 1000000 := hks N (List.mem_of_getElem? hN)
        simp only [nodeCells] at hF
        clear hkc hns2 hki hN
        cases hf : fits N.d (N.kids.length : Int)
        · rw [hf] at hF
          have HF := Lib.hid hF
          have HNR := Lib.hid (not_right_fit (t := ⟨ns, root⟩) HN.out hf)
          clear hF hf
          go_wp2_with (go_at_call 52; refine (HF.out _).mono ?_; rintro e w5 ⟨rfl, hb5⟩)
          go_ret
          exact ⟨ret_bool (by simp [HNR.out]), (HR.out.below.alloc HR.out.below.size _).trans (hb5.mono (by simp; omega))⟩
        · rw [hf] at hF
          have HF := Lib.hid hF
          have HFT := Lib.hid hf
          clear hF hf
          go_wp2_with (first
            | (go_at_call 52
               refine (HF.out _).mono ?_
               rintro e w5 ⟨rfl, hb5⟩)
            | fail)
          have hb50 : Below w.heap.size w w5 := (HR.out.below.alloc HR.out.below.size _).trans (hb5.mono (by simp; omega))
          obtain ⟨cs, hcs⟩ : ∃ cs : Array Value, cs = #[.int .u8 N.d.kind, .int .u64 N.d.s0, .int .u64 N.d.s1, .int .u64 N.d.s2, .int .u64 N.d.s3, .string ⟨N.d.text.toArray⟩, .int .i64 N.d.min, .int .i64 N.d.max, .slice Ak N.kids.length ck] := ⟨_, rfl⟩
          rw [← hcs] at hb5
          have HCS := Lib.hid hcs
          clear hcs c0 c1 c2 c3 c4 c5 c6 c7 c8 e0
          go_loopw [6] (fun i wr => ∃ q : Nat, q ≤ N.kids.length ∧ i = .int .i64 q ∧ Hid (RIn ns root n w w.heap.size (.slice (some ⟨b, off, none⟩) n c) 24 wo.heap.size cs j N.kids q wr) ∧ Hid (RInts wr S (.slice Ak N.kids.length ck) N.kids)) (fun i _ => N.kids.length - (intOf i).toNat)
          case atStart =>
            refine ⟨0, Nat.zero_le _, rfl, Lib.hid ⟨by simp, ?_, ?_, ?_, hb50⟩, Lib.hid ?_⟩
            · exact (HR.out.box.alloc _).below hb5 (by have := HR.out.box.lt; simp; omega)
            · exact (Blk.new _ _ _).below hb5 (by simp)
            · simpa using (HR.out.tab.alloc _).below hb5 (by have := HR.out.tab.lt; simp; omega)
            · exact (HKI.out.keep fun p hp => World.cell?_alloc_lt _ _ _ (by have := hS _ hp; omega)).below hb5 (fun b hb => by have := hS _ hb; simp; omega)
          case round =>
            obtain ⟨q, hq, rfl, HI, HK⟩ := hrel
            have hx8 : cs[8]? = some (.slice Ak N.kids.length ck) := by rw [HCS.out]; rfl
            have d8 : wr.cell? ⟨wo.heap.size, 8, none⟩ = some (.slice Ak N.kids.length ck) := (HI.out.nbox.cell 8).trans hx8
            clear hx8
            by_cases hql : q < N.kids.length
            · obtain ⟨k, hkq⟩ : ∃ k, N.kids[q]? = some k := ⟨_, List.getElem?_eq_getElem hql⟩
              obtain ⟨bk, ok, rfl, hbk, hkc⟩ := HK.out.get q k hkq
              have hkm : k ∈ N.kids := List.mem_of_getElem? hkq
              by_cases hkr : 0 ≤ k ∧ k < (j : Int)
              · obtain ⟨hk0, hk1⟩ := hkr
                obtain ⟨x, hx⟩ : ∃ x, x = cnt (kidsOf (ns.take j) ++ N.kids.take q) k.toNat := ⟨_, rfl⟩
                have hck : wr.cell? ⟨w.heap.size + 1, k.toNat, none⟩ = some (.int .i64 x) := by
                  rw [HI.out.tab.cell, List.getElem?_toArray, tabOf_at (by omega), hx]
                have hfk := HI.out.tab.frozen k.toNat
                have hkM : k < (n : Int) := by omega
                have hxl : 0 ≤ x ∧ x ≤ 1000001000000 := by
                  have h1 := cnt_le (kidsOf (ns.take j) ++ N.kids.take q) k.toNat
                  have h2 := kidsOf_le hks j
                  have h3 : j * 1000000 ≤ 1000000 * 1000000 := Nat.mul_le_mul_right _ (by omega)
                  rw [List.length_append, List.length_take] at h1
                  rw [hx]; omega
                obtain ⟨hx0, hx1⟩ := hxl
                have HX := Lib.hid hx
                have HKQ := Lib.hid hkq
                have HKM := Lib.hid hkm
                clear hkq hkm hx
                go_wp2
                go_roundw
                case measure => simp [intOf]; omega
                case rel =>
                  have et : N.kids.take (q + 1) = N.kids.take q ++ [k] := by rw [List.take_add_one, HKQ.out]; rfl
                  refine ⟨q + 1, by omega, by go_num, Lib.hid ⟨fun z hz => ?_, ?_, ?_, ?_, ?_⟩, Lib.hid (HK.out.keep fun p hp => World.cell?_setCell_other _ _ _ _ (fun e => by have := hS _ hp; rw [← e] at this; simp at this; omega))⟩
                  · rw [et] at hz
                    rcases List.mem_append.1 hz with hz | hz
                    · exact HI.out.low z hz
                    · simp at hz; subst hz; exact ⟨hk0, hk1⟩
                  · exact HI.out.box.far (by simp) _
                  · exact HI.out.nbox.far (by have := HR.out.tab.lt; simp; omega) _
                  · have h1 := HI.out.tab.set_ k.toNat (.int .i64 (x + 1))
                    rw [List.setIfInBounds_toArray, HX.out, cnt_set hk0] at h1
                    rw [et, ← List.append_assoc]
                    rw [HX.out]
                    exact h1
                  · exact HI.out.below.setCell (by simp) _
              · have HNR := Lib.hid (not_right_low (t := ⟨ns, root⟩) HN.out hkm hkr)
                clear hkq hkm
                rcases Int.lt_or_le k 0 with hk0 | hk0
                · go_wp2
                  go_ret
                  exact ⟨ret_bool (by simp [HNR.out]), HI.out.below⟩
                · have hk1 : (j : Int) ≤ k := by omega
                  clear hkr
                  go_wp2
                  go_ret
                  exact ⟨ret_bool (by simp [HNR.out]), HI.out.below⟩
            · have hqe : q = N.kids.length := by omega
              subst hqe
              have hI := HI.out
              have htl : N.kids.take N.kids.length = N.kids := List.take_length
              go_wp2
              go_roundw
              case measure => simp [intOf]; omega
              case rel =>
                refine ⟨j + 1, by omega, by go_num, Lib.hid ⟨fun i M hi hM => ?_, fun i M hi hM => ?_, hI.box, ?_, hI.below⟩⟩
                · rcases Nat.lt_succ_iff_lt_or_eq.1 hi with h1 | rfl
                  · exact HR.out.fit i M h1 hM
                  · rw [HN.out] at hM; injection hM with hM; subst hM; exact HFT.out
                · rcases Nat.lt_succ_iff_lt_or_eq.1 hi with h1 | rfl
                  · exact HR.out.low i M h1 hM
                  · rw [HN.out] at hM; injection hM with hM; subst hM
                    have := hI.low; rwa [htl] at this
                · have := hI.tab
                  rw [htl] at this
                  rw [kidsOf_take HN.out]
                  exact this
      · have hje : j = n := by omega
        subst hje
        have hiff := right_count (t := ⟨ns, root⟩) HR0.out (by simp only; rw [HM.out]; exact hr4) (fun N hN => by
          obtain ⟨i, hi⟩ := List.getElem?_of_mem hN
          exact HR.out.fit i N (by rw [← HM.out]; exact (List.getElem?_eq_some_iff.1 hi).1) hi) (fun i N hN => HR.out.low i N (by rw [← HM.out]; exact (List.getElem?_eq_some_iff.1 hN).1) hN)
        simp only [HM.out] at hiff
        have htk : ns.take j = ns := List.take_of_length_le (by rw [HM.out]; exact Nat.le_refl _)
        have htab := HR.out.tab
        rw [htk] at htab
        have HTAB := Lib.hid htab
        have HIFF := Lib.hid hiff
        have hbs := HR.out.below.size
        clear hiff htk htab
        have e0 : wo.cell? ⟨w.heap.size, 0, none⟩ = some (.slice (some ⟨b, off, none⟩) j c) := HR.out.box.cell 0
        go_wp2
        go_loopw [7] (fun i wr => ∃ q : Nat, q ≤ j ∧ i = .int .i64 q ∧ (∀ i : Nat, i < q → (kidsOf ns).count (i : Int) = if (i : Int) = root then 0 else 1) ∧ wr = wo) (fun i _ => j - (intOf i).toNat)
        case atStart => exact ⟨0, Nat.zero_le _, rfl, fun i h => by omega, rfl⟩
        case round =>
          obtain ⟨q, hq, rfl, hall, rfl⟩ := hrel
          by_cases hql : q < j
          · have e1 : wr.cell? ⟨w.heap.size, 1, none⟩ = some (.int .i64 root) := HR.out.box.cell 1
            have e2 : wr.cell? ⟨w.heap.size + 1, q, none⟩ = some (.int .i64 (cnt (kidsOf ns) q)) := by
              rw [HTAB.out.cell, List.getElem?_toArray, tabOf_at hql]
            have hnext : (kidsOf ns).count (q : Int) = (if (q : Int) = root then 0 else 1) → ∀ i : Nat, i < q + 1 → (kidsOf ns).count (i : Int) = if (i : Int) = root then 0 else 1 := fun h i hi => by
              rcases Nat.lt_succ_iff_lt_or_eq.1 hi with h1 | rfl
              · exact hall i h1
              · exact h
            have hbad : (kidsOf ns).count (q : Int) ≠ (if (q : Int) = root then 0 else 1) → ¬ RightT ⟨ns, root⟩ := fun h hr => h (HIFF.out.1 hr q hql)
            have HNEXT := Lib.hid hnext
            have HBAD := Lib.hid hbad
            obtain ⟨x, hx⟩ : ∃ x : Nat, x = (kidsOf ns).count (q : Int) := ⟨_, rfl⟩
            have hxc : cnt (kidsOf ns) q = (x : Int) := by rw [hx]; rfl
            rw [hxc] at e2
            rw [← hx] at HNEXT HBAD
            clear hnext hbad hx hxc hall
            by_cases hqr : (q : Int) = root
            · rw [if_pos hqr] at HNEXT HBAD
              have b1 : ((q : Int) == root) = true := beq_iff_eq.2 hqr
              have b2 : ((q : Int) != root) = false := by simp [bne, b1]
              have HQR := Lib.hid hqr
              clear hqr
              by_cases hx0 : (x : Int) = 0
              · have b3 : ((x : Int) != 0) = false := by simp [hx0]
                have b4 : (x : Int) ≠ 0 ↔ False := by simp [hx0]
                go_wp2
                go_roundw
                case measure => simp [intOf]; omega
                case rel => exact ⟨q + 1, by omega, by go_num, HNEXT.out (by omega), trivial⟩
              · have b3 : ((x : Int) != 0) = true := by simp; omega
                have HNR := Lib.hid (HBAD.out (by omega))
                go_wp2
                go_ret
                exact ⟨ret_bool (by simp [HNR.out]), HR.out.below⟩
            · rw [if_neg hqr] at HNEXT HBAD
              have b1 : ((q : Int) == root) = false := beq_eq_false_iff_ne.2 hqr
              have b2 : ((q : Int) != root) = true := by simp [bne, b1]
              clear hqr
              by_cases hx0 : (x : Int) = 1
              · have b3 : ((x : Int) != 1) = false := by simp [hx0]
                go_wp2
                go_roundw
                case measure => simp [intOf]; omega
                case rel => exact ⟨q + 1, by omega, by go_num, HNEXT.out (by omega), trivial⟩
              · have b3 : ((x : Int) != 1) = true := by simp; omega
                have HNR := Lib.hid (HBAD.out (by omega))
                go_wp2
                go_ret
                exact ⟨ret_bool (by simp [HNR.out]), HR.out.below⟩
          · have hqe : q = j := by omega
            subst hqe
            have HYES := Lib.hid (HIFF.out.2 hall)
            clear hall
            go_wp2
            go_ret
            exact ⟨ret_bool (by simp [HYES.out]), HR.out.below⟩
  · have hno : ¬ RightT t := fun hr => hroot ⟨hr.shape.pos, by have := hr.shape.top; omega⟩
    have HNO := Lib.hid hno
    clear hno
    rcases Int.lt_or_le t.root 0 with h0 | h0
    · go_enter Tryd.func28, Tryd.ntmps28
      go_wp2
      go_ret
      exact ⟨ret_bool (by simp [HNO.out]), (Below.refl _ _).alloc (Nat.le_refl _) _⟩
    · have h1 : (t.nodes.length : Int) ≤ t.root := by omega
      clear hroot
      go_enter Tryd.func28, Tryd.ntmps28
      go_wp2
      go_ret
      exact ⟨ret_bool (by simp [HNO.out]), (Below.refl _ _).alloc (Nat.le_refl _) _⟩
end Go.Proofs.YtlmlbdmbgfclkaaDoor

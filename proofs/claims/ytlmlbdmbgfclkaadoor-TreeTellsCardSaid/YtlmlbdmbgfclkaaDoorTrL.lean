/- The contract of the guard 'long': whatever trees; where it answers false, they are few and small. -/
import Derived.Test.YtlmlbdmbgfclkaaDoorTrE
import Derived.BigQuiet
import Derived.Deep.QuietTactic
namespace Go.Proofs.YtlmlbdmbgfclkaaDoor
open Go.RowKit

def nodesSum (ts : List Tr) : Nat := (ts.map (·.nodes.length)).sum
theorem nodesSum_snoc (ts : List Tr) (j : Nat) (t : Tr) (h : ts[j]? = some t) : nodesSum (ts.take (j + 1)) = nodesSum (ts.take j) + t.nodes.length := by
  unfold nodesSum
  rw [List.take_add_one, h]
  simp
/-- What is known where the guard answers false. -/
structure Short (ts : List Tr) : Prop where
  few : ts.length ≤ 4000
  sum : nodesSum ts ≤ 4000
  kids : ∀ t ∈ ts, ∀ n ∈ t.nodes, n.kids.length ≤ 4000
structure LongRel (ts : List Tr) (i : Nat) (n : Nat) : Prop where
  le : n ≤ 8300
  cnt : n < 4000 → i + nodesSum (ts.take i) ≤ n
  kids : n < 4000 → ∀ t ∈ ts.take i, ∀ x ∈ t.nodes, x.kids.length ≤ 4000
structure LongIn (ts : List Tr) (t : Tr) (i k : Nat) (n : Nat) : Prop where
  le : n ≤ 8300
  cnt : n < 4000 → i + 1 + nodesSum (ts.take i) + k ≤ n
  kids : n < 4000 → ∀ t ∈ ts.take i, ∀ x ∈ t.nodes, x.kids.length ≤ 4000
  now : n < 4000 → ∀ x ∈ t.nodes.take k, x.kids.length ≤ 4000

def LongSaid (ts : List Tr) (w : World) (e : Ending) (w' : World) : Prop := ∃ r : Bool, e = .returned (.bool r) ∧ (r = false → Short ts) ∧ Below w.heap.size w w'
set_option maxHeartbeats 2000000 in
theorem long_g {ts : List Tr} {v : Value} {S : Nat → Prop} {w : World} (h : RTrees w S v ts) (hS : ∀ b, S b → b < w.heap.size) :
    Calls Tryd.prog 9 #[v] w (LongSaid ts w) := by
  obtain ⟨A, c, rfl, _, hs, hr⟩ := h.at_
  have HG := Lib.hid h
  unfold maxLen at hs
  clear h hr
  go_enter Tryd.func9, Tryd.ntmps9
  go_wp2
  go_loopw [3, 4] (fun nv i wr => ∃ j n : Nat, j ≤ ts.length ∧ i = .int .i64 j ∧ nv = .int .i64 n ∧ n ≤ 8300 ∧ Hid (LongRel ts j n) ∧ Hid (Below w.heap.size w wr)) (fun _ i _ => ts.length - (intOf i).toNat)
  case atStart => exact ⟨0, 0, Nat.zero_le _, rfl, rfl, by omega, Lib.hid ⟨by omega, fun _ => by simp [nodesSum], fun _ => by simp⟩, Lib.hid (Below.refl _ _)⟩
  case round =>
    obtain ⟨wo, rfl⟩ : ∃ wo, wo = wr := ⟨_, rfl⟩
    obtain ⟨j, n, hj, rfl, rfl, hnl, HR, HW⟩ := hrel
    by_cases hlt : j < ts.length
    · by_cases hn4 : n < 4000
      · obtain ⟨t, ht⟩ : ∃ t, ts[j]? = some t := ⟨_, List.getElem?_eq_getElem hlt⟩
        have hat := (HG.out.below HW.out hS).at_
        obtain ⟨A2, c2, hv2, _, _, hr2⟩ := hat
        injection hv2 with g1 g2 g3
        subst g1
        subst g3
        clear g2
        obtain ⟨b, off, rfl, hbS, hc⟩ := hr2 (by omega)
        obtain ⟨nv, hnn, _, d0, d1⟩ := hc j t ht
        obtain ⟨An, cn, rfl, _, hns, _⟩ := hnn.at_
        unfold maxLen at hns
        have HT := Lib.hid ht
        have hn4' : (n : Int) < 4000 := by omega
        have hnn2 := RNodes.keep hnn (fun p hp => HW.out.cell (hS _ hp) |>.symm)
        have HNN := Lib.hid hnn2
        have hdw : w.cell? ⟨b, off + j * 2, none⟩ = some (.slice An t.nodes.length cn) := (HW.out.cell (p := ⟨b, off + j * 2, none⟩) (hS b hbS)).symm.trans d0
        have HDW := Lib.hid hdw
        clear hc hr2 ht hnn hnn2 d1 hdw
        go_wp2
        go_loopw [3, 5] (fun nv i wr => ∃ k m : Nat, k ≤ t.nodes.length ∧ i = .int .i64 k ∧ nv = .int .i64 m ∧ m ≤ 8300 ∧ Hid (LongIn ts t j k m) ∧ Hid (Below w.heap.size w wr)) (fun _ i _ => t.nodes.length - (intOf i).toNat)
        case atStart => exact ⟨0, n + 1, Nat.zero_le _, rfl, by go_num, by omega, Lib.hid ⟨by omega, fun h => by have := HR.out.cnt (by omega); omega, fun h => HR.out.kids (by omega), by simp⟩, HW⟩
        case round =>
          obtain ⟨k, m, hk, rfl, rfl, hml, HI, HW2⟩ := hrel
          have d2 : wr.cell? ⟨b, off + j * 2, none⟩ = some (.slice An t.nodes.length cn) := (HW2.out.cell (p := ⟨b, off + j * 2, none⟩) (hS b hbS)).trans HDW.out
          by_cases hkl : k < t.nodes.length
          · by_cases hm4 : m < 4000
            · obtain ⟨x, hx⟩ : ∃ x, t.nodes[k]? = some x := ⟨_, List.getElem?_eq_getElem hkl⟩
              obtain ⟨bn, on, Ak, ck, rfl, hbnS, hki, hdo, _, _, _, _, _, c5, _, _, c8⟩ := (HNN.out.below HW2.out hS).get k x hx
              have hkil : x.kids.length ≤ maxLen := hki.small
              have htx := hdo.text
              unfold maxLen at hkil htx
              have hts : (⟨x.d.text.toArray⟩ : ByteArray).size = x.d.text.length := size_mk _
              have HX := Lib.hid hx
              clear hx hki hdo
              obtain ⟨kl, hkl2⟩ : ∃ kl, kl = x.kids.length := ⟨_, rfl⟩
              obtain ⟨tx, htx2⟩ : ∃ tx : ByteArray, tx = ⟨x.d.text.toArray⟩ := ⟨_, rfl⟩
              rw [← hkl2] at c8 hkil
              rw [← htx2] at c5 hts
              have htz : tx.size ≤ 9223372036854775807 := by omega
              have hj0 : (0 : Int) ≤ (j : Int) := by omega
              have hj1 : (j : Int) < (ts.length : Int) := by omega
              have hk0 : (0 : Int) ≤ (k : Int) := by omega
              have hk1 : (k : Int) < (t.nodes.length : Int) := by omega
              have hm4' : (m : Int) < 4000 := by omega
              have HKL := Lib.hid hkl2
              clear hkl2 htx2 htx hts
              go_wp2
              go_region
              go_wp2
              go_roundw
              case rel => exact ⟨k + 1, m + 1 + min 4000 kl + min 4000 tx.size / 20, by omega, by go_num, by go_num, by omega, Lib.hid ⟨by omega, fun h => by have := HI.out.cnt (by omega); omega, fun h => HI.out.kids (by omega), fun h y hy => by
                rw [List.take_add_one, HX.out] at hy
                rcases List.mem_append.1 hy with hy | hy
                · exact HI.out.now (by omega) y hy
                · simp at hy; subst hy; have := HKL.out; omega⟩, Lib.hid (below_drewN HW2.out 1)⟩
              case measure => simp [intOf]; omega
            · have hm4' : ¬ (m : Int) < 4000 := by omega
              go_wp2
              go_roundw
              case rel => exact ⟨j + 1, m, by omega, by go_num, rfl, hml, Lib.hid ⟨hml, fun h => by omega, fun h => by omega⟩, HW2⟩
              case measure => simp [intOf]; omega
          · go_wp2
            go_roundw
            case rel =>
              have hkl' : k = t.nodes.length := by omega
              subst hkl'
              exact ⟨j + 1, m, by omega, by go_num, rfl, hml, Lib.hid ⟨hml, fun h => by
                have := HI.out.cnt h
                rw [nodesSum_snoc ts j t HT.out]; omega, fun h y hy x hx => by
                rw [List.take_add_one, HT.out] at hy
                rcases List.mem_append.1 hy with hy | hy
                · exact HI.out.kids h y hy x hx
                · simp at hy; subst hy
                  exact HI.out.now h x (by simpa using hx)⟩, HW2⟩
            case measure => simp [intOf]; omega
      · have hn4' : ¬ (n : Int) < 4000 := by omega
        go_wp2
        go_ret
        exact (show LongSaid ts w (.returned (.bool true)) wo from ⟨_, rfl, fun h => by simp at h, HW.out⟩)
    · have hje : j = ts.length := by omega
      subst hje
      go_wp2
      go_ret
      refine (show LongSaid ts w (.returned (.bool (decide (4000 ≤ (n : Int))))) wo from ⟨_, rfl, fun h => ?_, HW.out⟩)
      have hn : n < 4000 := by simp at h; omega
      have h1 := HR.out.cnt hn
      have h2 := HR.out.kids hn
      rw [List.take_length] at h1 h2
      exact ⟨by omega, by omega, fun t ht n hn => h2 t ht n hn⟩
end Go.Proofs.YtlmlbdmbgfclkaaDoor

/- Arguments that are trees, rows of trees, and nodes: read as data, they stand for trees. -/
import Derived.Test.YtlmlbdmbgfclkaaDoorTrK
import Derived.Deep.Slices
import Derived.Deep.Fields
import Derived.ChangeSame
namespace Go.Proofs.YtlmlbdmbgfclkaaDoor
set_option linter.unusedSimpArgs false
open Go.ChangeShapes Go.WideShapes Go.ChangeAt Go.RowKit Go.ChangeMaps Go.WideElems Go.Deep

theorem exists_list {α : Type} {P : Nat → α → Prop} (n : Nat) (h : ∀ i, i < n → ∃ a, P i a) : ∃ l : List α, l.length = n ∧ ∀ i a, l[i]? = some a → P i a := by
  induction n with
  | zero => exact ⟨[], rfl, fun i a h => by simp at h⟩
  | succ n ih =>
    obtain ⟨l, hl, hp⟩ := ih fun i hi => h i (by omega)
    obtain ⟨a, ha⟩ := h n (by omega)
    refine ⟨l ++ [a], by simp [hl], fun i b hb => ?_⟩
    rcases Nat.lt_or_ge i l.length with hi | hi
    · rw [List.getElem?_append_left hi] at hb; exact hp i b hb
    · rw [List.getElem?_append_right hi] at hb
      rcases Nat.eq_zero_or_pos (i - l.length) with h0 | h0
      · rw [h0] at hb; simp at hb; subst hb
        obtain rfl : i = n := by omega
        exact ha
      · rw [List.getElem?_eq_none (by simp; omega)] at hb; cases hb
theorem cellsNode : Tryd.prog.cellsOf 34 = 9 := by kernel_rfl
theorem cellsTree : Tryd.prog.cellsOf 24 = 2 := by kernel_rfl
theorem cellsInt : Tryd.prog.cellsOf 3 = 1 := by kernel_rfl
theorem cellsU8 : Tryd.prog.cellsOf 5 = 1 := by kernel_rfl
theorem cellsU64 : Tryd.prog.cellsOf 30 = 1 := by kernel_rfl
theorem cellsSet : Tryd.prog.cellsOf 32 = 4 := by kernel_rfl
theorem cellsStr : Tryd.prog.cellsOf 9 = 1 := by kernel_rfl
theorem cellsInts : Tryd.prog.cellsOf 27 = 1 := by kernel_rfl
theorem cellsNodes : Tryd.prog.cellsOf 22 = 1 := by kernel_rfl
theorem wf_i64 {n : Int} (h : (Lit.int .i64 n).wf = true) : -9223372036854775808 ≤ n ∧ n ≤ 9223372036854775807 := by
  simp [Lit.wf, IntKind.min, IntKind.max, IntKind.signed, IntKind.bits] at h
  omega
theorem wf_u8 {n : Int} (h : (Lit.int .u8 n).wf = true) : 0 ≤ n ∧ n ≤ 255 := by
  simp [Lit.wf, IntKind.min, IntKind.max, IntKind.signed, IntKind.bits] at h
  omega
theorem wf_u64 {n : Int} (h : (Lit.int .u64 n).wf = true) : 0 ≤ n ∧ n < 18446744073709551616 := by
  simp [Lit.wf, IntKind.min, IntKind.max, IntKind.signed, IntKind.bits] at h
  omega
theorem add_plain (b off n : Nat) : (⟨b, off, none⟩ : Addr).add n = ⟨b, off + n, none⟩ := by
  unfold Addr.add
  split <;> simp_all

section
variable {H : Type} {enc : TypeId × Value → H} {W : World} {n : Nat} {cs : List Value} {x : DataW H × List MemPlace}
/-- The cells of a row that is read, and that its addresses are plain. -/
theorem cells_at {a : Addr} {k : Nat} {cs' : List Value} (h : W.cells? 0 a k = some cs') : cs'.length = k ∧ ∀ j u, cs'[j]? = some u → W.cell? (a.add j) = some u := by
  obtain ⟨_, hl, hc⟩ := World.cells?_some h
  refine ⟨hl, fun j u hu => ?_⟩
  have hj : j < k := by have := (List.getElem?_eq_some_iff.1 hu).1; omega
  rw [hc j hj, hu]
theorem open_ints' (h : DataW.trod enc Tryd.prog W 0 (fun _ => true) true n 27 cs = some x) : ∃ kv ks, cs = [kv] ∧ RInts W (fun b => b < W.heap.size) kv ks := by
  rcases open_slice Tryd.underlying27 h with ⟨rfl, _⟩ | ⟨a, len, cap, m, k, D, Pl, rfl, _, hl, hm, hmm, _, hi⟩
  · exact ⟨_, [], rfl, Row.nil_ _ _ _⟩
  · simp only [if_true] at hmm
    subst hmm
    have hz : ∀ i, i < len → ∃ z : Int, W.cell? (a.add i) = some (.int .i64 z) := fun i hil => by
      obtain ⟨cs', hc, ht⟩ := hi i (by omega)
      rw [cellsInt] at hc
      obtain ⟨h1, h2⟩ := cells_at hc
      obtain ⟨z, rfl, _⟩ := DataW.trod_int Tryd.underlying3 ht
      have := h2 0 _ rfl
      rw [add_add] at this
      exact ⟨z, by simpa using this⟩
    obtain ⟨zs, hzl, hzz⟩ := exists_list len hz
    refine ⟨_, zs, rfl, ?_⟩
    rw [← hzl] at hl ⊢
    refine ⟨by simp, by omega, some a, _, rfl, hl, fun hp => ?_⟩
    obtain ⟨z0, h0⟩ : ∃ z0, zs[0]? = some z0 := ⟨_, List.getElem?_eq_getElem hp⟩
    have hc0 := hzz 0 z0 h0
    obtain ⟨b, off, ea⟩ := addr_plain hc0
    have hb : a.block = b := by rw [← block_of_add a 0, ea]
    obtain ⟨b', off', rfl⟩ : ∃ b' off', a = ⟨b', off', none⟩ := by
      obtain ⟨b', off', sp⟩ := a
      cases sp with
      | none => exact ⟨b', off', rfl⟩
      | some k => simp [Addr.add] at ea
    refine ⟨b', off', rfl, ?_, fun j u hu => ?_⟩
    · have := cell_lt hc0; rwa [block_of_add] at this
    · rw [← add_plain]
      rw [List.getElem?_map] at hu
      cases hj : zs[j]? with
      | none => rw [hj] at hu; cases hu
      | some z => rw [hj] at hu; injection hu with hu; subst hu; exact hzz j z hj
theorem open_node' (h : DataW.trod enc Tryd.prog W 0 (fun _ => true) true n 34 cs = some x) : ∃ (N : Nd) (kv : Value), cs = nodeCells N kv ∧ RInts W (fun b => b < W.heap.size) kv N.kids ∧ N.d.Ok := by
  obtain ⟨xs, m, _, _, hl, hlen, hf⟩ := DataW.trod_struct Tryd.underlying34 h
  rw [cellsNode] at hl
  have hx : ∀ i, i < 6 → ∃ y, xs[i]? = some y := fun i hi => ⟨_, List.getElem?_eq_getElem (by rw [hlen]; exact hi)⟩
  match cs, hl with
  | [c0, c1, c2, c3, c4, c5, c6, c7, c8], _ =>
    obtain ⟨y0, e0⟩ := hx 0 (by omega)
    obtain ⟨y1, e1⟩ := hx 1 (by omega)
    obtain ⟨y2, e2⟩ := hx 2 (by omega)
    obtain ⟨y3, e3⟩ := hx 3 (by omega)
    obtain ⟨y4, e4⟩ := hx 4 (by omega)
    obtain ⟨y5, e5⟩ := hx 5 (by omega)
    have h0 : DataW.trod enc Tryd.prog W 0 (fun _ => true) true m 5 (([c0, c1, c2, c3, c4, c5, c6, c7, c8].drop 0).take (Tryd.prog.cellsOf 5)) = xs[0]? := hf 0 _ rfl
    have h1 : DataW.trod enc Tryd.prog W 0 (fun _ => true) true m 32 (([c0, c1, c2, c3, c4, c5, c6, c7, c8].drop 1).take (Tryd.prog.cellsOf 32)) = xs[1]? := hf 1 _ rfl
    have h2 : DataW.trod enc Tryd.prog W 0 (fun _ => true) true m 9 (([c0, c1, c2, c3, c4, c5, c6, c7, c8].drop 5).take (Tryd.prog.cellsOf 9)) = xs[2]? := hf 2 _ rfl
    have h3 : DataW.trod enc Tryd.prog W 0 (fun _ => true) true m 3 (([c0, c1, c2, c3, c4, c5, c6, c7, c8].drop 6).take (Tryd.prog.cellsOf 3)) = xs[3]? := hf 3 _ rfl
    have h4 : DataW.trod enc Tryd.prog W 0 (fun _ => true) true m 3 (([c0, c1, c2, c3, c4, c5, c6, c7, c8].drop 7).take (Tryd.prog.cellsOf 3)) = xs[4]? := hf 4 _ rfl
    have h5 : DataW.trod enc Tryd.prog W 0 (fun _ => true) true m 27 (([c0, c1, c2, c3, c4, c5, c6, c7, c8].drop 8).take (Tryd.prog.cellsOf 27)) = xs[5]? := hf 5 _ rfl
    simp only [cellsU8, cellsSet, cellsStr, cellsInt, cellsInts, e0, e1, e2, e3, e4, e5, List.drop_zero, List.take_succ_cons, List.take_zero, List.drop_succ_cons] at h0 h1 h2 h3 h4 h5
    obtain ⟨z0, g0, _, b0⟩ := DataW.trod_int Tryd.underlying5 h0
    obtain ⟨s2, g2, _, b2⟩ := DataW.trod_string Tryd.underlying9 h2
    obtain ⟨z3, g3, _, b3⟩ := DataW.trod_int Tryd.underlying3 h3
    obtain ⟨z4, g4, _, b4⟩ := DataW.trod_int Tryd.underlying3 h4
    obtain ⟨kv, ks, g5, hk⟩ := open_ints' h5
    obtain ⟨ys, m', _, _, _, hyl, hy⟩ := DataW.trod_array und_set h1
    have hx2 : ∀ i, i < 4 → ∃ y, ys[i]? = some y := fun i hi => ⟨_, List.getElem?_eq_getElem (by rw [hyl]; exact hi)⟩
    obtain ⟨q0, f0⟩ := hx2 0 (by omega)
    obtain ⟨q1, f1⟩ := hx2 1 (by omega)
    obtain ⟨q2, f2⟩ := hx2 2 (by omega)
    obtain ⟨q3, f3⟩ := hx2 3 (by omega)
    have u0 := hy 0 (by omega)
    have u1 := hy 1 (by omega)
    have u2 := hy 2 (by omega)
    have u3 := hy 3 (by omega)
    simp only [cellsU64, f0, f1, f2, f3, Nat.zero_mul, Nat.one_mul, List.drop_zero, List.take_succ_cons, List.take_zero, List.drop_succ_cons, Nat.mul_one] at u0 u1 u2 u3
    obtain ⟨w0, j0, _, v0⟩ := DataW.trod_int Tryd.underlying30 u0
    obtain ⟨w1, j1, _, v1⟩ := DataW.trod_int Tryd.underlying30 u1
    obtain ⟨w2, j2, _, v2⟩ := DataW.trod_int Tryd.underlying30 u2
    obtain ⟨w3, j3, _, v3⟩ := DataW.trod_int Tryd.underlying30 u3
    simp only [List.cons.injEq, and_true] at g0 g2 g3 g4 g5 j0 j1 j2 j3
    subst g0 g2 g3 g4 g5 j0 j1 j2 j3
    refine ⟨⟨⟨z0, w0, w1, w2, w3, s2.data.toList, z3, z4⟩, ks⟩, _, rfl, hk, ⟨wf_u8 b0, ⟨wf_u64 v0, wf_u64 v1, wf_u64 v2, wf_u64 v3⟩, ?_, wf_i64 b3, wf_i64 b4⟩⟩
    show s2.data.toList.length ≤ maxLen
    rw [Array.length_toList]; exact b2
theorem open_nodes' (h : DataW.trod enc Tryd.prog W 0 (fun _ => true) true n 22 cs = some x) : ∃ nv ns, cs = [nv] ∧ RNodes W (fun b => b < W.heap.size) nv ns := by
  rcases open_slice Tryd.underlying22 h with ⟨rfl, _⟩ | ⟨a, len, cap, m, k, D, Pl, rfl, _, hl, hm, hmm, _, hi⟩
  · exact ⟨_, [], rfl, [], rfl, Row.nil_ _ _ _, fun j n kv h => by simp at h⟩
  · simp only [if_true] at hmm
    subst hmm
    have hz : ∀ i, i < len → ∃ z : Nd × Value, RInts W (fun b => b < W.heap.size) z.2 z.1.kids ∧ z.1.d.Ok ∧ ∀ j u, (nodeCells z.1 z.2)[j]? = some u → W.cell? (a.add (i * 9 + j)) = some u := fun i hil => by
      obtain ⟨cs', hc, ht⟩ := hi i (by omega)
      rw [cellsNode] at hc
      obtain ⟨h1, h2⟩ := cells_at hc
      obtain ⟨N, kv, rfl, hk, hd⟩ := open_node' ht
      exact ⟨(N, kv), hk, hd, fun j u hu => by rw [← add_add]; exact h2 j u hu⟩
    obtain ⟨zs, hzl, hzz⟩ := exists_list len hz
    have hl1 : (zs.map (·.1)).length = len := by simp [hzl]
    refine ⟨_, zs.map (·.1), rfl, zs.map (·.2), by simp, ?_, fun j N kv h1 h2 => ?_⟩
    · rw [← hl1] at hl ⊢
      have hcell : ∀ (j i : Nat) z, zs[j]? = some z → i < 9 → ∀ u, (nodesCells (zs.map (·.1)) (zs.map (·.2)))[j * 9 + i]? = some u → W.cell? (a.add (j * 9 + i)) = some u := fun j i z hj hi9 u hu => by
        rw [nodesCells, zip_cells nodeCells 9 (fun _ _ => rfl) _ _ j z.1 z.2 (by simp [hj]) (by simp [hj]) i hi9] at hu
        exact (hzz j z hj).2.2 i u hu
      have hlen9 : (nodesCells (zs.map (·.1)) (zs.map (·.2))).length = (zs.map (·.1)).length * 9 := by
        clear hzz hcell hl1 hl hm hzl hz hi
        unfold nodesCells
        induction zs with
        | nil => simp
        | cons z zs ih => simp only [List.map_cons, List.zipWith_cons_cons, List.flatten_cons, List.length_append, List.length_cons, ih, show (nodeCells z.1 z.2).length = 9 from rfl]; omega
      refine ⟨hlen9, by omega, some a, _, rfl, hl, fun hp => ?_⟩
      have hp' : 0 < zs.length := by simpa using hp
      obtain ⟨z0, h0⟩ : ∃ z0, zs[0]? = some z0 := ⟨_, List.getElem?_eq_getElem hp'⟩
      have hc0 := (hzz 0 z0 h0).2.2 0 _ rfl
      obtain ⟨b, off, ea⟩ := addr_plain hc0
      obtain ⟨b', off', rfl⟩ : ∃ b' off', a = ⟨b', off', none⟩ := by
        obtain ⟨b', off', sp⟩ := a
        cases sp with
        | none => exact ⟨b', off', rfl⟩
        | some k => simp [Addr.add] at ea
      refine ⟨b', off', rfl, ?_, fun j u hu => ?_⟩
      · have := cell_lt hc0; rwa [block_of_add] at this
      · rw [← add_plain]
        have hjl := (List.getElem?_eq_some_iff.1 hu).1
        rw [hlen9] at hjl
        have hj9 : j / 9 < zs.length := by
          have : (zs.map (·.1)).length = zs.length := by simp
          omega
        have hjd : j / 9 * 9 + j % 9 = j := by omega
        rw [← hjd]
        rw [← hjd] at hu
        exact hcell (j / 9) (j % 9) _ (List.getElem?_eq_getElem hj9) (by omega) u hu
    · rw [List.getElem?_map] at h1 h2
      cases hj : zs[j]? with
      | none => rw [hj] at h1; cases h1
      | some z =>
        rw [hj] at h1 h2
        injection h1 with h1; injection h2 with h2
        subst h1; subst h2
        exact ⟨(hzz j z hj).1, (hzz j z hj).2.1⟩
theorem open_tree' (h : DataW.trod enc Tryd.prog W 0 (fun _ => true) true n 24 cs = some x) : ∃ (nv : Value) (t : Tr), cs = [nv, .int .i64 t.root] ∧ RNodes W (fun b => b < W.heap.size) nv t.nodes ∧ -9223372036854775808 ≤ t.root ∧ t.root ≤ 9223372036854775807 := by
  obtain ⟨y0, y1, m, _, hl, h0, h1⟩ := trod_struct2 Tryd.underlying24 h
  rw [cellsTree] at hl
  match cs, hl with
  | [c0, c1], _ =>
    simp only [cellsNodes, cellsInt, List.drop_zero, List.take_succ_cons, List.take_zero, List.drop_succ_cons] at h0 h1
    obtain ⟨nv, ns, g0, hn⟩ := open_nodes' h0
    obtain ⟨r, g1, _, b1⟩ := DataW.trod_int Tryd.underlying3 h1
    simp only [List.cons.injEq, and_true] at g0 g1
    subst g0 g1
    exact ⟨c0, ⟨ns, r⟩, rfl, hn, wf_i64 b1⟩
end
theorem open_tree {H : Type} {enc : TypeId × Value → H} {W : World} {base : Nat} {v : Value} {d : DataW H} {p : List MemPlace} (hv : Value.okWide Tryd.prog W .any base 24 v) (h : DataW.Trod enc Tryd.prog W 0 (fun _ => true) true 24 v d p) :
    ∃ t, HasT W v t := by
  obtain ⟨cs, rfl, hsz⟩ := okWide_struct Tryd.underlying24 hv
  obtain ⟨fuel, hf⟩ := h
  obtain ⟨nv, t, hc, hn, h1, h2⟩ := open_tree' hf
  obtain ⟨l⟩ := cs
  simp only [Value.cells] at hc
  subst hc
  exact ⟨t, nv, rfl, hn, h1, h2⟩
section
variable {H : Type} {enc : TypeId × Value → H} {W : World} {n : Nat} {cs : List Value} {x : DataW H × List MemPlace}
theorem open_trees' (h : DataW.trod enc Tryd.prog W 0 (fun _ => true) true n 40 cs = some x) : ∃ v ts, cs = [v] ∧ RTrees W (fun b => b < W.heap.size) v ts := by
  rcases open_slice Tryd.underlying40 h with ⟨rfl, _⟩ | ⟨a, len, cap, m, k, D, Pl, rfl, _, hl, hm, hmm, _, hi⟩
  · exact ⟨_, [], rfl, [], rfl, Row.nil_ _ _ _, fun j t nv h => by simp at h⟩
  · simp only [if_true] at hmm
    subst hmm
    have hz : ∀ i, i < len → ∃ z : Tr × Value, RNodes W (fun b => b < W.heap.size) z.2 z.1.nodes ∧ (-9223372036854775808 ≤ z.1.root ∧ z.1.root ≤ 9223372036854775807) ∧ ∀ j u, [z.2, Value.int .i64 z.1.root][j]? = some u → W.cell? (a.add (i * 2 + j)) = some u := fun i hil => by
      obtain ⟨cs', hc, ht⟩ := hi i (by omega)
      rw [cellsTree] at hc
      obtain ⟨h1, h2⟩ := cells_at hc
      obtain ⟨nv, t, rfl, hn, hr⟩ := open_tree' ht
      exact ⟨(t, nv), hn, hr, fun j u hu => by rw [← add_add]; exact h2 j u hu⟩
    obtain ⟨zs, hzl, hzz⟩ := exists_list len hz
    have hl1 : (zs.map (·.1)).length = len := by simp [hzl]
    refine ⟨_, zs.map (·.1), rfl, zs.map (·.2), by simp, ?_, fun j t nv h1 h2 => ?_⟩
    · rw [← hl1] at hl ⊢
      have hcell : ∀ (j i : Nat) z, zs[j]? = some z → i < 2 → ∀ u, (List.zipWith (fun (t : Tr) nv => [nv, Value.int .i64 t.root]) (zs.map (·.1)) (zs.map (·.2))).flatten[j * 2 + i]? = some u → W.cell? (a.add (j * 2 + i)) = some u := fun j i z hj hi2 u hu => by
        rw [zip_cells (fun (t : Tr) nv => [nv, Value.int .i64 t.root]) 2 (fun _ _ => rfl) _ _ j z.1 z.2 (by simp [hj]) (by simp [hj]) i hi2] at hu
        exact (hzz j z hj).2.2 i u hu
      have hlen2 : (List.zipWith (fun (t : Tr) nv => [nv, Value.int .i64 t.root]) (zs.map (·.1)) (zs.map (·.2))).flatten.length = (zs.map (·.1)).length * 2 := by
        clear hzz hcell hl1 hl hm hzl hz hi
        induction zs with
        | nil => simp
        | cons z zs ih => simp only [List.map_cons, List.zipWith_cons_cons, List.flatten_cons, List.length_append, List.length_cons, List.length_nil, ih]; omega
      refine ⟨hlen2, by omega, some a, _, rfl, hl, fun hp => ?_⟩
      have hp' : 0 < zs.length := by simpa using hp
      obtain ⟨z0, h0⟩ : ∃ z0, zs[0]? = some z0 := ⟨_, List.getElem?_eq_getElem hp'⟩
      have hc0 := (hzz 0 z0 h0).2.2 0 _ rfl
      obtain ⟨b, off, ea⟩ := addr_plain hc0
      obtain ⟨b', off', rfl⟩ : ∃ b' off', a = ⟨b', off', none⟩ := by
        obtain ⟨b', off', sp⟩ := a
        cases sp with
        | none => exact ⟨b', off', rfl⟩
        | some k => simp [Addr.add] at ea
      refine ⟨b', off', rfl, ?_, fun j u hu => ?_⟩
      · have := cell_lt hc0; rwa [block_of_add] at this
      · rw [← add_plain]
        have hjl := (List.getElem?_eq_some_iff.1 hu).1
        rw [hlen2] at hjl
        have hj2 : j / 2 < zs.length := by
          have : (zs.map (·.1)).length = zs.length := by simp
          omega
        have hjd : j / 2 * 2 + j % 2 = j := by omega
        rw [← hjd]
        rw [← hjd] at hu
        exact hcell (j / 2) (j % 2) _ (List.getElem?_eq_getElem hj2) (by omega) u hu
    · rw [List.getElem?_map] at h1 h2
      cases hj : zs[j]? with
      | none => rw [hj] at h1; cases h1
      | some z =>
        rw [hj] at h1 h2
        injection h1 with h1; injection h2 with h2
        subst h1; subst h2
        exact ⟨(hzz j z hj).1, (hzz j z hj).2.1⟩
end
theorem open_trees {H : Type} {enc : TypeId × Value → H} {W : World} {base : Nat} {v : Value} {d : DataW H} {p : List MemPlace} (hv : Value.okWide Tryd.prog W .any base 40 v) (h : DataW.Trod enc Tryd.prog W 0 (fun _ => true) true 40 v d p) :
    ∃ ts, RTrees W (fun b => b < W.heap.size) v ts := by
  obtain ⟨a0, len, cap, rfl⟩ := okWide_slice Tryd.underlying40 hv
  obtain ⟨fuel, hf⟩ := h
  obtain ⟨v, ts, hc, hr⟩ := open_trees' hf
  simp only [Value.cells, List.cons.injEq, and_true] at hc
  subst hc
  exact ⟨ts, hr⟩
theorem open_node {H : Type} {enc : TypeId × Value → H} {W : World} {base : Nat} {v : Value} {d : DataW H} {p : List MemPlace} (hv : Value.okWide Tryd.prog W .any base 34 v) (h : DataW.Trod enc Tryd.prog W 0 (fun _ => true) true 34 v d p) :
    ∃ (N : Nd) (kv : Value), v = .agg (nodeCells N kv).toArray ∧ RInts W (fun b => b < W.heap.size) kv N.kids ∧ N.d.Ok := by
  obtain ⟨cs, rfl, hsz⟩ := okWide_struct Tryd.underlying34 hv
  obtain ⟨fuel, hf⟩ := h
  obtain ⟨N, kv, hc, hk, hd⟩ := open_node' hf
  obtain ⟨l⟩ := cs
  simp only [Value.cells] at hc
  subst hc
  exact ⟨N, kv, rfl, hk, hd⟩
end Go.Proofs.YtlmlbdmbgfclkaaDoor

/- The contract of works: the examples are as they are told. -/
import Derived.Test.YtlmlbdmbgfclkaaDoorTrK
import Derived.BigRegion
namespace Go.Proofs.YtlmlbdmbgfclkaaDoor
open Go.RowKit
open Classical

def TruePost (w : World) (e : Ending) (w' : World) : Prop := e = .returned (.bool true) ∧ Below w.heap.size w w'
set_option maxHeartbeats 2000000 in
theorem May_g {t : Tr} {v : Value} {S : Nat → Prop} {w : World} (h : Given t v S w) :
    Calls Tryd.prog 15 #[v] w fun e w' => e = .returned (.bool (decide (MayT t))) ∧ Below w.heap.size w w' := by
  have HR := Lib.hid (fun wx (hx : Below w.heap.size w wx) => right_g (h.below hx))
  have HG := Lib.hid h
  obtain ⟨nv, rfl, hns, hr1, hr2⟩ := h.read
  obtain ⟨A, c, rfl, hc, hs, _⟩ := hns.at_
  obtain ⟨X, hX⟩ : ∃ X, X = decide (MayT t) := ⟨_, rfl⟩
  have HX := Lib.hid hX
  rw [← hX]
  clear hX
  obtain ⟨n, hn⟩ : ∃ n, n = t.nodes.length := ⟨_, rfl⟩
  have HN := Lib.hid hn
  rw [← hn]
  by_cases hle : n ≤ 1024
  · have hle' : decide ((n : Int) ≤ 1024) = true := by simp; omega
    by_cases hr : RightT t
    · have HD := Lib.hid (fun wx (hx : Below w.heap.size w wx) => depth_g (h.below hx) hr)
      rw [decide_eq_true hr] at HR
      rw [← hn] at HR HD
      obtain ⟨dp, hdp⟩ : ∃ dp, dp = (treeOf t).depth := ⟨_, rfl⟩
      rw [← hdp] at HD
      have HDP := Lib.hid hdp
      have HRT := Lib.hid hr
      by_cases hd : dp ≤ 32
      · have hd' : decide ((dp : Int) ≤ 32) = true := by simp; omega
        have HXV := Lib.hid (show X = true by rw [HX.out]; exact decide_eq_true ⟨by omega, hr, by omega⟩)
        have HR2 := HR; have HD2 := HD
        clear h hns hr hdp hn
        go_enter Tryd.func15, Tryd.ntmps15
        go_wp2_with fail
        refine (HR.out _ ((Below.refl _ _).alloc (Nat.le_refl _) _)).mono ?_
        rintro e w1 ⟨rfl, hb1⟩
        have hb01 : Below w.heap.size w w1 := ((Below.refl _ _).alloc (Nat.le_refl _) _).trans (hb1.mono (by simp <;> omega))
        have hB1 : Blk w1 w.heap.size 24 #[.slice A n c, .int .i64 t.root] := (Blk.new w _ _).below hb1 (by simp)
        have d0 : w1.cell? ⟨w.heap.size, 0, none⟩ = some (.slice A n c) := hB1.cell 0
        have d1 : w1.cell? ⟨w.heap.size, 1, none⟩ = some (.int .i64 t.root) := hB1.cell 1
        clear hb1 hB1
        go_wp2_with fail
        refine (HD.out _ hb01).mono ?_
        rintro e w2 ⟨rfl, hb2⟩
        go_wp2_with fail
        go_ret
        exact ⟨ret_bool (by rw [HXV.out]), hb01.trans (hb2.mono hb01.size)⟩
      · have hd' : decide ((dp : Int) ≤ 32) = false := by simp; omega
        have HXV := Lib.hid (show X = false by rw [HX.out]; exact decide_eq_false (fun h => hd (by rw [HDP.out]; exact h.2.2)))
        clear h hns hr hdp hn
        go_enter Tryd.func15, Tryd.ntmps15
        go_wp2_with fail
        refine (HR.out _ ((Below.refl _ _).alloc (Nat.le_refl _) _)).mono ?_
        rintro e w1 ⟨rfl, hb1⟩
        have hb01 : Below w.heap.size w w1 := ((Below.refl _ _).alloc (Nat.le_refl _) _).trans (hb1.mono (by simp <;> omega))
        have hB1 : Blk w1 w.heap.size 24 #[.slice A n c, .int .i64 t.root] := (Blk.new w _ _).below hb1 (by simp)
        have d0 : w1.cell? ⟨w.heap.size, 0, none⟩ = some (.slice A n c) := hB1.cell 0
        have d1 : w1.cell? ⟨w.heap.size, 1, none⟩ = some (.int .i64 t.root) := hB1.cell 1
        clear hb1 hB1
        go_wp2_with fail
        refine (HD.out _ hb01).mono ?_
        rintro e w2 ⟨rfl, hb2⟩
        go_wp2_with fail
        go_ret
        exact ⟨ret_bool (by rw [HXV.out]), hb01.trans (hb2.mono hb01.size)⟩
    · rw [decide_eq_false hr] at HR
      rw [← hn] at HR
      have HXV := Lib.hid (show X = false by rw [HX.out]; exact decide_eq_false (fun h => hr h.2.1))
      clear h hns hr hn
      go_enter Tryd.func15, Tryd.ntmps15
      go_wp2_with fail
      refine (HR.out _ ((Below.refl _ _).alloc (Nat.le_refl _) _)).mono ?_
      rintro e w1 ⟨rfl, hb1⟩
      have hb01 : Below w.heap.size w w1 := ((Below.refl _ _).alloc (Nat.le_refl _) _).trans (hb1.mono (by simp <;> omega))
      go_wp2_with fail
      go_ret
      exact ⟨ret_bool (by rw [HXV.out]), hb01⟩
  · have hle' : decide ((n : Int) ≤ 1024) = false := by simp; omega
    have HXV := Lib.hid (show X = false by rw [HX.out]; exact decide_eq_false (fun h => hle (by rw [HN.out]; exact h.1)))
    clear h hns hn
    go_enter Tryd.func15, Tryd.ntmps15
    go_wp2_with fail
    go_ret
    exact ⟨ret_bool (by rw [HXV.out]), (Below.refl _ _).alloc (Nat.le_refl _) _⟩
/-- The example's tree. -/
def exT : T := .node seqD [.node (textD [97]) [], .node (ruleD [98]) []]
def exTurned : Tr := ⟨[⟨ruleD [98], []⟩, ⟨textD [97], []⟩, ⟨seqD, [1, 0]⟩], 2⟩
theorem fit_ex : FitT exT := ⟨_, _, (by decide : fits seqD ((2 : Nat) : Int) = true), fun k hk => by
  simp at hk
  rcases hk with rfl | rfl
  · exact ⟨_, _, (by decide : fits (textD [97]) ((0 : Nat) : Int) = true), fun k hk => by simp at hk⟩
  · exact ⟨_, _, (by decide : fits (ruleD [98]) ((0 : Nat) : Int) = true), fun k hk => by simp at hk⟩⟩
theorem low_turned : Low exTurned.nodes := by
  intro i n hn k hk
  rcases i with _ | _ | _ | i
  · simp [exTurned] at hn; subst hn; simp at hk
  · simp [exTurned] at hn; subst hn; simp at hk
  · simp [exTurned] at hn; subst hn; simp at hk; omega
  · simp [exTurned] at hn
theorem right_turned : RightT exTurned := ⟨⟨by simp [exTurned], by simp [exTurned], low_turned, by decide⟩, by decide⟩
theorem D_turned : treeOf exTurned = exT := by
  have h0 : D exTurned.nodes 0 = .node (ruleD [98]) [] := by rw [D_eq low_turned (i := 0) (n := ⟨ruleD [98], []⟩) rfl]; rfl
  have h1 : D exTurned.nodes 1 = .node (textD [97]) [] := by rw [D_eq low_turned (i := 1) (n := ⟨textD [97], []⟩) rfl]; rfl
  show D exTurned.nodes 2 = exT
  rw [D_eq low_turned (i := 2) (n := ⟨seqD, [1, 0]⟩) rfl]
  simp [h0, h1, exT]
theorem pre_turned : pre exTurned.nodes 2 = [2, 1, 0] := by
  have h0 : pre exTurned.nodes 0 = [0] := by rw [pre_eq low_turned (i := 0) (n := ⟨ruleD [98], []⟩) rfl]; rfl
  have h1 : pre exTurned.nodes 1 = [1] := by rw [pre_eq low_turned (i := 1) (n := ⟨textD [97], []⟩) rfl]; rfl
  rw [pre_eq low_turned (i := 2) (n := ⟨seqD, [1, 0]⟩) rfl]
  simp [h0, h1]
theorem walk_turned : walkOf exTurned = [2, 1, 0] := by rw [walkOf, if_pos right_turned]; exact pre_turned
theorem same_turned : SameT (flatT exT) exTurned := ⟨right_flat fit_ex, right_turned, by rw [treeOf_flat, D_turned]⟩
theorem flat_ex : flatT exT = ⟨[⟨textD [97], []⟩, ⟨ruleD [98], []⟩, ⟨seqD, [0, 1]⟩], 2⟩ := by
  simp [flatT, exT, flatAt, flatsAt, ends, T.size, sizes]

/-- The example's tree in memory: the cells that are read. -/
structure ExMem (w : World) (g c : Nat) (A0 : Option Addr) (c0 : Nat) (A1 : Option Addr) (c1 gk ok ck : Nat) : Prop where
  lt : g < w.heap.size
  ltk : gk < w.heap.size
  x0 : w.cell? ⟨g, 0, none⟩ = some (.int .u8 2)
  x1 : w.cell? ⟨g, 1, none⟩ = some (.int .u64 0)
  x2 : w.cell? ⟨g, 2, none⟩ = some (.int .u64 0)
  x3 : w.cell? ⟨g, 3, none⟩ = some (.int .u64 0)
  x4 : w.cell? ⟨g, 4, none⟩ = some (.int .u64 0)
  x5 : w.cell? ⟨g, 5, none⟩ = some (.string ⟨#[97]⟩)
  x6 : w.cell? ⟨g, 6, none⟩ = some (.int .i64 0)
  x7 : w.cell? ⟨g, 7, none⟩ = some (.int .i64 0)
  x8 : w.cell? ⟨g, 8, none⟩ = some (.slice A0 0 c0)
  y0 : w.cell? ⟨g, 9, none⟩ = some (.int .u8 3)
  y1 : w.cell? ⟨g, 10, none⟩ = some (.int .u64 0)
  y2 : w.cell? ⟨g, 11, none⟩ = some (.int .u64 0)
  y3 : w.cell? ⟨g, 12, none⟩ = some (.int .u64 0)
  y4 : w.cell? ⟨g, 13, none⟩ = some (.int .u64 0)
  y5 : w.cell? ⟨g, 14, none⟩ = some (.string ⟨#[98]⟩)
  y6 : w.cell? ⟨g, 15, none⟩ = some (.int .i64 0)
  y7 : w.cell? ⟨g, 16, none⟩ = some (.int .i64 0)
  y8 : w.cell? ⟨g, 17, none⟩ = some (.slice A1 0 c1)
  z8 : w.cell? ⟨g, 26, none⟩ = some (.slice (some ⟨gk, ok, none⟩) 2 ck)
  k0 : w.cell? ⟨gk, ok, none⟩ = some (.int .i64 0)
  k1 : w.cell? ⟨gk, ok + 1, none⟩ = some (.int .i64 1)
  le0 : 0 ≤ c0
theorem ExMem.below {w w' : World} {g c : Nat} {A0 : Option Addr} {c0 : Nat} {A1 : Option Addr} {c1 gk ok ck : Nat} (h : ExMem w g c A0 c0 A1 c1 gk ok ck) (hb : Below w.heap.size w w') : ExMem w' g c A0 c0 A1 c1 gk ok ck := by
  have hg : ∀ o, w'.cell? ⟨g, o, none⟩ = w.cell? ⟨g, o, none⟩ := fun o => hb.cell (p := ⟨g, o, none⟩) h.lt
  have hg2 : ∀ o, w'.cell? ⟨gk, o, none⟩ = w.cell? ⟨gk, o, none⟩ := fun o => hb.cell (p := ⟨gk, o, none⟩) h.ltk
  obtain ⟨h1, h2, x0, x1, x2, x3, x4, x5, x6, x7, x8, y0, y1, y2, y3, y4, y5, y6, y7, y8, z8, k0, k1, l⟩ := h
  have := hb.size
  exact ⟨by omega, by omega, by rw [hg, x0], by rw [hg, x1], by rw [hg, x2], by rw [hg, x3], by rw [hg, x4], by rw [hg, x5], by rw [hg, x6], by rw [hg, x7], by rw [hg, x8], by rw [hg, y0], by rw [hg, y1], by rw [hg, y2], by rw [hg, y3], by rw [hg, y4], by rw [hg, y5], by rw [hg, y6], by rw [hg, y7], by rw [hg, y8], by rw [hg, z8], by rw [hg2, k0], by rw [hg2, k1], l⟩
theorem ex_cells {w : World} {base : Nat} {nv : Value} (h : OwnNodes w 34 base (fun _ => True) nv [⟨textD [97], []⟩, ⟨ruleD [98], []⟩, ⟨seqD, [0, 1]⟩]) :
    ∃ g c A0 c0 A1 c1 gk ok ck, nv = .slice (some ⟨g, 0, none⟩) 3 c ∧ ExMem w g c A0 c0 A1 c1 gk ok ck := by
  obtain ⟨kvs, hk⟩ := h
  have hn := hk.nodes (S := fun b => b < w.heap.size) (fun _ _ h _ => h)
  obtain ⟨A, c, rfl, _⟩ := own_slice hk.row
  obtain ⟨g, rfl, _, hg, _⟩ := own_some hk.row (by simp)
  obtain ⟨b0, o0, A0, c0, e0, _, _, _, x0, x1, x2, x3, x4, x5, x6, x7, x8⟩ := hn.get 0 _ rfl
  obtain ⟨b1, o1, A1, c1, e1, _, _, _, y0, y1, y2, y3, y4, y5, y6, y7, y8⟩ := hn.get 1 _ rfl
  obtain ⟨b2, o2, A2, c2, e2, _, hki, _, _, _, _, _, _, _, _, _, z8⟩ := hn.get 2 _ rfl
  injection e0 with e0; injection e0 with e0 f0; subst e0; subst f0
  injection e1 with e1; injection e1 with e1 f1; subst e1; subst f1
  injection e2 with e2; injection e2 with e2 f2; subst e2; subst f2
  obtain ⟨gk, ok, rfl, hgk, k0⟩ := hki.get 0 0 rfl
  obtain ⟨gk', ok', e, _, k1⟩ := hki.get 1 1 rfl
  injection e with e; injection e with e f; subst e; subst f
  exact ⟨g, c, A0, c0, A1, c1, gk, ok, c2, rfl, hg, hgk, x0, x1, x2, x3, x4, x5, x6, x7, x8, y0, y1, y2, y3, y4, y5, y6, y7, y8, z8, k0, k1, Nat.zero_le _⟩
theorem ex_call {w2 : World} {A1 A2 : Option Addr} {c1 c2 : Nat} (h1 : HasT w2 (.agg #[.slice A1 1 c1, .int .i64 0]) ⟨[⟨textD [97], []⟩], 0⟩) (h2 : HasT w2 (.agg #[.slice A2 1 c2, .int .i64 0]) ⟨[⟨ruleD [98], []⟩], 0⟩) (hk : KTab w2) :
    Calls Tryd.prog 19 #[.agg #[.int .u8 4, .int .u64 0, .int .u64 0, .int .u64 0, .int .u64 0, .string ⟨#[]⟩, .int .i64 0, .int .i64 0, .slice none 0 0], .slice (some ⟨w2.heap.size, 0, none⟩) 2 2]
      (w2.alloc (.cells #[.slice A1 1 c1, .int .i64 0, .slice A2 1 c2, .int .i64 0] 24)) fun e w' => ∃ g c A0 c0 A1' c1' gk ok ck, e = .returned (.tuple #[.agg #[.slice (some ⟨g, 0, none⟩) 3 c, .int .i64 2], .bool true]) ∧
        ExMem w' g c A0 c0 A1' c1' gk ok ck ∧ HasT w' (.agg #[.slice (some ⟨g, 0, none⟩) 3 c, .int .i64 2]) (flatT exT) ∧ Below w2.heap.size w2 w' := by
  have hb0 : Below w2.heap.size w2 (w2.alloc (.cells #[.slice A1 1 c1, .int .i64 0, .slice A2 1 c2, .int .i64 0] 24)) := (Below.refl _ _).alloc (Nat.le_refl _) _
  have hO := of_g (N := ⟨seqD, []⟩) (kv0 := .slice none 0 0) (ts := [⟨[⟨textD [97], []⟩], 0⟩, ⟨[⟨ruleD [98], []⟩], 0⟩]) (v := .slice (some ⟨w2.heap.size, 0, none⟩) 2 2) (S := fun b => b < w2.heap.size + 1)
    (w := w2.alloc (.cells #[.slice A1 1 c1, .int .i64 0, .slice A2 1 c2, .int .i64 0] 24)) ⟨by decide, by decide, by decide, by decide, by decide⟩
    ⟨RTrees.two (ty := 24) (Blk.new w2 _ _) (Nat.lt_succ_self _) ((h1.below hb0).more fun b hb => by simpa using hb) ((h2.below hb0).more fun b hb => by simpa using hb),
      fun b hb => by simpa using hb, hk.below hb0, by simp, by simp⟩ (by simp)
  refine hO.mono ?_
  rintro e w' ⟨u, x, is, rfl, ⟨nv, rfl, ho⟩, hi, hb⟩
  have hf : fits seqD ((2 : Nat) : Int) = true := by decide
  have r1 : (⟨[⟨textD [97], []⟩], 0⟩ : Tr) = flatT (.node (textD [97]) []) := rfl
  have r2 : (⟨[⟨ruleD [98], []⟩], 0⟩ : Tr) = flatT (.node (ruleD [98]) []) := rfl
  obtain ⟨rfl, rfl⟩ := hi.yes hf (by
    intro t ht
    simp at ht
    rcases ht with rfl | rfl
    · rw [r1]; exact right_flat (by obtain ⟨_, _, _, h⟩ := fit_ex; exact h _ (by simp))
    · rw [r2]; exact right_flat (by obtain ⟨_, _, _, h⟩ := fit_ex; exact h _ (by simp)))
  rw [r1, r2] at ho ⊢
  simp only [List.map_cons, List.map_nil, treeOf_flat] at ho ⊢
  have e : flatT (.node seqD [.node (textD [97]) [], .node (ruleD [98]) []]) = ⟨[⟨textD [97], []⟩, ⟨ruleD [98], []⟩, ⟨seqD, [0, 1]⟩], 2⟩ := flat_ex
  rw [e] at ho ⊢
  obtain ⟨g, c, A0, c0, A1', c1', gk, ok, ck, rfl, hm⟩ := ex_cells ho
  exact ⟨g, c, A0, c0, A1', c1', gk, ok, ck, rfl, hm, by rw [flat_ex]; exact ⟨_, rfl, ho.nodes, by simp, by simp⟩, hb0.trans (hb.mono hb0.size)⟩

theorem RInts.empty (w : World) (S : Nat → Prop) (A : Option Addr) (c : Nat) : RInts w S (.slice A 0 c) [] := ⟨rfl, by simp [maxLen], A, c, rfl, Nat.zero_le _, fun h => by simp at h⟩
/-- Nodes in one block. -/
theorem RNodes.of_blk {w : World} {S : Nat → Prop} {g : Nat} {ty : TypeId} {ns : List Nd} {kvs : List Value} (hl : kvs.length = ns.length) (hb : Blk w g ty (nodesCells ns kvs).toArray)
    (hS : S g) (hm : ns.length ≤ maxLen) (h : ∀ (j : Nat) (n : Nd) (kv : Value), ns[j]? = some n → kvs[j]? = some kv → RInts w S kv n.kids ∧ n.d.Ok) : RNodes w S (.slice (some ⟨g, 0, none⟩) ns.length ns.length) ns := by
  refine ⟨kvs, hl, ⟨?_, hm, some ⟨g, 0, none⟩, ns.length, rfl, Nat.le_refl _, fun _ => ⟨g, 0, rfl, hS, fun j u hu => ?_⟩⟩, h⟩
  · have hf : ∀ (ns : List Nd) (kvs : List Value), kvs.length = ns.length → (nodesCells ns kvs).length = ns.length * 9 := by
      intro ns
      unfold nodesCells
      induction ns with
      | nil => intro kvs h; simp
      | cons t ns ih =>
        intro kvs h
        cases kvs with
        | nil => simp at h
        | cons v kvs =>
          simp only [List.zipWith_cons_cons, List.flatten_cons, List.length_append, List.length_cons]
          rw [ih kvs (by simpa using h), show (nodeCells t v).length = 9 from rfl]; omega
    exact hf ns kvs hl
  · rw [Nat.zero_add, hb.cell j]
    simpa using hu
theorem Blk.new2 (w : World) (o o' : Obj) (t : TypeId) (cs : Array Value) : Blk (((w.alloc o).alloc o').alloc (.cells cs t)) (w.heap.size + 1 + 1) t cs := by
  have := Blk.new ((w.alloc o).alloc o') t cs
  simpa using this
theorem below_alloc3 (w : World) (o o' o'' : Obj) : Below w.heap.size w (((w.alloc o).alloc o').alloc o'').drew :=
  below_drewN ((((Below.refl _ _).alloc (Nat.le_refl _) _).alloc (by simp) _).alloc (by simp; omega) _) 1
theorem turned_mem {wx : World} {gi gn : Nat} {A0 A3 : Option Addr} {c0 c3 : Nat} (hi : Blk wx gi 3 #[.int .i64 1, .int .i64 0])
    (hn : Blk wx gn 34 #[.int .u8 3, .int .u64 0, .int .u64 0, .int .u64 0, .int .u64 0, .string ⟨#[98]⟩, .int .i64 0, .int .i64 0, .slice A3 0 c3, .int .u8 2, .int .u64 0, .int .u64 0, .int .u64 0, .int .u64 0, .string ⟨#[97]⟩, .int .i64 0, .int .i64 0, .slice A0 0 c0,
      .int .u8 4, .int .u64 0, .int .u64 0, .int .u64 0, .int .u64 0, .string ⟨#[]⟩, .int .i64 0, .int .i64 0, .slice (some ⟨gi, 0, none⟩) 2 2]) :
    HasT wx (.agg #[.slice (some ⟨gn, 0, none⟩) 3 3, .int .i64 2]) exTurned := by
  refine ⟨_, rfl, RNodes.of_blk (ns := exTurned.nodes) (kvs := [.slice A3 0 c3, .slice A0 0 c0, .slice (some ⟨gi, 0, none⟩) 2 2]) rfl hn hn.lt (by simp [exTurned, maxLen]) ?_, by simp [exTurned], by simp [exTurned]⟩
  intro j n kv h1 h2
  rcases j with _ | _ | _ | j
  · simp [exTurned] at h1 h2; subst h1; subst h2; exact ⟨RInts.empty _ _ _ _, ⟨by decide, by decide, by decide, by decide, by decide⟩⟩
  · simp [exTurned] at h1 h2; subst h1; subst h2; exact ⟨RInts.empty _ _ _ _, ⟨by decide, by decide, by decide, by decide, by decide⟩⟩
  · simp [exTurned] at h1 h2; subst h1; subst h2; exact ⟨RInts.of_blk (ks := [1, 0]) hi hi.lt (by simp [maxLen]), ⟨by decide, by decide, by decide, by decide, by decide⟩⟩
  · simp at h2
set_option maxHeartbeats 4000000 in
theorem works_g (w : World) (hk : KTab w) : Calls Tryd.prog 8 #[] w (TruePost w) := by
  have HK := Lib.hid hk
  clear hk
  go_enter Tryd.func8, Tryd.ntmps8
  go_upto_region 4 with (first
    | (go_at_call 18
       refine (Text_g [97] (by decide) _).mono ?_
       rintro e w1 ⟨u1, rfl, ⟨n1, rfl, kvs1, ho1⟩, hb1⟩
       obtain ⟨A1, c1, rfl, _⟩ := own_slice ho1.row
       have HO1 := Lib.hid ho1
       clear ho1)
    | (go_at_call 40
       refine (Rule_g [98] (by decide) _).mono ?_
       rintro e w2 ⟨u2, rfl, ⟨n2, rfl, kvs2, ho2⟩, hb2⟩
       obtain ⟨A2, c2, rfl, _⟩ := own_slice ho2.row
       have HO2 := Lib.hid ho2
       clear ho2)
    | (go_at_call 19
       have hk2 : KTab w2 := (HK.out.below hb1).below hb2
       have hh1 : HasT w2 (.agg #[.slice A1 1 c1, .int .i64 0]) ⟨[⟨textD [97], []⟩], 0⟩ := HasT.below (OwnTree.has (base := w.heap.size) ⟨_, rfl, _, HO1.out⟩ (by simp) (by simp)) hb2
       have hh2 : HasT w2 (.agg #[.slice A2 1 c2, .int .i64 0]) ⟨[⟨ruleD [98], []⟩], 0⟩ := OwnTree.has (base := w1.heap.size) ⟨_, rfl, _, HO2.out⟩ (by simp) (by simp)
       refine (ex_call hh1 hh2 hk2).mono ?_
       rintro e w3 ⟨g, c, A0, c0, A3, c3, gk, ok, ck, rfl, hm, hh3, hb3⟩
       have hb03 : Below w.heap.size w w3 := hb1.trans ((hb2.trans (hb3.mono hb2.size)).mono hb1.size)
       obtain ⟨h1, h2, x0, x1, x2, x3, x4, x5, x6, x7, x8, y0, y1, y2, y3, y4, y5, y6, y7, y8, z8, k0, k1, _⟩ := id hm
       have HM := Lib.hid hm
       have HH3 := Lib.hid hh3
       have HB3 := Lib.hid hb03
       have HK3 := Lib.hid (HK.out.below hb03)
       clear hh1 hh2 hk2 hm hh3 hb03 hb3)
    | fail)
  obtain ⟨sb, hsb⟩ : ∃ sb, sb = w3.heap.size := ⟨_, rfl⟩
  obtain ⟨w4, hw4⟩ : ∃ w4, w4 = w3.alloc (.cells #[.slice (some ⟨g, 0, none⟩) 3 c, .int .i64 2] 24) := ⟨_, rfl⟩
  have hb34 : Below w3.heap.size w3 w4 := by rw [hw4]; exact (Below.refl _ _).alloc (Nat.le_refl _) _
  have hm4 := HM.out.below hb34
  have hB4 : Blk w4 sb 24 #[.slice (some ⟨g, 0, none⟩) 3 c, .int .i64 2] := by rw [hw4, hsb]; exact Blk.new _ _ _
  have hh4 := HH3.out.below hb34
  have hb04 : Below w.heap.size w w4 := HB3.out.trans (hb34.mono HB3.out.size)
  rw [← hw4, ← hsb]
  clear hb34 hb1 hb2 h1 h2 x0 x1 x2 x3 x4 x5 x6 x7 x8 y0 y1 y2 y3 y4 y5 y6 y7 y8 z8 k0 k1 HM HH3 HB3 HK3 HO1 HO2 hsb hw4
  obtain ⟨h1, h2, x0, x1, x2, x3, x4, x5, x6, x7, x8, y0, y1, y2, y3, y4, y5, y6, y7, y8, _, _, _, _⟩ := id hm4
  have s0 : w4.cell? ⟨sb, 0, none⟩ = some (.slice (some ⟨g, 0, none⟩) 3 c) := hB4.cell 0
  have hs : sb < w4.heap.size := hB4.lt
  have HM := Lib.hid hm4
  have HB := Lib.hid hB4
  have HH := Lib.hid hh4
  have HW := Lib.hid hb04
  clear hm4 hB4 hh4 hb04 h2
  go_cut [3] from 71 to 82 (fun X wx => ∃ g3 gn : Nat, X = .pointer (some ⟨g3, 0, none⟩) ∧ Hid (Blk wx g3 24 #[.slice (some ⟨gn, 0, none⟩) 3 3, .int .i64 2]) ∧ Hid (HasT wx (.agg #[.slice (some ⟨gn, 0, none⟩) 3 3, .int .i64 2]) exTurned) ∧ Hid (Below w4.heap.size w4 wx))
  case first =>
    go_region
    all_goals (go_wp2_with fail)
    all_goals go_meet
    · exact ⟨_, _, rfl, Lib.hid (Blk.new2 w4 _ _ _ _).drew, Lib.hid (turned_mem (((Blk.new w4 _ _).alloc _).alloc _).drew ((Blk.new1 w4 _ _ _).alloc _).drew), Lib.hid (below_alloc3 w4 _ _ _)⟩
    · exact ⟨_, _, rfl, Lib.hid ((Blk.new1 w4 _ _ _).alloc _).drew, Lib.hid (turned_mem (((Blk.new w4 _ _).alloc _).alloc _).drew (Blk.new2 w4 _ _ _ _).drew), Lib.hid (below_alloc3 w4 _ _ _)⟩
    · exact ⟨_, _, rfl, Lib.hid (((Blk.new w4 _ _).alloc _).alloc _).drew, Lib.hid (turned_mem ((Blk.new1 w4 _ _ _).alloc _).drew (Blk.new2 w4 _ _ _ _).drew), Lib.hid (below_alloc3 w4 _ _ _)⟩
  case rest =>
    obtain ⟨g3, gn, rfl, HB3, HT3, HW3⟩ := hcut
    have p0 : wc.cell? ⟨g3, 0, none⟩ = some (.slice (some ⟨gn, 0, none⟩) 3 3) := HB3.out.cell 0
    have p1 : wc.cell? ⟨g3, 1, none⟩ = some (.int .i64 2) := HB3.out.cell 1
    have HB4 := Lib.hid (HB.out.below HW3.out HB.out.lt)
    have HT4 := Lib.hid (HH.out.below HW3.out)
    have HWc := Lib.hid (HW.out.trans (HW3.out.mono HW.out.size))
    have HKc := Lib.hid (HK.out.below HWc.out)
    clear h1 hs s0 x0 x1 x2 x3 x4 x5 x6 x7 x8 y0 y1 y2 y3 y4 y5 y6 y7 y8 HM HB HH HW HW3 HK
    have HWalk := Lib.hid (Walk_g (HT3.out.given HKc.out (by simp [exTurned])))
    rw [walk_turned] at HWalk
    go_wp2_with (first
      | (go_at_call 10
         refine HWalk.out.mono ?_
         rintro e w5 ⟨u5, rfl, ho5, hb5⟩
         obtain ⟨A5, c5, rfl, _⟩ := own_slice ho5
         obtain ⟨g5, rfl, _, hg5, _⟩ := own_some ho5 (by simp)
         have q0 : w5.cell? ⟨g5, 0, none⟩ = some (.int .i64 2) := ho5.cells (g := g5) rfl 0 _ rfl
         have q1 : w5.cell? ⟨g5, 1, none⟩ = some (.int .i64 1) := ho5.cells (g := g5) rfl 1 _ rfl
         have q2 : w5.cell? ⟨g5, 2, none⟩ = some (.int .i64 0) := ho5.cells (g := g5) rfl 2 _ rfl
         have hB5 := HB3.out.below hb5 HB3.out.lt
         have hB6 := HB4.out.below hb5 HB4.out.lt
         have p0 : w5.cell? ⟨g3, 0, none⟩ = some (.slice (some ⟨gn, 0, none⟩) 3 3) := hB5.cell 0
         have p1 : w5.cell? ⟨g3, 1, none⟩ = some (.int .i64 2) := hB5.cell 1
         have p2 : w5.cell? ⟨sb, 0, none⟩ = some (.slice (some ⟨g, 0, none⟩) 3 c) := hB6.cell 0
         have p3 : w5.cell? ⟨sb, 1, none⟩ = some (.int .i64 2) := hB6.cell 1
         have HW5 := Lib.hid (HWc.out.trans (hb5.mono HWc.out.size))
         have HT5 := Lib.hid (HT3.out.below hb5)
         have HT6 := Lib.hid (HT4.out.below hb5)
         clear ho5 hB5 hB6)
      | fail)
    have HK5 := Lib.hid (HKc.out.below hb5)
    have hS := Same_g (HT6.out.given HK5.out (by simp [flat_ex])) (HT5.out.given HK5.out (by simp [exTurned]))
    rw [decide_eq_true same_turned] at hS
    refine hS.mono ?_
    rintro e w6 ⟨rfl, hb6⟩
    have HW6 := Lib.hid (HW5.out.trans (hb6.mono HW5.out.size))
    have HK6 := Lib.hid (HK5.out.below hb6)
    clear hb5 hb6 hS q0 q1 q2 p0 p1 p2 p3
    go_wp2_with fail
    refine (nots_g 100 (by omega) _ HK6.out).mono ?_
    rintro e w7 ⟨u, rfl, ho, hb7⟩
    have HT7 := Lib.hid (ho.has (by rw [nots_root]; omega) (by rw [nots_root]; omega))
    have HW7 := Lib.hid (HW6.out.trans (hb7.mono HW6.out.size))
    have HK7 := Lib.hid (HK6.out.below hb7)
    obtain ⟨n7, rfl, _⟩ := ho
    clear hb7
    go_wp2_with fail
    have hR := right_g (HT7.out.given HK7.out (by rw [flatT_len, notsT_size]; omega))
    rw [decide_eq_true (right_nots 100)] at hR
    refine hR.mono ?_
    rintro e w8 ⟨rfl, hb8⟩
    have HW8 := Lib.hid (HW7.out.trans (hb8.mono HW7.out.size))
    have HK8 := Lib.hid (HK7.out.below hb8)
    clear hb8 hR
    go_wp2_with fail
    refine (nots_g 100 (by omega) _ HK8.out).mono ?_
    rintro e w9 ⟨u, rfl, ho, hb9⟩
    have HT9 := Lib.hid (ho.has (by rw [nots_root]; omega) (by rw [nots_root]; omega))
    have HW9 := Lib.hid (HW8.out.trans (hb9.mono HW8.out.size))
    have HK9 := Lib.hid (HK8.out.below hb9)
    obtain ⟨n9, rfl, _⟩ := ho
    clear hb9
    go_wp2_with fail
    have hM := May_g (HT9.out.given HK9.out (by rw [flatT_len, notsT_size]; omega))
    rw [decide_eq_false not_may_nots] at hM
    refine hM.mono ?_
    rintro e w10 ⟨rfl, hb10⟩
    have HW10 := Lib.hid (HW9.out.trans (hb10.mono HW9.out.size))
    clear hb10 hM
    go_wp2_with fail
    go_ret
    exact ⟨rfl, HW10.out⟩
end Go.Proofs.YtlmlbdmbgfclkaaDoor

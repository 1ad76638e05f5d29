/- The contracts of slices.ContainsFunc (is one not right?) and tree.Of. -/
import Derived.Test.YtlmlbdmbgfclkaaDoorTrV
namespace Go.Proofs.YtlmlbdmbgfclkaaDoor
open Go.RowKit
open Classical

/-- Conditions on a list of trees that is handed in. -/
structure GivenL (ts : List Tr) (v : Value) (S : Nat → Prop) (w : World) : Prop where
  read : RTrees w S v ts
  old : ∀ b, S b → b < w.heap.size
  tab : KTab w
  small : ∀ t ∈ ts, t.nodes.length ≤ 500000
  few : ts.length ≤ 500000
theorem GivenL.below {ts : List Tr} {v : Value} {S : Nat → Prop} {w w' : World} (h : GivenL ts v S w) (hb : Below w.heap.size w w') : GivenL ts v S w' :=
  ⟨h.read.below hb h.old, fun b hs => Nat.lt_of_lt_of_le (h.old b hs) hb.size, h.tab.below hb, h.small, h.few⟩
theorem GivenL.at_ {ts : List Tr} {A : Option Addr} {n c : Nat} {S : Nat → Prop} {w : World} (h : GivenL ts (.slice A n c) S w) (j : Nat) (t : Tr) (hj : ts[j]? = some t) :
    ∃ b off Ak ck, A = some ⟨b, off, none⟩ ∧ S b ∧ Given t (.agg #[.slice Ak t.nodes.length ck, .int .i64 t.root]) S w ∧ w.cell? ⟨b, off + j * 2, none⟩ = some (.slice Ak t.nodes.length ck) ∧ w.cell? ⟨b, off + j * 2 + 1, none⟩ = some (.int .i64 t.root) := by
  obtain ⟨A', c', hv, _, _, hr⟩ := h.read.at_
  injection hv with h1 h2 h3
  subst h1
  have hjl : j < ts.length := (List.getElem?_eq_some_iff.1 hj).1
  obtain ⟨b, off, rfl, hS, hc⟩ := hr (by omega)
  obtain ⟨nv, hn, hrt, c0, c1⟩ := hc j t hj
  obtain ⟨Ak, ck, rfl, _, _, _⟩ := hn.at_
  exact ⟨b, off, Ak, ck, rfl, hS, ⟨⟨_, rfl, hn, hrt⟩, h.old, h.tab, h.small t (List.mem_of_getElem? hj)⟩, c0, c1⟩

set_option maxHeartbeats 1000000 in
theorem ofr_g {t : Tr} {v : Value} {S : Nat → Prop} {w : World} (h : Given t v S w) :
    Calls Tryd.prog 50 #[v] w fun e w' => e = .returned (.bool (!decide (RightT t))) ∧ Below w.heap.size w w' := by
  have HR := Lib.hid (fun wx (hx : Below w.heap.size w wx) => right_g (h.below hx))
  obtain ⟨nv, rfl, hns, hr1, hr2⟩ := h.read
  clear h
  go_enter Tryd.func50, Tryd.ntmps50
  go_wp2_with (go_at_call 11; refine (HR.out _ ((Below.refl _ _).alloc (Nat.le_refl _) _)).mono ?_; rintro e w1 ⟨rfl, hb1⟩)
  go_ret
  exact ⟨rfl, ((Below.refl _ _).alloc (Nat.le_refl _) _).trans (hb1.mono (by simp <;> omega))⟩

set_option maxHeartbeats 1000000 in
theorem indexf_g {ts : List Tr} {v : Value} {S : Nat → Prop} {w : World} (h : GivenL ts v S w) :
    Calls Tryd.prog 55 #[v, .func (.func 50) #[] #[]] w fun e w' => (∃ r : Int, e = .returned (.int .i64 r) ∧ (0 ≤ r ↔ ∃ t ∈ ts, ¬ RightT t)) ∧ Below w.heap.size w w' := by
  obtain ⟨A, c, rfl, hc, hs, _⟩ := h.read.at_
  have hf := h.few
  have HG := Lib.hid h
  clear h
  go_enter Tryd.func55, Tryd.ntmps55
  go_wp2
  go_loopw [8] (fun i wr => ∃ k : Nat, k ≤ ts.length ∧ i = .int .i64 k ∧ Hid (∀ t ∈ ts.take k, RightT t) ∧ Hid (Below w.heap.size w wr)) (fun i _ => ts.length - (intOf i).toNat)
  case atStart => exact ⟨0, Nat.zero_le _, rfl, Lib.hid (by simp), Lib.hid (Below.refl _ _)⟩
  case round =>
    obtain ⟨k, hk, rfl, HA, HB⟩ := hrel
    by_cases hlt : k < ts.length
    · obtain ⟨t, ht⟩ : ∃ t, ts[k]? = some t := ⟨_, List.getElem?_eq_getElem hlt⟩
      obtain ⟨b, off, Ak, ck, rfl, hbS, hg, c0, c1⟩ := (HG.out.below HB.out).at_ k t ht
      have HO := Lib.hid (ofr_g hg)
      have HT := Lib.hid ht
      clear hg ht
      by_cases hr : RightT t
      · rw [decide_eq_true hr] at HO
        have hall : ∀ x ∈ ts.take (k + 1), RightT x := by
          intro x hx
          rw [List.take_add_one, HT.out] at hx
          rcases List.mem_append.1 hx with hx | hx
          · exact HA.out x hx
          · simp at hx; subst hx; exact hr
        have HALL := Lib.hid hall
        clear hall hr
        go_wp2_with (go_at_call 50; refine HO.out.mono ?_; rintro e w1 ⟨rfl, hb1⟩)
        go_roundw
        case rel => exact ⟨k + 1, by omega, by go_num, HALL, Lib.hid (HB.out.trans (hb1.mono HB.out.size))⟩
        case measure => simp [intOf]; omega
      · rw [decide_eq_false hr] at HO
        have HEX := Lib.hid (show ∃ x ∈ ts, ¬ RightT x from ⟨t, List.mem_of_getElem? HT.out, hr⟩)
        clear hr
        go_wp2_with (go_at_call 50; refine HO.out.mono ?_; rintro e w1 ⟨rfl, hb1⟩)
        go_ret
        exact ⟨⟨_, rfl, ⟨fun _ => HEX.out, fun _ => by omega⟩⟩, HB.out.trans (hb1.mono HB.out.size)⟩
    · have hke : ts.take k = ts := List.take_of_length_le (by omega)
      have HNO := Lib.hid (show ¬ ∃ x ∈ ts, ¬ RightT x from fun ⟨x, hx, hn⟩ => hn (HA.out x (by rw [hke]; exact hx)))
      clear hke
      go_wp2
      go_ret
      exact ⟨⟨_, rfl, ⟨fun h => by omega, fun h => absurd h HNO.out⟩⟩, HB.out⟩
theorem containsf_g {ts : List Tr} {v : Value} {S : Nat → Prop} {w : World} (h : GivenL ts v S w) :
    Calls Tryd.prog 49 #[v, .func (.func 50) #[] #[]] w fun e w' => e = .returned (.bool (decide (∃ t ∈ ts, ¬ RightT t))) ∧ Below w.heap.size w w' := by
  have HI := Lib.hid (indexf_g h)
  obtain ⟨X, hX⟩ : ∃ X, X = decide (∃ t ∈ ts, ¬ RightT t) := ⟨_, rfl⟩
  have hX2 : ∀ r : Int, (0 ≤ r ↔ ∃ t ∈ ts, ¬ RightT t) → decide (r ≥ 0) = X := fun r hr => by rw [hX]; exact decide_eq_decide.2 hr
  have HX := Lib.hid hX
  have HX2 := Lib.hid hX2
  clear h hX hX2
  go_enter Tryd.func49, Tryd.ntmps49
  go_wp2_with (go_at_call 55; refine HI.out.mono ?_; rintro e w' ⟨⟨r, rfl, hr⟩, hb⟩; have hx := HX2.out r hr; have HXR := Lib.hid hx; clear hr hx)
  go_ret
  exact ⟨by rw [← HX.out, ← HXR.out]; rfl, hb⟩

/-- What Of tells. -/
structure IsOf (d : Dt) (ts : List Tr) (x : Tr) (is : Bool) : Prop where
  yes : fits d ts.length = true → (∀ t ∈ ts, RightT t) → is = true ∧ x = flatT (.node d (ts.map treeOf))
  no : ¬ (fits d ts.length = true ∧ ∀ t ∈ ts, RightT t) → is = false ∧ x = zeroT
structure OfRel (d : Dt) (ts : List Tr) (B : Nat) (w : World) (j : Nat) (vo kv : Value) (wr : World) : Prop where
  out : OwnNodes wr 34 (B + 2) (fun b => kv.ownBlock ≠ some b) vo (flatsAt 0 ((ts.take j).map treeOf))
  kids : wr.ownsRow (B + 2) 3 1 kv j ((ends 0 ((ts.take j).map treeOf)).map (Value.int .i64))
  apart : vo.ownBlock = none ∨ vo.ownBlock ≠ kv.ownBlock
  box : Blk wr B 34 #[.int .u8 d.kind, .int .u64 d.s0, .int .u64 d.s1, .int .u64 d.s2, .int .u64 d.s3, .string ⟨d.text.toArray⟩, .int .i64 d.min, .int .i64 d.max, kv]
  cell : Blk wr (B + 1) 24 #[.slice none 0 0, .int .i64 0]
  below : Below B w wr
theorem sizes_take_le (ts : List Tr) (hr : ∀ t ∈ ts, RightT t) (j : Nat) : sizes ((ts.take j).map treeOf) ≤ (ts.map (·.nodes.length)).sum := by
  induction ts generalizing j with
  | nil => simp [sizes]
  | cons t ts ih =>
    cases j with
    | zero => simp [sizes]
    | succ j =>
      have h1 := (hr t (by simp)).size
      have h2 := ih (fun x hx => hr x (by simp [hx])) j
      simp only [List.take_succ_cons, List.map_cons, sizes, List.sum_cons, h1]
      omega
/-- What a round does to the relation. -/
theorem of_round {d : Dt} {ts : List Tr} {B j : Nat} {w wr w1 w2 : World} {vo kv u v2 : Value} {t : Tr} {o : Obj} (h : OfRel d ts B w j vo kv wr) (hB : B = w.heap.size) (ht : ts[j]? = some t)
    (ho : OwnNodes w1 34 (B + 2) (fun b => kv.ownBlock ≠ some b ∨ (wr.alloc o).heap.size ≤ b) u (flatsAt 0 ((ts.take j).map treeOf) ++ flatAt (flatsAt 0 ((ts.take j).map treeOf)).length (treeOf t)))
    (hg : (wr.alloc o).grownBy w1 vo.ownBlock) (hat : u.ownBlock = vo.ownBlock ∨ ∀ g, u.ownBlock = some g → (wr.alloc o).heap.size ≤ g)
    (hk : w2.ownsRow (B + 2) 3 1 v2 (j + 1) ((ends 0 ((ts.take j).map treeOf)).map (Value.int .i64) ++ [.int .i64 (((sizes ((ts.take j).map treeOf) + (treeOf t).size : Nat) : Int) - 1)]))
    (hg2 : w1.grownBy w2 kv.ownBlock) (hat2 : v2.ownBlock = kv.ownBlock ∨ v2.ownBlock = some (w1.heap.size + 1)) :
    OfRel d ts B w (j + 1) u v2 (w2.setCell ⟨B, 8, none⟩ v2) := by
  have hs0 : (wr.alloc o).heap.size = wr.heap.size + 1 := by simp
  have hg1 : wr.grownBy w1 vo.ownBlock := grown_of_alloc hg
  have s1 := hg1.size
  have s2 := hg2.size
  have e1 : (ts.take (j + 1)).map treeOf = (ts.take j).map treeOf ++ [treeOf t] := by rw [List.take_add_one, ht]; simp
  have hf : flatsAt 0 ((ts.take (j + 1)).map treeOf) = flatsAt 0 ((ts.take j).map treeOf) ++ flatAt (flatsAt 0 ((ts.take j).map treeOf)).length (treeOf t) := by
    rw [e1, flatsAt_append, Nat.zero_add, flatsAt_length]
    simp [flatsAt]
  have he : (ends 0 ((ts.take (j + 1)).map treeOf)).map (Value.int .i64) = (ends 0 ((ts.take j).map treeOf)).map (Value.int .i64) ++ [.int .i64 (((sizes ((ts.take j).map treeOf) + (treeOf t).size : Nat) : Int) - 1)] := by
    rw [e1, ends_append, List.map_append, Nat.zero_add]
    simp [ends]
  have hkl : ∀ g, kv.ownBlock = some g → B + 2 ≤ g ∧ g < wr.heap.size := fun g e => own_blk_lt h.kids e
  have hvl : ∀ g, vo.ownBlock = some g → B + 2 ≤ g := fun g e => by
    obtain ⟨kvs, hk⟩ := h.out
    exact (own_blk_lt hk.row e).1
  have hul : ∀ g, u.ownBlock = some g → B + 2 ≤ g ∧ g < w1.heap.size := fun g e => by
    obtain ⟨kvs, hk⟩ := ho
    exact own_blk_lt hk.row e
  have hbw := h.below.size
  have hcell := h.cell.lt
  have hap1 : u.ownBlock = none ∨ u.ownBlock ≠ kv.ownBlock := by
    cases hu : u.ownBlock with
    | none => exact .inl rfl
    | some g =>
      refine .inr fun e2 => ?_
      have h2 := hkl g e2.symm
      rcases hat with e | e
      · rcases h.apart with h3 | h3
        · rw [← e, hu] at h3; cases h3
        · exact h3 (by rw [← e, hu, e2])
      · have h1 := e g hu
        omega
  have hap2 : u.ownBlock = none ∨ u.ownBlock ≠ v2.ownBlock := by
    rcases hat2 with e | e
    · rw [e]; exact hap1
    · cases hu : u.ownBlock with
      | none => exact .inl rfl
      | some g =>
        refine .inr fun e2 => ?_
        rw [e] at e2
        injection e2 with e2
        have := hul g hu
        omega
  have o1 : OwnNodes w1 34 (B + 2) (fun b => kv.ownBlock ≠ some b ∧ v2.ownBlock ≠ some b) u (flatsAt 0 ((ts.take (j + 1)).map treeOf)) := by
    rw [hf]
    refine ho.weaken fun b _ hb hx => ?_
    have hk1 : kv.ownBlock ≠ some b := by
      rcases hx with hx | hx
      · exact hx
      · intro e; have := hkl b e; omega
    refine ⟨hk1, fun e => ?_⟩
    rcases hat2 with e1 | e1
    · exact hk1 (e1 ▸ e)
    · rw [e1] at e; injection e with e; omega
  have o2 := (o1.frame hg2 hap1 (fun g e hx => hx.1 e)).weaken (Y := fun b => v2.ownBlock ≠ some b) (fun _ _ _ hx => hx.2)
  have hbox2 : Blk w2 B 34 #[.int .u8 d.kind, .int .u64 d.s0, .int .u64 d.s1, .int .u64 d.s2, .int .u64 d.s3, .string ⟨d.text.toArray⟩, .int .i64 d.min, .int .i64 d.max, kv] :=
    (h.box.grown hg1 (fun e => by have := hvl B e.symm; omega)).grown hg2 (fun e => by have := hkl B e.symm; omega)
  have hcell2 : Blk w2 (B + 1) 24 #[.slice none 0 0, .int .i64 0] :=
    (h.cell.grown hg1 (fun e => by have := hvl (B + 1) e.symm; omega)).grown hg2 (fun e => by have := hkl (B + 1) e.symm; omega)
  have hb2 : Below B w w2 := (h.below.trans (below_of_grown hg1 (by omega) (fun g e => by have := hvl g e; omega))).trans (below_of_grown hg2 (by omega) (fun g e => by have := hkl g e; omega))
  refine ⟨o2.low (grown_set1 w2 B 8 v2) (by omega), ?_, hap2, ?_, ?_, ?_⟩
  · rw [he]
    refine hk.kept (grown_set1 w2 B 8 v2) ?_
    cases hv : v2.ownBlock with
    | none => exact .inl rfl
    | some g =>
      refine .inr fun e => ?_
      injection e with e
      have := (own_blk_lt hk hv).1
      omega
  · have := hbox2.set_ 8 v2
    simpa only [List.setIfInBounds_toArray, List.set_cons_zero, List.set_cons_succ] using this
  · exact hcell2.far (by simp) _
  · exact hb2.setCell (by simp) _

set_option maxHeartbeats 2000000 in
theorem of_g {N : Nd} {kv0 : Value} (hd : N.d.Ok) {ts : List Tr} {v : Value} {S : Nat → Prop} {w : World} (h : GivenL ts v S w) (hsum : (ts.map (·.nodes.length)).sum ≤ 500000) :
    Calls Tryd.prog 19 #[.agg (nodeCells N kv0).toArray, v] w fun e w' => ∃ u x is, e = .returned (.tuple #[u, .bool is]) ∧ OwnTree w' w.heap.size u x ∧ IsOf N.d ts x is ∧ Below w.heap.size w w' := by
  have HF := Lib.hid (fun (wx : World) (hx : Below w.heap.size w wx) => fits_any N hd kv0 (ts.length : Int) wx (h.tab.below hx))
  have HC := Lib.hid (fun (wx : World) (hx : Below w.heap.size w wx) => containsf_g (h.below hx))
  have HG := Lib.hid h
  obtain ⟨A, c, rfl, hc, hs, _⟩ := h.read.at_
  have hfew := h.few
  have HDO := Lib.hid hd
  clear h hd
  simp only [nodeCells] at HF ⊢
  by_cases hfit : fits N.d ts.length = true
  · rw [hfit] at HF
    by_cases hall : ∀ t ∈ ts, RightT t
    · rw [decide_eq_false (by simpa using hall)] at HC
      have HALL := Lib.hid hall
      have HFIT := Lib.hid hfit
      have HSUM := Lib.hid hsum
      clear hall hfit hsum
      go_enter Tryd.func19, Tryd.ntmps19
      go_wp2_with (first
        | (go_at_call 23
           refine (HF.out _ (((Below.refl _ _).alloc (Nat.le_refl _) _).alloc (by simp) _)).mono ?_
           rintro e w1 ⟨rfl, hb1⟩
           have hb01 : Below w.heap.size w w1 := (((Below.refl _ _).alloc (Nat.le_refl _) _).alloc (by simp) _).trans (hb1.mono (by simp <;> omega))
           have HB1 : Hid (Blk w1 w.heap.size 34 #[.int .u8 N.d.kind, .int .u64 N.d.s0, .int .u64 N.d.s1, .int .u64 N.d.s2, .int .u64 N.d.s3, .string ⟨N.d.text.toArray⟩, .int .i64 N.d.min, .int .i64 N.d.max, kv0]) := Lib.hid (((Blk.new w _ _).alloc _).below hb1 (by simp <;> omega))
           have HC1 : Hid (Blk w1 (w.heap.size + 1) 24 #[.slice none 0 0, .int .i64 0]) := Lib.hid ((Blk.new1 w _ _ _).below hb1 (by simp))
           clear hb1)
        | (go_at_call 49
           refine (HC.out _ hb01).mono ?_
           rintro e w2 ⟨rfl, hb2⟩
           have hb02 : Below w.heap.size w w2 := hb01.trans (hb2.mono hb01.size)
           have HB2 : Hid (Blk w2 w.heap.size 34 #[.int .u8 N.d.kind, .int .u64 N.d.s0, .int .u64 N.d.s1, .int .u64 N.d.s2, .int .u64 N.d.s3, .string ⟨N.d.text.toArray⟩, .int .i64 N.d.min, .int .i64 N.d.max, kv0]) := Lib.hid (HB1.out.below hb2 HB1.out.lt)
           have HC2 : Hid (Blk w2 (w.heap.size + 1) 24 #[.slice none 0 0, .int .i64 0]) := Lib.hid (HC1.out.below hb2 HC1.out.lt)
           have e8 : w2.cell? ⟨w.heap.size, 8, none⟩ = some kv0 := HB2.out.cell 8
           have f8 := HB2.out.frozen 8
           clear hb2)
        | fail)
      go_loopw [6, 22] (fun vo i wr => ∃ j : Nat, j ≤ ts.length ∧ i = .int .i64 j ∧ ∃ (Ao : Option Addr) (n co : Nat) (Av : Option Addr) (cv : Nat), vo = .slice Ao n co ∧ Hid (n = sizes ((ts.take j).map treeOf)) ∧
        Hid (OfRel N.d ts w.heap.size w j (.slice Ao n co) (.slice Av j cv) wr)) (fun _ i _ => ts.length - (intOf i).toNat)
      case atStart =>
        refine ⟨0, Nat.zero_le _, rfl, none, 0, 0, none, 0, rfl, Lib.hid (by simp [sizes]), Lib.hid ⟨?_, World.ownsRow_nil _ _ _ _, .inl rfl, ?_, HC2.out.far (by simp) _, hb02.setCell (by simp) _⟩⟩
        · exact ⟨_, OwnNK.nil_ _ _ _ _⟩
        · have := HB2.out.set_ 8 (.slice none 0 0)
          simpa only [List.setIfInBounds_toArray, List.set_cons_zero, List.set_cons_succ] using this
      case round =>
        obtain ⟨j, hj, rfl, Ao, n, co, Av, cv, rfl, HN, HR⟩ := hrel
        by_cases hlt : j < ts.length
        · obtain ⟨t, ht⟩ : ∃ t, ts[j]? = some t := ⟨_, List.getElem?_eq_getElem hlt⟩
          obtain ⟨b, off, Ak, ck, rfl, hbS, hg, c0, c1⟩ := (HG.out.below HR.out.below).at_ j t ht
          have hrt := HALL.out t (List.mem_of_getElem? ht)
          have hn1 := sizes_take_le ts HALL.out j
          have hn2 := sizes_take_le ts HALL.out (j + 1)
          have hsm := HSUM.out
          obtain ⟨sz, hsz⟩ : ∃ sz, sz = (treeOf t).size := ⟨_, rfl⟩
          have hszp : 0 < sz := hsz ▸ (treeOf t).size_pos
          have hn3 : n + sz ≤ 500000 := by
            rw [List.take_add_one, ht, List.map_append, sizes_append] at hn2
            simp only [Option.toList_some, List.map_cons, List.map_nil, sizes] at hn2
            have := HN.out
            omega
          have hBs := HR.out.box.lt
          have hB1s := HR.out.cell.lt
          have HP := Lib.hid (fun (o : Obj) => put_g (hg.below ((Below.refl _ _).alloc (Nat.le_refl _) o)) hrt t.root hrt.shape.pos hrt.shape.root_lt (.slice Ao n co) (flatsAt 0 ((ts.take j).map treeOf)) (w.heap.size + 2) (by simp; omega) (fun b => (Value.slice Av j cv).ownBlock ≠ some b)
            (HR.out.out.below ((Below.refl _ _).alloc (Nat.le_refl _) o))
            (fun b hb e => by
              obtain ⟨kvs, hk⟩ := HR.out.out
              have := (own_blk_lt hk.row e).1
              have := HG.out.old b hb
              omega) (by rw [flatsAt_length]; omega))
          have HT := Lib.hid ht
          have HSZ := Lib.hid hsz
          clear hg ht hrt hn1 hn2 hsm hsz
          obtain ⟨i0, hi0, hz0, hz1, hz2⟩ := info_parts int_info
          go_wp2_with (first
            | (go_at_call 44
               refine (HP.out _).mono ?_
               rintro e w3 ⟨u, rfl, ho3, hg3, hat3⟩
               obtain ⟨Au, cu, rfl, hlenu⟩ : ∃ Au cu, u = .slice Au (n + sz) cu ∧ True := by
                 obtain ⟨kvs, hk⟩ := ho3
                 obtain ⟨Au, cu, hu, _⟩ := own_slice hk.row
                 refine ⟨Au, cu, ?_, trivial⟩
                 rw [hu, List.length_append, flatsAt_length, flatAt_length, HN.out, HSZ.out]; rfl
               have hg31 : wr.grownBy w3 (Value.slice Ao n co).ownBlock := grown_of_alloc hg3
               have hK3 : w3.ownsRow (w.heap.size + 2) 3 1 (.slice Av j cv) j ((ends 0 ((ts.take j).map treeOf)).map (Value.int .i64)) := HR.out.kids.kept hg31 (by
                 rcases HR.out.apart with e | e
                 · rw [e]; cases (Value.slice Av j cv).ownBlock <;> simp
                 · exact .inr fun e2 => e e2.symm)
               have hB3 : Blk w3 w.heap.size 34 #[.int .u8 N.d.kind, .int .u64 N.d.s0, .int .u64 N.d.s1, .int .u64 N.d.s2, .int .u64 N.d.s3, .string ⟨N.d.text.toArray⟩, .int .i64 N.d.min, .int .i64 N.d.max, .slice Av j cv] := HR.out.box.grown hg31 (fun e => by
                 obtain ⟨kvs, hk⟩ := HR.out.out
                 have := (own_blk_lt hk.row e.symm).1
                 omega)
               have e8 : w3.cell? ⟨w.heap.size, 8, none⟩ = some (.slice Av j cv) := hB3.cell 8
               have hs3 := hg31.size
               have HB3 := Lib.hid hB3
               have HK3 := Lib.hid hK3
               have HO3 := Lib.hid ho3
               have HG3 := Lib.hid hg3
               have HAT3 := Lib.hid hat3
               clear ho3 hg3 hat3 hg31 hK3 hB3 hlenu)
            | (at_builtin
               go_loud (refine wpList_append1 w3 rfl (.tmp 32) (.tmp 36) _ rfl (w.heap.size + 2) 3 i0 _ 1 8 Tryd.underlying27 hi0 hz0 hz1 hz2 rfl (by omega) (.slice Av j cv) j ((ends 0 ((ts.take j).map treeOf)).map (Value.int .i64)) rfl HK3.out [_] rfl rfl (by simp [Value.oneCell']) (by unfold maxLen; omega) (by omega) (by omega) ?_)
               intro v4 w4 hown4 hg4 hat4
               obtain ⟨A4, c4, rfl, _, _, _⟩ := own_slice hown4
               have hB4 := HB3.out.grown hg4 (fun e => by
                 have := (own_blk_lt HK3.out e.symm).1
                 omega)
               have e8 : w4.cell? ⟨w.heap.size, 8, none⟩ = some (.slice Av j cv) := hB4.cell 8
               have f8 := hB4.frozen 8
               have HOW4 := Lib.hid hown4
               have HG4 := Lib.hid hg4
               have HAT4 := Lib.hid hat4
               clear hown4 hg4 hat4 hB4)
            | fail)
          go_roundw
          case measure => simp [intOf]; omega
          case rel =>
            have e1 : ((n : Int) + (sz : Int) - 1) = (((sizes ((ts.take j).map treeOf) + (treeOf t).size : Nat) : Int) - 1) := by rw [← HN.out, ← HSZ.out]; omega
            have h4 := HOW4.out
            rw [e1] at h4
            refine ⟨j + 1, by omega, by go_num, Au, n + sz, cu, A4, c4, rfl, Lib.hid ?_, Lib.hid (of_round HR.out rfl HT.out HO3.out HG3.out HAT3.out h4 HG4.out HAT4.out)⟩
            rw [List.take_add_one, HT.out, List.map_append, sizes_append, ← HN.out]
            simp only [Option.toList_some, List.map_cons, List.map_nil, sizes]
            rw [← HSZ.out]
            rfl
        · have hje : j = ts.length := by omega
          subst hje
          have htk : ts.take ts.length = ts := List.take_length
          have hrel := HR.out
          rw [htk] at HN
          obtain ⟨kvs, hk⟩ := hrel.out
          have hnl : (flatsAt 0 ((ts.take ts.length).map treeOf)).length = n := by rw [flatsAt_length, htk, HN.out]
          have hrow := hk.row
          rw [hnl] at hrow
          have hn1 := sizes_take_le ts HALL.out ts.length
          rw [htk, ← HN.out] at hn1
          have hsm := HSUM.out
          have hn5 : n ≤ 500000 := by omega
          obtain ⟨d0, d1, d2, d3, d4, d5, d6, d7, d8⟩ := hrel.box.nine
          have hBs := hrel.box.lt
          have hB1s := hrel.cell.lt
          have HRW := Lib.hid hrow
          have HK := Lib.hid hk
          have HNL := Lib.hid hnl
          have HTK := Lib.hid htk
          obtain ⟨i1, hi1, hy0, hy1, hy2⟩ := info_parts node_info
          clear hrel hk hrow hn1 hsm hnl htk
          go_wp2_with (first
            | (at_builtin
               go_loud (refine wpList_append1 wr rfl (.tmp 40) (.tmp 42) _ rfl (w.heap.size + 2) 34 i1 _ 9 96 Tryd.underlying22 hi1 hy0 hy1 hy2 rfl (by omega) (.slice Ao n co) n (nodesCells (flatsAt 0 ((ts.take ts.length).map treeOf)) kvs) rfl HRW.out [_, _, _, _, _, _, _, _, _] rfl rfl (by simp [Value.oneCell']) (by unfold maxLen; omega) (by omega) (by omega) ?_)
               intro v5 w5 hown5 hg5 hat5
               obtain ⟨A5, c5, rfl, _, _, _⟩ := own_slice hown5
               have hvl : ∀ g, (Value.slice Ao n co).ownBlock = some g → w.heap.size + 2 ≤ g := fun g e => (own_blk_lt HRW.out e).1
               have hC5 : Blk w5 (w.heap.size + 1) 24 #[.slice none 0 0, .int .i64 0] := HR.out.cell.grown hg5 (fun e => by have := hvl _ e.symm; omega)
               have e0 : w5.cell? ⟨w.heap.size + 1, 0, none⟩ = some (.slice none 0 0) := hC5.cell 0
               have e1 : w5.cell? ⟨w.heap.size + 1, 1, none⟩ = some (.int .i64 0) := hC5.cell 1
               have f0 := hC5.frozen 0
               have f1 := hC5.frozen 1
               have hb5 : Below w.heap.size w w5 := HR.out.below.trans (below_of_grown hg5 HR.out.below.size (fun g e => by have := hvl g e; omega))
               have HC5 := Lib.hid hC5
               have HOW5 := Lib.hid hown5
               have HG5 := Lib.hid hg5
               have HAT5 := Lib.hid hat5
               have HB5 := Lib.hid hb5
               clear hown5 hg5 hat5 hC5 hvl hb5)
            | fail)
          have hpush := (HK.out.weaken (Y := fun _ => True) (fun _ _ _ _ => trivial)).push (n := ⟨N.d, ends 0 ((ts.take ts.length).map treeOf)⟩) (kv := .slice Av ts.length cv) (w' := w5) (v' := .slice A5 (n + 1) c5) ?_ HDO.out (by rw [HNL.out]; exact HOW5.out) HG5.out ?_
          · obtain ⟨w6, hw6⟩ : ∃ w6, w6 = (w5.setCell ⟨w.heap.size + 1, 0, none⟩ (.slice A5 (n + 1) c5)).setCell ⟨w.heap.size + 1, 1, none⟩ (.int .i64 (n : Int)) := ⟨_, rfl⟩
            have hO6 : OwnTree w6 w.heap.size (.agg #[.slice A5 (n + 1) c5, .int .i64 (n : Int)]) (flatT (.node N.d (ts.map treeOf))) := by
              have hx : flatT (.node N.d (ts.map treeOf)) = ⟨flatsAt 0 ((ts.take ts.length).map treeOf) ++ [⟨N.d, ends 0 ((ts.take ts.length).map treeOf)⟩], (n : Int)⟩ := by
                rw [HTK.out, flatT]
                simp only [flatAt, T.size, Tr.mk.injEq, true_and]
                rw [← HN.out]; omega
              rw [hx]
              refine ⟨.slice A5 (n + 1) c5, rfl, ?_⟩
              rw [hw6]
              exact OwnNodes.base_ (OwnNodes.low ⟨_, hpush⟩ (grown_set2 _ _ 0 1 _ _) (by omega)) (by omega)
            have hB6 : Blk w6 (w.heap.size + 1) 24 #[.slice A5 (n + 1) c5, .int .i64 (n : Int)] := by
              rw [hw6]; exact HC5.out.set2 (.slice A5 (n + 1) c5) (.int .i64 (n : Int))
            have hb6 : Below w.heap.size w w6 := by
              rw [hw6]; exact (HB5.out.setCell (by simp) _).setCell (by simp) _
            rw [← hw6]
            refine bodyPost_ret (results_cell2 rfl _ _ (w.heap.size + 1) _ _ _ rfl hB6 Tryd.underlying24 rfl tree_size) rfl ?_
            exact ⟨_, _, _, rfl, hO6, ⟨fun _ _ => ⟨rfl, rfl⟩, fun hno => absurd ⟨HFIT.out, HALL.out⟩ hno⟩, hb6⟩
          · have hkk := HR.out.kids
            have hl : (ends 0 ((ts.take ts.length).map treeOf)).length = ts.length := by simp
            refine RInts.of_own (ks := ends 0 ((ts.take ts.length).map treeOf)) (by rw [hl]; exact hkk) (fun g hg => ?_)
            have h1 := own_blk_lt hkk hg
            refine ⟨h1.1, h1.2, fun e => ?_, trivial, own_soft hkk hg⟩
            rcases HR.out.apart with h2 | h2
            · rw [e] at h2; cases h2
            · exact h2 (by rw [e, hg])
          · rcases HAT5.out with e | e
            · exact .inl e
            · exact .inr fun g hg => by rw [e] at hg; injection hg; omega
    · rw [decide_eq_true (by simpa using hall)] at HC
      have HIN := Lib.hid (show ¬ (fits N.d ts.length = true ∧ ∀ t ∈ ts, RightT t) from fun h => hall h.2)
      clear hall hfit
      go_enter Tryd.func19, Tryd.ntmps19
      go_wp2_with (first
        | (go_at_call 23
           refine (HF.out _ (((Below.refl _ _).alloc (Nat.le_refl _) _).alloc (by simp) _)).mono ?_
           rintro e w1 ⟨rfl, hb1⟩
           have hb01 : Below w.heap.size w w1 := (((Below.refl _ _).alloc (Nat.le_refl _) _).alloc (by simp) _).trans (hb1.mono (by simp <;> omega))
           have hC1 : Blk w1 (w.heap.size + 1) 24 #[.slice none 0 0, .int .i64 0] := (Blk.new1 w _ _ _).below hb1 (by simp)
           have HC1 := Lib.hid hC1
           clear hb1 hC1)
        | (go_at_call 49
           refine (HC.out _ hb01).mono ?_
           rintro e w2 ⟨rfl, hb2⟩
           have hb0 : Below w.heap.size w w2 := hb01.trans (hb2.mono hb01.size)
           have hC2 : Blk w2 (w.heap.size + 1) 24 #[.slice none 0 0, .int .i64 0] := HC1.out.below hb2 HC1.out.lt
           have e0 : w2.cell? ⟨w.heap.size + 1, 0, none⟩ = some (.slice none 0 0) := hC2.cell 0
           have e1 : w2.cell? ⟨w.heap.size + 1, 1, none⟩ = some (.int .i64 0) := hC2.cell 1
           have f0 := hC2.frozen 0
           have f1 := hC2.frozen 1
           clear hb2
           have HC2 := Lib.hid hC2
           clear hC2)
        | fail)
      obtain ⟨w3, hw3⟩ : ∃ w3, w3 = (w2.setCell ⟨w.heap.size + 1, 0, none⟩ (.slice none 0 0)).setCell ⟨w.heap.size + 1, 1, none⟩ (.int .i64 0) := ⟨_, rfl⟩
      have hB3 : Blk w3 (w.heap.size + 1) 24 #[.slice none 0 0, .int .i64 0] := by
        rw [hw3]; exact HC2.out.set2 (.slice none 0 0) (.int .i64 0)
      have hb3 : Below w.heap.size w w3 := by
        rw [hw3]
        exact (hb0.setCell (by simp) _).setCell (by simp) _
      rw [← hw3]
      refine bodyPost_ret (results_cell2 rfl _ _ (w.heap.size + 1) _ _ _ rfl hB3 Tryd.underlying24 rfl tree_size) rfl ?_
      exact ⟨_, _, _, rfl, OwnTree.zero _ _, ⟨fun a b => absurd ⟨a, b⟩ HIN.out, fun _ => ⟨rfl, rfl⟩⟩, hb3⟩
  · have HIN := Lib.hid (show ¬ (fits N.d ts.length = true ∧ ∀ t ∈ ts, RightT t) from fun h => hfit h.1)
    rw [Bool.eq_false_iff.2 hfit] at HF
    clear hfit
    · go_enter Tryd.func19, Tryd.ntmps19
      go_wp2_with (first
        | (go_at_call 23
           refine (HF.out _ (((Below.refl _ _).alloc (Nat.le_refl _) _).alloc (by simp) _)).mono ?_
           rintro e w1 ⟨rfl, hb1⟩
           have hb01 : Below w.heap.size w w1 := (((Below.refl _ _).alloc (Nat.le_refl _) _).alloc (by simp) _).trans (hb1.mono (by simp <;> omega))
           have hC1 : Blk w1 (w.heap.size + 1) 24 #[.slice none 0 0, .int .i64 0] := (Blk.new1 w _ _ _).below hb1 (by simp)
           have HC1 := Lib.hid hC1
           have e0 : w1.cell? ⟨w.heap.size + 1, 0, none⟩ = some (.slice none 0 0) := hC1.cell 0
           have e1 : w1.cell? ⟨w.heap.size + 1, 1, none⟩ = some (.int .i64 0) := hC1.cell 1
           have f0 := hC1.frozen 0
           have f1 := hC1.frozen 1
           have hb0 := hb01
           clear hb1 hC1)
        | fail)
      obtain ⟨w3, hw3⟩ : ∃ w3, w3 = (w1.setCell ⟨w.heap.size + 1, 0, none⟩ (.slice none 0 0)).setCell ⟨w.heap.size + 1, 1, none⟩ (.int .i64 0) := ⟨_, rfl⟩
      have hB3 : Blk w3 (w.heap.size + 1) 24 #[.slice none 0 0, .int .i64 0] := by
        rw [hw3]; exact HC1.out.set2 (.slice none 0 0) (.int .i64 0)
      have hb3 : Below w.heap.size w w3 := by
        rw [hw3]
        exact (hb0.setCell (by simp) _).setCell (by simp) _
      rw [← hw3]
      refine bodyPost_ret (results_cell2 rfl _ _ (w.heap.size + 1) _ _ _ rfl hB3 Tryd.underlying24 rfl tree_size) rfl ?_
      exact ⟨_, _, _, rfl, OwnTree.zero _ _, ⟨fun a b => absurd ⟨a, b⟩ HIN.out, fun _ => ⟨rfl, rfl⟩⟩, hb3⟩
end Go.Proofs.YtlmlbdmbgfclkaaDoor

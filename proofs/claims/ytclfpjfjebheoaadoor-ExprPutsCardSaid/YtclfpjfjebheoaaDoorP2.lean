/- The parts of a proof, merged: TrX TrE TrF TrL TrG TrK TOpen TLaid Ex1 RegInv RegInv2 Boxes TrB Trees BoxT BoxG Two TTelW -/
import Derived.Test.YtclfpjfjebheoaaDoorP1
import Derived.BigQuiet
import Derived.Deep.QuietTactic
import Derived.Deep.RegionHeld3
import Derived.Deep.CutBlock
import Derived.Deep.Cut
import Derived.Deep.Slices
import Derived.Deep.Fields
import Derived.ChangeSame
import Derived.Test.YtclfpjfjebheoaaDoorRows
import Derived.OpenShut
import Derived.RegionTactic
import Derived.WalkKit
import Derived.Below
import Derived.BigRegion
/- The contracts of slices.ContainsFunc (is one not right?) and tree.Of. -/
namespace Go.Proofs.YtclfpjfjebheoaaDoor
open Go.RowKit
open Classical

/-- Conditions on a list of trees that is handed in. -/
structure GivenL (ts : List Tr) (v : Value) (S : Nat → Prop) (w : World) : Prop where
  read : RTrees w S v ts
  old : ∀ b, S b → b < w.heap.size
  tab : KTab w
  small : ∀ t ∈ ts, t.nodes.length ≤ 500000
  few : ts.length ≤ 500000
theorem GivenL.below {ts : List Tr} {v : Value} {S : Nat → Prop} {w w' : World} (h : GivenL ts v S w) (hb : Below w.heap.size w w') : GivenL ts v S w' :=
  ⟨h.read.below hb h.old, fun b hs => Nat.lt_of_lt_of_le (h.old b hs) hb.size, h.tab.below hb, h.small, h.few⟩
theorem GivenL.at_ {ts : List Tr} {A : Option Addr} {n c : Nat} {S : Nat → Prop} {w : World} (h : GivenL ts (.slice A n c) S w) (j : Nat) (t : Tr) (hj : ts[j]? = some t) :
    ∃ b off Ak ck, A = some ⟨b, off, none⟩ ∧ S b ∧ Given t (.agg #[.slice Ak t.nodes.length ck, .int .i64 t.root]) S w ∧ w.cell? ⟨b, off + j * 2, none⟩ = some (.slice Ak t.nodes.length ck) ∧ w.cell? ⟨b, off + j * 2 + 1, none⟩ = some (.int .i64 t.root) := by
  obtain ⟨A', c', hv, _, _, hr⟩ := h.read.at_
  injection hv with h1 h2 h3
  subst h1
  have hjl : j < ts.length := (List.getElem?_eq_some_iff.1 hj).1
  obtain ⟨b, off, rfl, hS, hc⟩ := hr (by omega)
  obtain ⟨nv, hn, hrt, c0, c1⟩ := hc j t hj
  obtain ⟨Ak, ck, rfl, _, _, _⟩ := hn.at_
  exact ⟨b, off, Ak, ck, rfl, hS, ⟨⟨_, rfl, hn, hrt⟩, h.old, h.tab, h.small t (List.mem_of_getElem? hj)⟩, c0, c1⟩

set_option maxHeartbeats 1000000 in
theorem ofr_g {t : Tr} {v : Value} {S : Nat → Prop} {w : World} (h : Given t v S w) :
    Calls Tryd.prog 90 #[v] w fun e w' => e = .returned (.bool (!decide (RightT t))) ∧ Below w.heap.size w w' := by
  have HR := Lib.hid (fun wx (hx : Below w.heap.size w wx) => right_g (h.below hx))
  obtain ⟨nv, rfl, hns, hr1, hr2⟩ := h.read
  clear h
  go_enter Tryd.func90, Tryd.ntmps90
  go_wp2_with (go_at_call 16; refine (HR.out _ ((Below.refl _ _).alloc (Nat.le_refl _) _)).mono ?_; rintro e w1 ⟨rfl, hb1⟩)
  go_ret
  exact ⟨rfl, ((Below.refl _ _).alloc (Nat.le_refl _) _).trans (hb1.mono (by simp <;> omega))⟩

set_option maxHeartbeats 1000000 in
theorem indexf_g {ts : List Tr} {v : Value} {S : Nat → Prop} {w : World} (h : GivenL ts v S w) :
    Calls Tryd.prog 81 #[v, .func (.func 90) #[] #[]] w fun e w' => (∃ r : Int, e = .returned (.int .i64 r) ∧ (0 ≤ r ↔ ∃ t ∈ ts, ¬ RightT t)) ∧ Below w.heap.size w w' := by
  obtain ⟨A, c, rfl, hc, hs, _⟩ := h.read.at_
  have hf := h.few
  have HG := Lib.hid h
  clear h
  go_enter Tryd.func81, Tryd.ntmps81
  go_wp2
  go_loopw [8] (fun i wr => ∃ k : Nat, k ≤ ts.length ∧ i = .int .i64 k ∧ Hid (∀ t ∈ ts.take k, RightT t) ∧ Hid (Below w.heap.size w wr)) (fun i _ => ts.length - (intOf i).toNat)
  case atStart => exact ⟨0, Nat.zero_le _, rfl, Lib.hid (by simp), Lib.hid (Below.refl _ _)⟩
  case round =>
    obtain ⟨k, hk, rfl, HA, HB⟩ := hrel
    by_cases hlt : k < ts.length
    · obtain ⟨t, ht⟩ : ∃ t, ts[k]? = some t := ⟨_, List.getElem?_eq_getElem hlt⟩
      obtain ⟨b, off, Ak, ck, rfl, hbS, hg, c0, c1⟩ := (HG.out.below HB.out).at_ k t ht
      have HO := Lib.hid (ofr_g hg)
      have HT := Lib.hid ht
      clear hg ht
      by_cases hr : RightT t
      · rw [decide_eq_true hr] at HO
        have hall : ∀ x ∈ ts.take (k + 1), RightT x := by
          intro x hx
          rw [List.take_add_one, HT.out] at hx
          rcases List.mem_append.1 hx with hx | hx
          · exact HA.out x hx
          · simp at hx; subst hx; exact hr
        have HALL := Lib.hid hall
        clear hall hr
        go_wp2_with (go_at_call 90; refine HO.out.mono ?_; rintro e w1 ⟨rfl, hb1⟩)
        go_roundw
        case rel => exact ⟨k + 1, by omega, by go_num, HALL, Lib.hid (HB.out.trans (hb1.mono HB.out.size))⟩
        case measure => simp [intOf]; omega
      · rw [decide_eq_false hr] at HO
        have HEX := Lib.hid (show ∃ x ∈ ts, ¬ RightT x from ⟨t, List.mem_of_getElem? HT.out, hr⟩)
        clear hr
        go_wp2_with (go_at_call 90; refine HO.out.mono ?_; rintro e w1 ⟨rfl, hb1⟩)
        go_ret
        exact ⟨⟨_, rfl, ⟨fun _ => HEX.out, fun _ => by omega⟩⟩, HB.out.trans (hb1.mono HB.out.size)⟩
    · have hke : ts.take k = ts := List.take_of_length_le (by omega)
      have HNO := Lib.hid (show ¬ ∃ x ∈ ts, ¬ RightT x from fun ⟨x, hx, hn⟩ => hn (HA.out x (by rw [hke]; exact hx)))
      clear hke
      go_wp2
      go_ret
      exact ⟨⟨_, rfl, ⟨fun h => by omega, fun h => absurd h HNO.out⟩⟩, HB.out⟩
theorem containsf_g {ts : List Tr} {v : Value} {S : Nat → Prop} {w : World} (h : GivenL ts v S w) :
    Calls Tryd.prog 89 #[v, .func (.func 90) #[] #[]] w fun e w' => e = .returned (.bool (decide (∃ t ∈ ts, ¬ RightT t))) ∧ Below w.heap.size w w' := by
  have HI := Lib.hid (indexf_g h)
  obtain ⟨X, hX⟩ : ∃ X, X = decide (∃ t ∈ ts, ¬ RightT t) := ⟨_, rfl⟩
  have hX2 : ∀ r : Int, (0 ≤ r ↔ ∃ t ∈ ts, ¬ RightT t) → decide (r ≥ 0) = X := fun r hr => by rw [hX]; exact decide_eq_decide.2 hr
  have HX := Lib.hid hX
  have HX2 := Lib.hid hX2
  clear h hX hX2
  go_enter Tryd.func89, Tryd.ntmps89
  go_wp2_with (go_at_call 81; refine HI.out.mono ?_; rintro e w' ⟨⟨r, rfl, hr⟩, hb⟩; have hx := HX2.out r hr; have HXR := Lib.hid hx; clear hr hx)
  go_ret
  exact ⟨by rw [← HX.out, ← HXR.out]; rfl, hb⟩

/-- What Of tells. -/
structure IsOf (d : Dt) (ts : List Tr) (x : Tr) (is : Bool) : Prop where
  yes : fits d ts.length = true → (∀ t ∈ ts, RightT t) → is = true ∧ x = flatT (.node d (ts.map treeOf))
  no : ¬ (fits d ts.length = true ∧ ∀ t ∈ ts, RightT t) → is = false ∧ x = zeroT
structure OfRel (d : Dt) (ts : List Tr) (B : Nat) (w : World) (j : Nat) (vo kv : Value) (wr : World) : Prop where
  out : OwnNodes wr 65 (B + 2) (fun b => kv.ownBlock ≠ some b) vo (flatsAt 0 ((ts.take j).map treeOf))
  kids : wr.ownsRow (B + 2) 3 1 kv j ((ends 0 ((ts.take j).map treeOf)).map (Value.int .i64))
  apart : vo.ownBlock = none ∨ vo.ownBlock ≠ kv.ownBlock
  box : Blk wr B 65 #[.int .u8 d.kind, .int .u64 d.s0, .int .u64 d.s1, .int .u64 d.s2, .int .u64 d.s3, .string ⟨d.text.toArray⟩, .int .i64 d.min, .int .i64 d.max, kv]
  cell : Blk wr (B + 1) 34 #[.slice none 0 0, .int .i64 0]
  below : Below B w wr
theorem sizes_take_le (ts : List Tr) (hr : ∀ t ∈ ts, RightT t) (j : Nat) : sizes ((ts.take j).map treeOf) ≤ (ts.map (·.nodes.length)).sum := by
  induction ts generalizing j with
  | nil => simp [sizes]
  | cons t ts ih =>
    cases j with
    | zero => simp [sizes]
    | succ j =>
      have h1 := (hr t (by simp)).size
      have h2 := ih (fun x hx => hr x (by simp [hx])) j
      simp only [List.take_succ_cons, List.map_cons, sizes, List.sum_cons, h1]
      omega
/-- What a round does to the relation. -/
theorem of_round {d : Dt} {ts : List Tr} {B j : Nat} {w wr w1 w2 : World} {vo kv u v2 : Value} {t : Tr} {o : Obj} (h : OfRel d ts B w j vo kv wr) (hB : B = w.heap.size) (ht : ts[j]? = some t)
    (ho : OwnNodes w1 65 (B + 2) (fun b => kv.ownBlock ≠ some b ∨ (wr.alloc o).heap.size ≤ b) u (flatsAt 0 ((ts.take j).map treeOf) ++ flatAt (flatsAt 0 ((ts.take j).map treeOf)).length (treeOf t)))
    (hg : (wr.alloc o).grownBy w1 vo.ownBlock) (hat : u.ownBlock = vo.ownBlock ∨ ∀ g, u.ownBlock = some g → (wr.alloc o).heap.size ≤ g)
    (hk : w2.ownsRow (B + 2) 3 1 v2 (j + 1) ((ends 0 ((ts.take j).map treeOf)).map (Value.int .i64) ++ [.int .i64 (((sizes ((ts.take j).map treeOf) + (treeOf t).size : Nat) : Int) - 1)]))
    (hg2 : w1.grownBy w2 kv.ownBlock) (hat2 : v2.ownBlock = kv.ownBlock ∨ v2.ownBlock = some (w1.heap.size + 1)) :
    OfRel d ts B w (j + 1) u v2 (w2.setCell ⟨B, 8, none⟩ v2) := by
  have hs0 : (wr.alloc o).heap.size = wr.heap.size + 1 := by simp
  have hg1 : wr.grownBy w1 vo.ownBlock := grown_of_alloc hg
  have s1 := hg1.size
  have s2 := hg2.size
  have e1 : (ts.take (j + 1)).map treeOf = (ts.take j).map treeOf ++ [treeOf t] := by rw [List.take_add_one, ht]; simp
  have hf : flatsAt 0 ((ts.take (j + 1)).map treeOf) = flatsAt 0 ((ts.take j).map treeOf) ++ flatAt (flatsAt 0 ((ts.take j).map treeOf)).length (treeOf t) := by
    rw [e1, flatsAt_append, Nat.zero_add, flatsAt_length]
    simp [flatsAt]
  have he : (ends 0 ((ts.take (j + 1)).map treeOf)).map (Value.int .i64) = (ends 0 ((ts.take j).map treeOf)).map (Value.int .i64) ++ [.int .i64 (((sizes ((ts.take j).map treeOf) + (treeOf t).size : Nat) : Int) - 1)] := by
    rw [e1, ends_append, List.map_append, Nat.zero_add]
    simp [ends]
  have hkl : ∀ g, kv.ownBlock = some g → B + 2 ≤ g ∧ g < wr.heap.size := fun g e => own_blk_lt h.kids e
  have hvl : ∀ g, vo.ownBlock = some g → B + 2 ≤ g := fun g e => by
    obtain ⟨kvs, hk⟩ := h.out
    exact (own_blk_lt hk.row e).1
  have hul : ∀ g, u.ownBlock = some g → B + 2 ≤ g ∧ g < w1.heap.size := fun g e => by
    obtain ⟨kvs, hk⟩ := ho
    exact own_blk_lt hk.row e
  have hbw := h.below.size
  have hcell := h.cell.lt
  have hap1 : u.ownBlock = none ∨ u.ownBlock ≠ kv.ownBlock := by
    cases hu : u.ownBlock with
    | none => exact .inl rfl
    | some g =>
      refine .inr fun e2 => ?_
      have h2 := hkl g e2.symm
      rcases hat with e | e
      · rcases h.apart with h3 | h3
        · rw [← e, hu] at h3; cases h3
        · exact h3 (by rw [← e, hu, e2])
      · have h1 := e g hu
        omega
  have hap2 : u.ownBlock = none ∨ u.ownBlock ≠ v2.ownBlock := by
    rcases hat2 with e | e
    · rw [e]; exact hap1
    · cases hu : u.ownBlock with
      | none => exact .inl rfl
      | some g =>
        refine .inr fun e2 => ?_
        rw [e] at e2
        injection e2 with e2
        have := hul g hu
        omega
  have o1 : OwnNodes w1 65 (B + 2) (fun b => kv.ownBlock ≠ some b ∧ v2.ownBlock ≠ some b) u (flatsAt 0 ((ts.take (j + 1)).map treeOf)) := by
    rw [hf]
    refine ho.weaken fun b _ hb hx => ?_
    have hk1 : kv.ownBlock ≠ some b := by
      rcases hx with hx | hx
      · exact hx
      · intro e; have := hkl b e; omega
    refine ⟨hk1, fun e => ?_⟩
    rcases hat2 with e1 | e1
    · exact hk1 (e1 ▸ e)
    · rw [e1] at e; injection e with e; omega
  have o2 := (o1.frame hg2 hap1 (fun g e hx => hx.1 e)).weaken (Y := fun b => v2.ownBlock ≠ some b) (fun _ _ _ hx => hx.2)
  have hbox2 : Blk w2 B 65 #[.int .u8 d.kind, .int .u64 d.s0, .int .u64 d.s1, .int .u64 d.s2, .int .u64 d.s3, .string ⟨d.text.toArray⟩, .int .i64 d.min, .int .i64 d.max, kv] :=
    (h.box.grown hg1 (fun e => by have := hvl B e.symm; omega)).grown hg2 (fun e => by have := hkl B e.symm; omega)
  have hcell2 : Blk w2 (B + 1) 34 #[.slice none 0 0, .int .i64 0] :=
    (h.cell.grown hg1 (fun e => by have := hvl (B + 1) e.symm; omega)).grown hg2 (fun e => by have := hkl (B + 1) e.symm; omega)
  have hb2 : Below B w w2 := (h.below.trans (below_of_grown hg1 (by omega) (fun g e => by have := hvl g e; omega))).trans (below_of_grown hg2 (by omega) (fun g e => by have := hkl g e; omega))
  refine ⟨o2.low (grown_set1 w2 B 8 v2) (by omega), ?_, hap2, ?_, ?_, ?_⟩
  · rw [he]
    refine hk.kept (grown_set1 w2 B 8 v2) ?_
    cases hv : v2.ownBlock with
    | none => exact .inl rfl
    | some g =>
      refine .inr fun e => ?_
      injection e with e
      have := (own_blk_lt hk hv).1
      omega
  · have := hbox2.set_ 8 v2
    simpa only [List.setIfInBounds_toArray, List.set_cons_zero, List.set_cons_succ] using this
  · exact hcell2.far (by simp) _
  · exact hb2.setCell (by simp) _

set_option maxHeartbeats 2000000 in
theorem of_g {N : Nd} {kv0 : Value} (hd : N.d.Ok) {ts : List Tr} {v : Value} {S : Nat → Prop} {w : World} (h : GivenL ts v S w) (hsum : (ts.map (·.nodes.length)).sum ≤ 500000) :
    Calls Tryd.prog 78 #[.agg (nodeCells N kv0).toArray, v] w fun e w' => ∃ u x is, e = .returned (.tuple #[u, .bool is]) ∧ OwnTree w' w.heap.size u x ∧ IsOf N.d ts x is ∧ Below w.heap.size w w' := by
  have HF := Lib.hid (fun (wx : World) (hx : Below w.heap.size w wx) => fits_any N hd kv0 (ts.length : Int) wx (h.tab.below hx))
  have HC := Lib.hid (fun (wx : World) (hx : Below w.heap.size w wx) => containsf_g (h.below hx))
  have HG := Lib.hid h
  obtain ⟨A, c, rfl, hc, hs, _⟩ := h.read.at_
  have hfew := h.few
  have HDO := Lib.hid hd
  clear h hd
  simp only [nodeCells] at HF ⊢
  by_cases hfit : fits N.d ts.length = true
  · rw [hfit] at HF
    by_cases hall : ∀ t ∈ ts, RightT t
    · rw [decide_eq_false (by simpa using hall)] at HC
      have HALL := Lib.hid hall
      have HFIT := Lib.hid hfit
      have HSUM := Lib.hid hsum
      clear hall hfit hsum
      go_enter Tryd.func78, Tryd.ntmps78
      go_wp2_with (first
        | (go_at_call 53
           refine (HF.out _ (((Below.refl _ _).alloc (Nat.le_refl _) _).alloc (by simp) _)).mono ?_
           rintro e w1 ⟨rfl, hb1⟩
           have hb01 : Below w.heap.size w w1 := (((Below.refl _ _).alloc (Nat.le_refl _) _).alloc (by simp) _).trans (hb1.mono (by simp <;> omega))
           have HB1 : Hid (Blk w1 w.heap.size 65 #[.int .u8 N.d.kind, .int .u64 N.d.s0, .int .u64 N.d.s1, .int .u64 N.d.s2, .int .u64 N.d.s3, .string ⟨N.d.text.toArray⟩, .int .i64 N.d.min, .int .i64 N.d.max, kv0]) := Lib.hid (((Blk.new w _ _).alloc _).below hb1 (by simp <;> omega))
           have HC1 : Hid (Blk w1 (w.heap.size + 1) 34 #[.slice none 0 0, .int .i64 0]) := Lib.hid ((Blk.new1 w _ _ _).below hb1 (by simp))
           clear hb1)
        | (go_at_call 89
           refine (HC.out _ hb01).mono ?_
           rintro e w2 ⟨rfl, hb2⟩
           have hb02 : Below w.heap.size w w2 := hb01.trans (hb2.mono hb01.size)
           have HB2 : Hid (Blk w2 w.heap.size 65 #[.int .u8 N.d.kind, .int .u64 N.d.s0, .int .u64 N.d.s1, .int .u64 N.d.s2, .int .u64 N.d.s3, .string ⟨N.d.text.toArray⟩, .int .i64 N.d.min, .int .i64 N.d.max, kv0]) := Lib.hid (HB1.out.below hb2 HB1.out.lt)
           have HC2 : Hid (Blk w2 (w.heap.size + 1) 34 #[.slice none 0 0, .int .i64 0]) := Lib.hid (HC1.out.below hb2 HC1.out.lt)
           have e8 : w2.cell? ⟨w.heap.size, 8, none⟩ = some kv0 := HB2.out.cell 8
           have f8 := HB2.out.frozen 8
           clear hb2)
        | fail)
      go_loopw [6, 22] (fun vo i wr => ∃ j : Nat, j ≤ ts.length ∧ i = .int .i64 j ∧ ∃ (Ao : Option Addr) (n co : Nat) (Av : Option Addr) (cv : Nat), vo = .slice Ao n co ∧ Hid (n = sizes ((ts.take j).map treeOf)) ∧
        Hid (OfRel N.d ts w.heap.size w j (.slice Ao n co) (.slice Av j cv) wr)) (fun _ i _ => ts.length - (intOf i).toNat)
      case atStart =>
        refine ⟨0, Nat.zero_le _, rfl, none, 0, 0, none, 0, rfl, Lib.hid (by simp [sizes]), Lib.hid ⟨?_, World.ownsRow_nil _ _ _ _, .inl rfl, ?_, HC2.out.far (by simp) _, hb02.setCell (by simp) _⟩⟩
        · exact ⟨_, OwnNK.nil_ _ _ _ _⟩
        · have := HB2.out.set_ 8 (.slice none 0 0)
          simpa only [List.setIfInBounds_toArray, List.set_cons_zero, List.set_cons_succ] using this
      case round =>
        obtain ⟨j, hj, rfl, Ao, n, co, Av, cv, rfl, HN, HR⟩ := hrel
        by_cases hlt : j < ts.length
        · obtain ⟨t, ht⟩ : ∃ t, ts[j]? = some t := ⟨_, List.getElem?_eq_getElem hlt⟩
          obtain ⟨b, off, Ak, ck, rfl, hbS, hg, c0, c1⟩ := (HG.out.below HR.out.below).at_ j t ht
          have hrt := HALL.out t (List.mem_of_getElem? ht)
          have hn1 := sizes_take_le ts HALL.out j
          have hn2 := sizes_take_le ts HALL.out (j + 1)
          have hsm := HSUM.out
          obtain ⟨sz, hsz⟩ : ∃ sz, sz = (treeOf t).size := ⟨_, rfl⟩
          have hszp : 0 < sz := hsz ▸ (treeOf t).size_pos
          have hn3 : n + sz ≤ 500000 := by
            rw [List.take_add_one, ht, List.map_append, sizes_append] at hn2
            simp only [Option.toList_some, List.map_cons, List.map_nil, sizes] at hn2
            have := HN.out
            omega
          have hBs := HR.out.box.lt
          have hB1s := HR.out.cell.lt
          have HP := Lib.hid (fun (o : Obj) => put_g (hg.below ((Below.refl _ _).alloc (Nat.le_refl _) o)) hrt t.root hrt.shape.pos hrt.shape.root_lt (.slice Ao n co) (flatsAt 0 ((ts.take j).map treeOf)) (w.heap.size + 2) (by simp; omega) (fun b => (Value.slice Av j cv).ownBlock ≠ some b)
            (HR.out.out.below ((Below.refl _ _).alloc (Nat.le_refl _) o))
            (fun b hb e => by
              obtain ⟨kvs, hk⟩ := HR.out.out
              have := (own_blk_lt hk.row e).1
              have := HG.out.old b hb
              omega) (by rw [flatsAt_length]; omega))
          have HT := Lib.hid ht
          have HSZ := Lib.hid hsz
          clear hg ht hrt hn1 hn2 hsm hsz
          obtain ⟨i0, hi0, hz0, hz1, hz2⟩ := info_parts int_info
          go_wp2_with (first
            | (go_at_call 68
               refine (HP.out _).mono ?_
               rintro e w3 ⟨u, rfl, ho3, hg3, hat3⟩
               obtain ⟨Au, cu, rfl, hlenu⟩ : ∃ Au cu, u = .slice Au (n + sz) cu ∧ True := by
                 obtain ⟨kvs, hk⟩ := ho3
                 obtain ⟨Au, cu, hu, _⟩ := own_slice hk.row
                 refine ⟨Au, cu, ?_, trivial⟩
                 rw [hu, List.length_append, flatsAt_length, flatAt_length, HN.out, HSZ.out]; rfl
               have hg31 : wr.grownBy w3 (Value.slice Ao n co).ownBlock := grown_of_alloc hg3
               have hK3 : w3.ownsRow (w.heap.size + 2) 3 1 (.slice Av j cv) j ((ends 0 ((ts.take j).map treeOf)).map (Value.int .i64)) := HR.out.kids.kept hg31 (by
                 rcases HR.out.apart with e | e
                 · rw [e]; cases (Value.slice Av j cv).ownBlock <;> simp
                 · exact .inr fun e2 => e e2.symm)
               have hB3 : Blk w3 w.heap.size 65 #[.int .u8 N.d.kind, .int .u64 N.d.s0, .int .u64 N.d.s1, .int .u64 N.d.s2, .int .u64 N.d.s3, .string ⟨N.d.text.toArray⟩, .int .i64 N.d.min, .int .i64 N.d.max, .slice Av j cv] := HR.out.box.grown hg31 (fun e => by
                 obtain ⟨kvs, hk⟩ := HR.out.out
                 have := (own_blk_lt hk.row e.symm).1
                 omega)
               have e8 : w3.cell? ⟨w.heap.size, 8, none⟩ = some (.slice Av j cv) := hB3.cell 8
               have hs3 := hg31.size
               have HB3 := Lib.hid hB3
               have HK3 := Lib.hid hK3
               have HO3 := Lib.hid ho3
               have HG3 := Lib.hid hg3
               have HAT3 := Lib.hid hat3
               clear ho3 hg3 hat3 hg31 hK3 hB3 hlenu)
            | (at_builtin
               go_loud (refine wpList_append1 w3 rfl (.tmp 32) (.tmp 36) _ rfl (w.heap.size + 2) 3 i0 _ 1 8 Tryd.underlying63 hi0 hz0 hz1 hz2 rfl (by omega) (.slice Av j cv) j ((ends 0 ((ts.take j).map treeOf)).map (Value.int .i64)) rfl HK3.out [_] rfl rfl (by simp [Value.oneCell']) (by unfold maxLen; omega) (by omega) (by omega) ?_)
               intro v4 w4 hown4 hg4 hat4
               obtain ⟨A4, c4, rfl, _, _, _⟩ := own_slice hown4
               have hB4 := HB3.out.grown hg4 (fun e => by
                 have := (own_blk_lt HK3.out e.symm).1
                 omega)
               have e8 : w4.cell? ⟨w.heap.size, 8, none⟩ = some (.slice Av j cv) := hB4.cell 8
               have f8 := hB4.frozen 8
               have HOW4 := Lib.hid hown4
               have HG4 := Lib.hid hg4
               have HAT4 := Lib.hid hat4
               clear hown4 hg4 hat4 hB4)
            | fail)
          go_roundw
          case measure => simp [intOf]; omega
          case rel =>
            have e1 : ((n : Int) + (sz : Int) - 1) = (((sizes ((ts.take j).map treeOf) + (treeOf t).size : Nat) : Int) - 1) := by rw [← HN.out, ← HSZ.out]; omega
            have h4 := HOW4.out
            rw [e1] at h4
            refine ⟨j + 1, by omega, by go_num, Au, n + sz, cu, A4, c4, rfl, Lib.hid ?_, Lib.hid (of_round HR.out rfl HT.out HO3.out HG3.out HAT3.out h4 HG4.out HAT4.out)⟩
            rw [List.take_add_one, HT.out, List.map_append, sizes_append, ← HN.out]
            simp only [Option.toList_some, List.map_cons, List.map_nil, sizes]
            rw [← HSZ.out]
            rfl
        · have hje : j = ts.length := by omega
          subst hje
          have htk : ts.take ts.length = ts := List.take_length
          have hrel := HR.out
          rw [htk] at HN
          obtain ⟨kvs, hk⟩ := hrel.out
          have hnl : (flatsAt 0 ((ts.take ts.length).map treeOf)).length = n := by rw [flatsAt_length, htk, HN.out]
          have hrow := hk.row
          rw [hnl] at hrow
          have hn1 := sizes_take_le ts HALL.out ts.length
          rw [htk, ← HN.out] at hn1
          have hsm := HSUM.out
          have hn5 : n ≤ 500000 := by omega
          obtain ⟨d0, d1, d2, d3, d4, d5, d6, d7, d8⟩ := hrel.box.nine
          have hBs := hrel.box.lt
          have hB1s := hrel.cell.lt
          have HRW := Lib.hid hrow
          have HK := Lib.hid hk
          have HNL := Lib.hid hnl
          have HTK := Lib.hid htk
          obtain ⟨i1, hi1, hy0, hy1, hy2⟩ := info_parts node_info
          clear hrel hk hrow hn1 hsm hnl htk
          go_wp2_with (first
            | (at_builtin
               go_loud (refine wpList_append1 wr rfl (.tmp 40) (.tmp 42) _ rfl (w.heap.size + 2) 65 i1 _ 9 96 Tryd.underlying32 hi1 hy0 hy1 hy2 rfl (by omega) (.slice Ao n co) n (nodesCells (flatsAt 0 ((ts.take ts.length).map treeOf)) kvs) rfl HRW.out [_, _, _, _, _, _, _, _, _] rfl rfl (by simp [Value.oneCell']) (by unfold maxLen; omega) (by omega) (by omega) ?_)
               intro v5 w5 hown5 hg5 hat5
               obtain ⟨A5, c5, rfl, _, _, _⟩ := own_slice hown5
               have hvl : ∀ g, (Value.slice Ao n co).ownBlock = some g → w.heap.size + 2 ≤ g := fun g e => (own_blk_lt HRW.out e).1
               have hC5 : Blk w5 (w.heap.size + 1) 34 #[.slice none 0 0, .int .i64 0] := HR.out.cell.grown hg5 (fun e => by have := hvl _ e.symm; omega)
               have e0 : w5.cell? ⟨w.heap.size + 1, 0, none⟩ = some (.slice none 0 0) := hC5.cell 0
               have e1 : w5.cell? ⟨w.heap.size + 1, 1, none⟩ = some (.int .i64 0) := hC5.cell 1
               have f0 := hC5.frozen 0
               have f1 := hC5.frozen 1
               have hb5 : Below w.heap.size w w5 := HR.out.below.trans (below_of_grown hg5 HR.out.below.size (fun g e => by have := hvl g e; omega))
               have HC5 := Lib.hid hC5
               have HOW5 := Lib.hid hown5
               have HG5 := Lib.hid hg5
               have HAT5 := Lib.hid hat5
               have HB5 := Lib.hid hb5
               clear hown5 hg5 hat5 hC5 hvl hb5)
            | fail)
          have hpush := (HK.out.weaken (Y := fun _ => True) (fun _ _ _ _ => trivial)).push (n := ⟨N.d, ends 0 ((ts.take ts.length).map treeOf)⟩) (kv := .slice Av ts.length cv) (w' := w5) (v' := .slice A5 (n + 1) c5) ?_ HDO.out (by rw [HNL.out]; exact HOW5.out) HG5.out ?_
          · obtain ⟨w6, hw6⟩ : ∃ w6, w6 = (w5.setCell ⟨w.heap.size + 1, 0, none⟩ (.slice A5 (n + 1) c5)).setCell ⟨w.heap.size + 1, 1, none⟩ (.int .i64 (n : Int)) := ⟨_, rfl⟩
            have hO6 : OwnTree w6 w.heap.size (.agg #[.slice A5 (n + 1) c5, .int .i64 (n : Int)]) (flatT (.node N.d (ts.map treeOf))) := by
              have hx : flatT (.node N.d (ts.map treeOf)) = ⟨flatsAt 0 ((ts.take ts.length).map treeOf) ++ [⟨N.d, ends 0 ((ts.take ts.length).map treeOf)⟩], (n : Int)⟩ := by
                rw [HTK.out, flatT]
                simp only [flatAt, T.size, Tr.mk.injEq, true_and]
                rw [← HN.out]; omega
              rw [hx]
              refine ⟨.slice A5 (n + 1) c5, rfl, ?_⟩
              rw [hw6]
              exact OwnNodes.base_ (OwnNodes.low ⟨_, hpush⟩ (grown_set2 _ _ 0 1 _ _) (by omega)) (by omega)
            have hB6 : Blk w6 (w.heap.size + 1) 34 #[.slice A5 (n + 1) c5, .int .i64 (n : Int)] := by
              rw [hw6]; exact HC5.out.set2 (.slice A5 (n + 1) c5) (.int .i64 (n : Int))
            have hb6 : Below w.heap.size w w6 := by
              rw [hw6]; exact (HB5.out.setCell (by simp) _).setCell (by simp) _
            rw [← hw6]
            refine bodyPost_ret (results_cell2 rfl _ _ (w.heap.size + 1) _ _ _ rfl hB6 Tryd.underlying34 rfl tree_size) rfl ?_
            exact ⟨_, _, _, rfl, hO6, ⟨fun _ _ => ⟨rfl, rfl⟩, fun hno => absurd ⟨HFIT.out, HALL.out⟩ hno⟩, hb6⟩
          · have hkk := HR.out.kids
            have hl : (ends 0 ((ts.take ts.length).map treeOf)).length = ts.length := by simp
            refine RInts.of_own (ks := ends 0 ((ts.take ts.length).map treeOf)) (by rw [hl]; exact hkk) (fun g hg => ?_)
            have h1 := own_blk_lt hkk hg
            refine ⟨h1.1, h1.2, fun e => ?_, trivial, own_soft hkk hg⟩
            rcases HR.out.apart with h2 | h2
            · rw [e] at h2; cases h2
            · exact h2 (by rw [e, hg])
          · rcases HAT5.out with e | e
            · exact .inl e
            · exact .inr fun g hg => by rw [e] at hg; injection hg; omega
    · rw [decide_eq_true (by simpa using hall)] at HC
      have HIN := Lib.hid (show ¬ (fits N.d ts.length = true ∧ ∀ t ∈ ts, RightT t) from fun h => hall h.2)
      clear hall hfit
      go_enter Tryd.func78, Tryd.ntmps78
      go_wp2_with (first
        | (go_at_call 53
           refine (HF.out _ (((Below.refl _ _).alloc (Nat.le_refl _) _).alloc (by simp) _)).mono ?_
           rintro e w1 ⟨rfl, hb1⟩
           have hb01 : Below w.heap.size w w1 := (((Below.refl _ _).alloc (Nat.le_refl _) _).alloc (by simp) _).trans (hb1.mono (by simp <;> omega))
           have hC1 : Blk w1 (w.heap.size + 1) 34 #[.slice none 0 0, .int .i64 0] := (Blk.new1 w _ _ _).below hb1 (by simp)
           have HC1 := Lib.hid hC1
           clear hb1 hC1)
        | (go_at_call 89
           refine (HC.out _ hb01).mono ?_
           rintro e w2 ⟨rfl, hb2⟩
           have hb0 : Below w.heap.size w w2 := hb01.trans (hb2.mono hb01.size)
           have hC2 : Blk w2 (w.heap.size + 1) 34 #[.slice none 0 0, .int .i64 0] := HC1.out.below hb2 HC1.out.lt
           have e0 : w2.cell? ⟨w.heap.size + 1, 0, none⟩ = some (.slice none 0 0) := hC2.cell 0
           have e1 : w2.cell? ⟨w.heap.size + 1, 1, none⟩ = some (.int .i64 0) := hC2.cell 1
           have f0 := hC2.frozen 0
           have f1 := hC2.frozen 1
           clear hb2
           have HC2 := Lib.hid hC2
           clear hC2)
        | fail)
      obtain ⟨w3, hw3⟩ : ∃ w3, w3 = (w2.setCell ⟨w.heap.size + 1, 0, none⟩ (.slice none 0 0)).setCell ⟨w.heap.size + 1, 1, none⟩ (.int .i64 0) := ⟨_, rfl⟩
      have hB3 : Blk w3 (w.heap.size + 1) 34 #[.slice none 0 0, .int .i64 0] := by
        rw [hw3]; exact HC2.out.set2 (.slice none 0 0) (.int .i64 0)
      have hb3 : Below w.heap.size w w3 := by
        rw [hw3]
        exact (hb0.setCell (by simp) _).setCell (by simp) _
      rw [← hw3]
      refine bodyPost_ret (results_cell2 rfl _ _ (w.heap.size + 1) _ _ _ rfl hB3 Tryd.underlying34 rfl tree_size) rfl ?_
      exact ⟨_, _, _, rfl, OwnTree.zero _ _, ⟨fun a b => absurd ⟨a, b⟩ HIN.out, fun _ => ⟨rfl, rfl⟩⟩, hb3⟩
  · have HIN := Lib.hid (show ¬ (fits N.d ts.length = true ∧ ∀ t ∈ ts, RightT t) from fun h => hfit h.1)
    rw [Bool.eq_false_iff.2 hfit] at HF
    clear hfit
    · go_enter Tryd.func78, Tryd.ntmps78
      go_wp2_with (first
        | (go_at_call 53
           refine (HF.out _ (((Below.refl _ _).alloc (Nat.le_refl _) _).alloc (by simp) _)).mono ?_
           rintro e w1 ⟨rfl, hb1⟩
           have hb01 : Below w.heap.size w w1 := (((Below.refl _ _).alloc (Nat.le_refl _) _).alloc (by simp) _).trans (hb1.mono (by simp <;> omega))
           have hC1 : Blk w1 (w.heap.size + 1) 34 #[.slice none 0 0, .int .i64 0] := (Blk.new1 w _ _ _).below hb1 (by simp)
           have HC1 := Lib.hid hC1
           have e0 : w1.cell? ⟨w.heap.size + 1, 0, none⟩ = some (.slice none 0 0) := hC1.cell 0
           have e1 : w1.cell? ⟨w.heap.size + 1, 1, none⟩ = some (.int .i64 0) := hC1.cell 1
           have f0 := hC1.frozen 0
           have f1 := hC1.frozen 1
           have hb0 := hb01
           clear hb1 hC1)
        | fail)
      obtain ⟨w3, hw3⟩ : ∃ w3, w3 = (w1.setCell ⟨w.heap.size + 1, 0, none⟩ (.slice none 0 0)).setCell ⟨w.heap.size + 1, 1, none⟩ (.int .i64 0) := ⟨_, rfl⟩
      have hB3 : Blk w3 (w.heap.size + 1) 34 #[.slice none 0 0, .int .i64 0] := by
        rw [hw3]; exact HC1.out.set2 (.slice none 0 0) (.int .i64 0)
      have hb3 : Below w.heap.size w w3 := by
        rw [hw3]
        exact (hb0.setCell (by simp) _).setCell (by simp) _
      rw [← hw3]
      refine bodyPost_ret (results_cell2 rfl _ _ (w.heap.size + 1) _ _ _ rfl hB3 Tryd.underlying34 rfl tree_size) rfl ?_
      exact ⟨_, _, _, rfl, OwnTree.zero _ _, ⟨fun a b => absurd ⟨a, b⟩ HIN.out, fun _ => ⟨rfl, rfl⟩⟩, hb3⟩
end Go.Proofs.YtclfpjfjebheoaaDoor
/- The contracts of slices.Equal (of numbers), of the comparison of two nodes, of slices.EqualFunc, and of tree.Same. -/
namespace Go.Proofs.YtclfpjfjebheoaaDoor
open Go.RowKit
open Classical

theorem below_drewN_self (w : World) (q : Nat) : Below w.heap.size w (w.drewN q) := below_drewN (Below.refl _ _) q
theorem equal_ints {w : World} {S S' : Nat → Prop} {v v' : Value} {ks ks' : List Int} (h : RInts w S v ks) (h' : RInts w S' v' ks') :
    Calls Tryd.prog 70 #[v, v'] w fun e w' => e = .returned (.bool (decide (ks = ks'))) ∧ Below w.heap.size w w' := by
  obtain ⟨A, c, rfl, hc, hs, hr⟩ := h.at_
  obtain ⟨A', c', rfl, hc', hs', hr'⟩ := h'.at_
  clear h h'
  unfold maxLen at hs hs'
  by_cases hl : ks.length = ks'.length
  · rcases Nat.eq_zero_or_pos ks.length with h0 | h0
    · have e1 : ks = [] := List.eq_nil_of_length_eq_zero h0
      have e2 : ks' = [] := List.eq_nil_of_length_eq_zero (by omega)
      subst e1; subst e2
      refine (Tryd.slices_Equal_int_empty A A' c 0 c' w (by omega)).mono ?_
      rintro e w' ⟨rfl, rfl⟩
      exact ⟨by simp, Below.refl _ _⟩
    · obtain ⟨b, o, rfl, _, hcell⟩ := hr h0
      obtain ⟨b', o', rfl, _, hcell'⟩ := hr' (by omega)
      refine (Tryd.slices_Equal_int b o ks.length c b' o' ks'.length c' ks ks' w (Nat.le_refl _) (Nat.le_refl _) (by omega) (by omega) (fun j hj => ?_) (fun j hj => ?_)).mono ?_
      · have := hcell j _ (List.getElem?_eq_getElem hj)
        simpa [List.getD, hj] using this
      · have := hcell' j _ (List.getElem?_eq_getElem hj)
        simpa [List.getD, hj] using this
      · rintro e w' ⟨rfl, q, rfl⟩
        refine ⟨?_, below_drewN_self w q⟩
        rw [List.take_length, List.take_length]
        congr 2
        rw [Bool.eq_iff_iff, beq_iff_eq, decide_eq_true_eq]
  · have hne : ks ≠ ks' := fun e => hl (by rw [e])
    have HNE := Lib.hid hne
    have hl2 : ((ks.length : Int) == (ks'.length : Int)) = false := by simp; omega
    clear hne hr hr'
    generalize ks.length = n at *
    generalize ks'.length = m at *
    go_enter Tryd.func70, Tryd.ntmps70
    go_wp2
    go_ret
    exact ⟨ret_bool (by simp [HNE.out]), Below.refl _ _⟩

set_option maxHeartbeats 1000000 in
theorem same1_g {w : World} {S S' : Nat → Prop} {v v' : Value} {x y : Nd} (hx : RNode w S v x) (hy : RNode w S' v' y) (hS : ∀ b, S b → b < w.heap.size) (hS' : ∀ b, S' b → b < w.heap.size) :
    Calls Tryd.prog 69 #[v, v'] w fun e w' => e = .returned (.bool (decide (x = y))) ∧ Below w.heap.size w w' := by
  obtain ⟨kv, rfl, hk, hd⟩ := hx
  obtain ⟨kv', rfl, hk', hd'⟩ := hy
  have HE := Lib.hid (fun wx (hb : Below w.heap.size w wx) => equal_ints (hk.below hb hS) (hk'.below hb hS'))
  obtain ⟨⟨k1, a0, a1, a2, a3, t1, m1, n1⟩, ks1⟩ := x
  obtain ⟨⟨k2, b0, b1, b2, b3, t2, m2, n2⟩, ks2⟩ := y
  clear hk hk' hd hd'
  simp only [nodeCells] at *
  obtain ⟨X, hX⟩ : ∃ X, X = decide (ks1 = ks2) := ⟨_, rfl⟩
  rw [← hX] at HE
  have HX := Lib.hid hX
  clear hX
  go_enter Tryd.func69, Tryd.ntmps69
  go_wp2_with (go_at_call 70; refine (HE.out _ (((Below.refl _ _).alloc (Nat.le_refl _) _).alloc (by simp) _)).mono ?_; rintro e w1 ⟨rfl, hb1⟩)
  all_goals go_ret
  all_goals refine ⟨ret_bool ?_, ?_⟩
  all_goals first
    | exact ((Below.refl _ _).alloc (Nat.le_refl _) _).alloc (by simp) _
    | exact (((Below.refl _ _).alloc (Nat.le_refl _) _).alloc (by simp) _).trans (hb1.mono (by simp <;> omega))
    | (try rw [HX.out]
       clear HX HE
       simp [*]
       done)
    | (rw [eq_comm, decide_eq_false_iff_not]
       simp only [Nd.mk.injEq, Dt.mk.injEq]
       rintro ⟨⟨h1, h2, h3, h4, h5, _⟩, _⟩
       have h6 : a0 = b0 ∧ a1 = b1 ∧ a2 = b2 ∧ a3 = b3 := ⟨h2, h3, h4, h5⟩
       contradiction)

/-- A node of a row: its nine cells as a walk reads them. -/
theorem RNodes.get {w : World} {S : Nat → Prop} {A : Option Addr} {n c : Nat} {ns : List Nd} (h : RNodes w S (.slice A n c) ns) (j : Nat) (x : Nd) (hj : ns[j]? = some x) :
    ∃ b off Ak ck, A = some ⟨b, off, none⟩ ∧ S b ∧ RInts w S (.slice Ak x.kids.length ck) x.kids ∧ x.d.Ok ∧
      w.cell? ⟨b, off + j * 9, none⟩ = some (.int .u8 x.d.kind) ∧ w.cell? ⟨b, off + j * 9 + 1, none⟩ = some (.int .u64 x.d.s0) ∧ w.cell? ⟨b, off + j * 9 + 2, none⟩ = some (.int .u64 x.d.s1) ∧
      w.cell? ⟨b, off + j * 9 + 3, none⟩ = some (.int .u64 x.d.s2) ∧ w.cell? ⟨b, off + j * 9 + 4, none⟩ = some (.int .u64 x.d.s3) ∧ w.cell? ⟨b, off + j * 9 + 5, none⟩ = some (.string ⟨x.d.text.toArray⟩) ∧
      w.cell? ⟨b, off + j * 9 + 6, none⟩ = some (.int .i64 x.d.min) ∧ w.cell? ⟨b, off + j * 9 + 7, none⟩ = some (.int .i64 x.d.max) ∧ w.cell? ⟨b, off + j * 9 + 8, none⟩ = some (.slice Ak x.kids.length ck) := by
  have hjl : j < ns.length := (List.getElem?_eq_some_iff.1 hj).1
  obtain ⟨A', c', hv, _, _, hr⟩ := h.at_
  injection hv with h1 h2 h3
  subst h1; subst h2; subst h3
  obtain ⟨b, off, rfl, hS, _⟩ := hr (by omega)
  obtain ⟨_, Ak, ck, hk, hd, _, hc⟩ := h.known j x hj
  exact ⟨b, off, Ak, ck, rfl, hS, hk, hd, hc 0 _ rfl, hc 1 _ rfl, hc 2 _ rfl, hc 3 _ rfl, hc 4 _ rfl, hc 5 _ rfl, hc 6 _ rfl, hc 7 _ rfl, hc 8 _ rfl⟩
set_option maxHeartbeats 1000000 in
theorem equalf_g {w : World} {S S' : Nat → Prop} {v v' : Value} {xs ys : List Nd} (hx : RNodes w S v xs) (hy : RNodes w S' v' ys) (hS : ∀ b, S b → b < w.heap.size) (hS' : ∀ b, S' b → b < w.heap.size) (hl : xs.length ≤ 1000000) :
    Calls Tryd.prog 67 #[v, v', .func (.func 69) #[] #[]] w fun e w' => e = .returned (.bool (decide (xs = ys))) ∧ Below w.heap.size w w' := by
  obtain ⟨A, c, rfl, hc, hs, hr⟩ := hx.at_
  obtain ⟨A', c', rfl, hc', hs', hr'⟩ := hy.at_
  by_cases hle : xs.length = ys.length
  · have HX := Lib.hid hx
    have HY := Lib.hid hy
    have HLE := Lib.hid hle
    clear hx hy hr hr'
    rw [← hle] at hs' hc'
    rw [← hle]
    clear hle
    go_enter Tryd.func67, Tryd.ntmps67
    go_wp2
    go_loopw [17] (fun i wr => ∃ k : Nat, k ≤ xs.length ∧ i = .int .i64 k ∧ Hid (xs.take k = ys.take k) ∧ Hid (Below w.heap.size w wr)) (fun i _ => xs.length - (intOf i).toNat)
    case atStart => exact ⟨0, Nat.zero_le _, rfl, Lib.hid (by simp), Lib.hid (Below.refl _ _)⟩
    case round =>
      obtain ⟨k, hk, rfl, HA, HB⟩ := hrel
      by_cases hlt : k < xs.length
      · obtain ⟨x, hx⟩ : ∃ x, xs[k]? = some x := ⟨_, List.getElem?_eq_getElem hlt⟩
        obtain ⟨y, hy⟩ : ∃ y, ys[k]? = some y := ⟨_, List.getElem?_eq_getElem (by rw [← HLE.out]; exact hlt)⟩
        obtain ⟨b, off, Ak, ck, rfl, hbS, hki, hdo, c0, c1, c2, c3, c4, c5, c6, c7, c8⟩ := (HX.out.below HB.out hS).get k x hx
        obtain ⟨b', off', Ak', ck', rfl, hbS', hki', hdo', e0, e1, e2, e3, e4, e5, e6, e7, e8⟩ := (HY.out.below HB.out hS').get k y hy
        have hbB := hS b hbS
        have hbB' := hS' b' hbS'
        have hbs := HB.out.size
        have hS2 := fun b hb => Nat.lt_of_lt_of_le (hS b hb) hbs
        have hS2' := fun b hb => Nat.lt_of_lt_of_le (hS' b hb) hbs
        have g0 := fun o : Obj => (World.cell?_alloc_lt wr o ⟨b', off' + k * 9, none⟩ (by show b' < _; omega)).trans e0
        have g1 := fun o : Obj => (World.cell?_alloc_lt wr o ⟨b', off' + k * 9 + 1, none⟩ (by show b' < _; omega)).trans e1
        have g2 := fun o : Obj => (World.cell?_alloc_lt wr o ⟨b', off' + k * 9 + 2, none⟩ (by show b' < _; omega)).trans e2
        have g3 := fun o : Obj => (World.cell?_alloc_lt wr o ⟨b', off' + k * 9 + 3, none⟩ (by show b' < _; omega)).trans e3
        have g4 := fun o : Obj => (World.cell?_alloc_lt wr o ⟨b', off' + k * 9 + 4, none⟩ (by show b' < _; omega)).trans e4
        have g5 := fun o : Obj => (World.cell?_alloc_lt wr o ⟨b', off' + k * 9 + 5, none⟩ (by show b' < _; omega)).trans e5
        have g6 := fun o : Obj => (World.cell?_alloc_lt wr o ⟨b', off' + k * 9 + 6, none⟩ (by show b' < _; omega)).trans e6
        have g7 := fun o : Obj => (World.cell?_alloc_lt wr o ⟨b', off' + k * 9 + 7, none⟩ (by show b' < _; omega)).trans e7
        have g8 := fun o : Obj => (World.cell?_alloc_lt wr o ⟨b', off' + k * 9 + 8, none⟩ (by show b' < _; omega)).trans e8
        have HS := Lib.hid (fun (wx : World) (hx : Below wr.heap.size wr wx) => same1_g (w := wx) ⟨_, rfl, hki.below hx hS2, hdo⟩ ⟨_, rfl, hki'.below hx hS2', hdo'⟩ (fun b hb => Nat.lt_of_lt_of_le (hS2 b hb) hx.size) (fun b hb => Nat.lt_of_lt_of_le (hS2' b hb) hx.size))
        simp only [nodeCells] at HS
        have HXK := Lib.hid hx
        have HYK := Lib.hid hy
        clear hx hy hki hki' hdo hdo' e0 e1 e2 e3 e4 e5 e6 e7 e8
        by_cases hxy : x = y
        · rw [decide_eq_true hxy] at HS
          have htk : xs.take (k + 1) = ys.take (k + 1) := by rw [List.take_add_one, List.take_add_one, HA.out, HXK.out, HYK.out, hxy]
          have HTK := Lib.hid htk
          clear htk hxy
          go_wp2_with (go_at_call 69; refine (HS.out _ (((Below.refl _ _).alloc (Nat.le_refl _) _).alloc (by simp) _)).mono ?_; rintro e w1 ⟨rfl, hb1⟩)
          go_roundw
          case rel => exact ⟨k + 1, by omega, by go_num, HTK, Lib.hid (HB.out.trans (((((Below.refl _ _).alloc (Nat.le_refl _) _).alloc (by simp) _).trans (hb1.mono (by simp <;> omega))).mono HB.out.size))⟩
          case measure => simp [intOf]; omega
        · rw [decide_eq_false hxy] at HS
          have hne : xs ≠ ys := fun e => by
            have h1 := HXK.out
            rw [e, HYK.out] at h1
            injection h1 with h1
            exact hxy h1.symm
          have HNE := Lib.hid hne
          clear hne hxy
          go_wp2_with (go_at_call 69; refine (HS.out _ (((Below.refl _ _).alloc (Nat.le_refl _) _).alloc (by simp) _)).mono ?_; rintro e w1 ⟨rfl, hb1⟩)
          go_ret
          exact ⟨ret_bool (by simp [HNE.out]), HB.out.trans (((((Below.refl _ _).alloc (Nat.le_refl _) _).alloc (by simp) _).trans (hb1.mono (by simp <;> omega))).mono HB.out.size)⟩
      · have heq : xs = ys := by
          have h := HA.out
          rwa [List.take_of_length_le (by omega), List.take_of_length_le (by rw [← HLE.out]; omega)] at h
        have HEQ := Lib.hid heq
        clear heq
        go_wp2
        go_ret
        exact ⟨ret_bool (by simp [HEQ.out]), HB.out⟩
  · have hne : xs ≠ ys := fun e => hle (by rw [e])
    have HNE := Lib.hid hne
    have hl2 : ((xs.length : Int) == (ys.length : Int)) = false := by simp; omega
    clear hne hr hr' hx hy
    generalize xs.length = n at *
    generalize ys.length = m at *
    go_enter Tryd.func67, Tryd.ntmps67
    go_wp2
    go_ret
    exact ⟨ret_bool (by simp [HNE.out]), Below.refl _ _⟩
end Go.Proofs.YtclfpjfjebheoaaDoor
/- The contract of tree.Same. -/
namespace Go.Proofs.YtclfpjfjebheoaaDoor
open Go.RowKit
open Classical
attribute [local irreducible] Calls

theorem OwnNodes.below2 {w wx w' : World} {e : TypeId} {base : Nat} {X : Nat → Prop} {v : Value} {ns : List Nd} (h : OwnNodes w e base X v ns) (hw : wx = w ∨ wx = w.drew) (hb : Below wx.heap.size wx w') : OwnNodes w' e base X v ns := by
  rcases hw with rfl | rfl
  · exact h.below hb
  · have h1 : Below w.heap.size w w.drew := ⟨rfl, rfl, rfl, Nat.le_refl _, fun _ _ => rfl⟩
    exact h.below (h1.trans hb)
theorem OwnNodes.at2 {w wx : World} {e : TypeId} {base : Nat} {X : Nat → Prop} {v : Value} {ns : List Nd} (h : OwnNodes w e base X v ns) (hw : wx = w ∨ wx = w.drew) : OwnNodes wx e base X v ns := by
  rcases hw with rfl | rfl
  · exact h
  · exact h.below ⟨rfl, rfl, rfl, Nat.le_refl _, fun _ _ => rfl⟩
theorem below_drew1 {B : Nat} {a w : World} (h : Below B a w) : Below B a w.drew := ⟨h.os, h.tape, h.output, h.size, h.block⟩
theorem lt_drew {n : Nat} {w : World} (h : n < w.heap.size) : n < w.drew.heap.size := h
theorem OwnNodes.nodes {w : World} {e : TypeId} {base : Nat} {X : Nat → Prop} {v : Value} {ns : List Nd} (h : OwnNodes w e base X v ns) : RNodes w (fun b => b < w.heap.size) v ns := by
  obtain ⟨kvs, hk⟩ := h
  exact hk.nodes fun b _ h _ => h
def SameT (a b : Tr) : Prop := RightT a ∧ RightT b ∧ treeOf a = treeOf b
theorem SameT.len {a b : Tr} (h : SameT a b) : a.nodes.length = b.nodes.length := by rw [← h.1.size, ← h.2.1.size, h.2.2]

set_option maxHeartbeats 4000000 in
theorem Same_g {a b : Tr} {va vb : Value} {S S' : Nat → Prop} {w : World} (ha : Given a va S w) (hb : Given b vb S' w) :
    Calls Tryd.prog 43 #[va, vb] w fun e w' => e = .returned (.bool (decide (SameT a b))) ∧ Below w.heap.size w w' := by
  have HRa := Lib.hid (fun wx (hx : Below w.heap.size w wx) => right_g (ha.below hx))
  have HRb := Lib.hid (fun wx (hx : Below w.heap.size w wx) => right_g (hb.below hx))
  obtain ⟨X, hX⟩ : ∃ X, X = decide (SameT a b) := ⟨_, rfl⟩
  have HX := Lib.hid hX
  have HGa := Lib.hid ha
  have HGb := Lib.hid hb
  obtain ⟨nva, rfl, hna, _⟩ := ha.read
  obtain ⟨nvb, rfl, hnb, _⟩ := hb.read
  obtain ⟨A, c, rfl, _, _, _⟩ := hna.at_
  obtain ⟨A', c', rfl, _, _, _⟩ := hnb.at_
  clear hna hnb ha hb
  obtain ⟨n, hn⟩ : ∃ n, n = a.nodes.length := ⟨_, rfl⟩
  by_cases hl : a.nodes.length = b.nodes.length
  · rw [← hl, ← hn] at HRb HGb
    rw [← hn] at HRa HGa
    rw [← hl, ← hn]
    have HN := Lib.hid hn
    by_cases hra : RightT a
    · rw [decide_eq_true hra] at HRa
      by_cases hrb : RightT b
      · rw [decide_eq_true hrb] at HRb
        have HPa := Lib.hid (fun wx (hx : Below w.heap.size w wx) => put_nil ((show Given a _ S w from HGa.out).below hx) hra a.root hra.shape.pos hra.shape.root_lt wx.heap.size (Nat.le_refl _))
        have HPb := Lib.hid (fun wx (hx : Below w.heap.size w wx) => put_nil ((show Given b _ S' w from HGb.out).below hx) hrb b.root hrb.shape.pos hrb.shape.root_lt wx.heap.size (Nat.le_refl _))
        have hsa := hra.size
        have hsb := hrb.size
        unfold treeOf at hsa hsb
        rw [hsa, ← hn] at HPa
        rw [hsb, ← hl, ← hn] at HPb
        have hla : (flatAt 0 (D a.nodes a.root.toNat)).length ≤ 1000000 := by
          rw [flatAt_length, hsa]
          have := HGa.out.small
          omega
        have HLA := Lib.hid hla
        have hfx : ∀ (Y : Prop) (i : Decidable Y), (Y ↔ flatAt 0 (D a.nodes a.root.toNat) = flatAt 0 (D b.nodes b.root.toNat)) → @decide Y i = X := fun Y i hY => by
          rw [hX]
          refine decide_eq_decide.2 (hY.trans ⟨fun h => ⟨hra, hrb, flat_inj h⟩, fun h => ?_⟩)
          have := h.2.2
          unfold treeOf at this
          rw [this]
        have HFX := Lib.hid hfx
        clear hX hra hrb hn hl hsa hsb hfx hla
        go_enter Tryd.func43, Tryd.ntmps43
        go_wp2_with (first
        | (go_at_call 16
           refine (HRb.out _ hb01).mono ?_
           rintro e w2 ⟨rfl, hb2⟩
           have hb02 : Below w.heap.size w w2 := hb01.trans (hb2.mono hb01.size)
           have hA2 : Blk w2 w.heap.size 34 #[.slice A n c, .int .i64 a.root] := HA1.out.below hb2 HA1.out.lt
           have hB2 : Blk w2 (w.heap.size + 1) 34 #[.slice A' n c', .int .i64 b.root] := HB1.out.below hb2 HB1.out.lt
           have d0 : w2.cell? ⟨w.heap.size, 0, none⟩ = some (.slice A n c) := hA2.cell 0
           have d1 : w2.cell? ⟨w.heap.size, 1, none⟩ = some (.int .i64 a.root) := hA2.cell 1
           have e0 : w2.cell? ⟨w.heap.size + 1, 0, none⟩ = some (.slice A' n c') := hB2.cell 0
           have e1 : w2.cell? ⟨w.heap.size + 1, 1, none⟩ = some (.int .i64 b.root) := hB2.cell 1
           have HA2 := Lib.hid hA2
           have HB2 := Lib.hid hB2
           clear hb2 hA2 hB2)
        | (go_at_call 16
           refine (HRa.out _ (((Below.refl _ _).alloc (Nat.le_refl _) _).alloc (by simp) _)).mono ?_
           rintro e w1 ⟨rfl, hb1⟩
           have hb01 : Below w.heap.size w w1 := (((Below.refl _ _).alloc (Nat.le_refl _) _).alloc (by simp) _).trans (hb1.mono (by simp <;> omega))
           have hA1 : Blk w1 w.heap.size 34 #[.slice A n c, .int .i64 a.root] := ((Blk.new w _ _).alloc _).below hb1 (by simp <;> omega)
           have hB1 : Blk w1 (w.heap.size + 1) 34 #[.slice A' n c', .int .i64 b.root] := (Blk.new1 w _ _ _).below hb1 (by simp)
           have d0 : w1.cell? ⟨w.heap.size, 0, none⟩ = some (.slice A n c) := hA1.cell 0
           have d1 : w1.cell? ⟨w.heap.size, 1, none⟩ = some (.int .i64 a.root) := hA1.cell 1
           have e0 : w1.cell? ⟨w.heap.size + 1, 0, none⟩ = some (.slice A' n c') := hB1.cell 0
           have e1 : w1.cell? ⟨w.heap.size + 1, 1, none⟩ = some (.int .i64 b.root) := hB1.cell 1
           have HA1 := Lib.hid hA1
           have HB1 := Lib.hid hB1
           clear hb1 hA1 hB1)
        | fail)
        have hsz2 : w.heap.size + 1 < w2.heap.size := HB2.out.lt
        go_region_held3 (fun w' => w'.cell? ⟨w.heap.size, 0, none⟩ = some (.slice A n c) ∧ w'.cell? ⟨w.heap.size, 1, none⟩ = some (.int .i64 a.root) ∧ w'.cell? ⟨w.heap.size + 1, 0, none⟩ = some (.slice A' n c') ∧ w'.cell? ⟨w.heap.size + 1, 1, none⟩ = some (.int .i64 b.root))
          (first | go_keep | (go_split_ands; refine ⟨?_, ?_, ?_, ?_⟩ <;> (rw [hput.cell (by first | exact Nat.lt_of_succ_lt (by assumption) | exact Nat.lt_of_succ_lt (lt_drew (by assumption)) | assumption | exact lt_drew (by assumption))]; assumption)))
          (first
            | (go_at_call 68
               refine (HPa.out _ (by first | assumption | exact below_drew1 (by assumption))).mono ?_
               rintro e wp ⟨Aa, ca, rfl, hoa, hput⟩
               have hob2 := OwnNodes.below2 hob (by first | exact .inl rfl | exact .inr rfl) hput
               have hb03 : Below w.heap.size w wp := Below.trans (by first | assumption | exact below_drew1 (by assumption)) (hput.mono (by first | exact Nat.le_of_lt (Nat.lt_of_succ_lt (by assumption)) | exact Nat.le_of_lt (Nat.lt_of_succ_lt (lt_drew (by assumption)))))
               have hsz3 : w.heap.size + 1 < wp.heap.size := Nat.lt_of_lt_of_le (by first | assumption | exact lt_drew (by assumption)) hput.size)
            | (go_at_call 68
               refine (HPb.out _ (by first | assumption | exact below_drew1 (by assumption))).mono ?_
               rintro e wp ⟨Ab, cb, rfl, hob, hput⟩
               have hoa2 := OwnNodes.below2 hoa (by first | exact .inl rfl | exact .inr rfl) hput
               have hb03 : Below w.heap.size w wp := Below.trans (by first | assumption | exact below_drew1 (by assumption)) (hput.mono (by first | exact Nat.le_of_lt (Nat.lt_of_succ_lt (by assumption)) | exact Nat.le_of_lt (Nat.lt_of_succ_lt (lt_drew (by assumption)))))
               have hsz3 : w.heap.size + 1 < wp.heap.size := Nat.lt_of_lt_of_le (by first | assumption | exact lt_drew (by assumption)) hput.size)
            | (go_at_call 68
               refine (HPa.out _ (by first | assumption | exact below_drew1 (by assumption))).mono ?_
               rintro e wp ⟨Aa, ca, rfl, hoa, hput⟩
               have hb03 : Below w.heap.size w wp := Below.trans (by first | assumption | exact below_drew1 (by assumption)) (hput.mono (by first | exact Nat.le_of_lt (Nat.lt_of_succ_lt (by assumption)) | exact Nat.le_of_lt (Nat.lt_of_succ_lt (lt_drew (by assumption)))))
               have hsz3 : w.heap.size + 1 < wp.heap.size := Nat.lt_of_lt_of_le (by first | assumption | exact lt_drew (by assumption)) hput.size)
            | (go_at_call 68
               refine (HPb.out _ (by first | assumption | exact below_drew1 (by assumption))).mono ?_
               rintro e wp ⟨Ab, cb, rfl, hob, hput⟩
               have hb03 : Below w.heap.size w wp := Below.trans (by first | assumption | exact below_drew1 (by assumption)) (hput.mono (by first | exact Nat.le_of_lt (Nat.lt_of_succ_lt (by assumption)) | exact Nat.le_of_lt (Nat.lt_of_succ_lt (lt_drew (by assumption)))))
               have hsz3 : w.heap.size + 1 < wp.heap.size := Nat.lt_of_lt_of_le (by first | assumption | exact lt_drew (by assumption)) hput.size)
            | (go_at_call 67
               refine (equalf_g (OwnNodes.nodes (OwnNodes.at2 hoa (by first | exact .inl rfl | exact .inr rfl))) (OwnNodes.nodes (OwnNodes.at2 hob2 (by first | exact .inl rfl | exact .inr rfl))) (fun _ h => h) (fun _ h => h) HLA.out).mono ?_
               rintro e wq ⟨rfl, hput⟩
               have hb04 : Below w.heap.size w wq := Below.trans (by first | assumption | exact below_drew1 (by assumption)) (hput.mono (by first | exact Nat.le_of_lt (Nat.lt_of_succ_lt (by assumption)) | exact Nat.le_of_lt (Nat.lt_of_succ_lt (lt_drew (by assumption))))))
            | (go_at_call 67
               refine (equalf_g (OwnNodes.nodes (OwnNodes.at2 hoa2 (by first | exact .inl rfl | exact .inr rfl))) (OwnNodes.nodes (OwnNodes.at2 hob (by first | exact .inl rfl | exact .inr rfl))) (fun _ h => h) (fun _ h => h) HLA.out).mono ?_
               rintro e wq ⟨rfl, hput⟩
               have hb04 : Below w.heap.size w wq := Below.trans (by first | assumption | exact below_drew1 (by assumption)) (hput.mono (by first | exact Nat.le_of_lt (Nat.lt_of_succ_lt (by assumption)) | exact Nat.le_of_lt (Nat.lt_of_succ_lt (lt_drew (by assumption))))))
            | fail)
        all_goals go_wp2
        all_goals go_ret
        all_goals exact ⟨by rw [← HX.out, ← HFX.out _ _ Iff.rfl]; rfl, hb04⟩
      · have hf : X = false := by rw [hX]; exact decide_eq_false fun h => hrb h.2.1
        rw [decide_eq_false hrb] at HRb
        have HFX := Lib.hid hf
        clear hX hf hra hrb hn hl
        go_enter Tryd.func43, Tryd.ntmps43
        go_wp2_with (first
        | (go_at_call 16
           refine (HRb.out _ hb01).mono ?_
           rintro e w2 ⟨rfl, hb2⟩
           have hb02 : Below w.heap.size w w2 := hb01.trans (hb2.mono hb01.size)
           have hA2 : Blk w2 w.heap.size 34 #[.slice A n c, .int .i64 a.root] := HA1.out.below hb2 HA1.out.lt
           have hB2 : Blk w2 (w.heap.size + 1) 34 #[.slice A' n c', .int .i64 b.root] := HB1.out.below hb2 HB1.out.lt
           have d0 : w2.cell? ⟨w.heap.size, 0, none⟩ = some (.slice A n c) := hA2.cell 0
           have d1 : w2.cell? ⟨w.heap.size, 1, none⟩ = some (.int .i64 a.root) := hA2.cell 1
           have e0 : w2.cell? ⟨w.heap.size + 1, 0, none⟩ = some (.slice A' n c') := hB2.cell 0
           have e1 : w2.cell? ⟨w.heap.size + 1, 1, none⟩ = some (.int .i64 b.root) := hB2.cell 1
           have HA2 := Lib.hid hA2
           have HB2 := Lib.hid hB2
           clear hb2 hA2 hB2)
        | (go_at_call 16
           refine (HRa.out _ (((Below.refl _ _).alloc (Nat.le_refl _) _).alloc (by simp) _)).mono ?_
           rintro e w1 ⟨rfl, hb1⟩
           have hb01 : Below w.heap.size w w1 := (((Below.refl _ _).alloc (Nat.le_refl _) _).alloc (by simp) _).trans (hb1.mono (by simp <;> omega))
           have hA1 : Blk w1 w.heap.size 34 #[.slice A n c, .int .i64 a.root] := ((Blk.new w _ _).alloc _).below hb1 (by simp <;> omega)
           have hB1 : Blk w1 (w.heap.size + 1) 34 #[.slice A' n c', .int .i64 b.root] := (Blk.new1 w _ _ _).below hb1 (by simp)
           have d0 : w1.cell? ⟨w.heap.size, 0, none⟩ = some (.slice A n c) := hA1.cell 0
           have d1 : w1.cell? ⟨w.heap.size, 1, none⟩ = some (.int .i64 a.root) := hA1.cell 1
           have e0 : w1.cell? ⟨w.heap.size + 1, 0, none⟩ = some (.slice A' n c') := hB1.cell 0
           have e1 : w1.cell? ⟨w.heap.size + 1, 1, none⟩ = some (.int .i64 b.root) := hB1.cell 1
           have HA1 := Lib.hid hA1
           have HB1 := Lib.hid hB1
           clear hb1 hA1 hB1)
        | fail)
        go_ret
        exact ⟨by rw [← HX.out, HFX.out]; rfl, hb02⟩
    · have hf : X = false := by rw [hX]; exact decide_eq_false fun h => hra h.1
      rw [decide_eq_false hra] at HRa
      have HFX := Lib.hid hf
      clear hX hf hra hn hl
      go_enter Tryd.func43, Tryd.ntmps43
      go_wp2_with (first
        | (go_at_call 16
           refine (HRb.out _ hb01).mono ?_
           rintro e w2 ⟨rfl, hb2⟩
           have hb02 : Below w.heap.size w w2 := hb01.trans (hb2.mono hb01.size)
           have hA2 : Blk w2 w.heap.size 34 #[.slice A n c, .int .i64 a.root] := HA1.out.below hb2 HA1.out.lt
           have hB2 : Blk w2 (w.heap.size + 1) 34 #[.slice A' n c', .int .i64 b.root] := HB1.out.below hb2 HB1.out.lt
           have d0 : w2.cell? ⟨w.heap.size, 0, none⟩ = some (.slice A n c) := hA2.cell 0
           have d1 : w2.cell? ⟨w.heap.size, 1, none⟩ = some (.int .i64 a.root) := hA2.cell 1
           have e0 : w2.cell? ⟨w.heap.size + 1, 0, none⟩ = some (.slice A' n c') := hB2.cell 0
           have e1 : w2.cell? ⟨w.heap.size + 1, 1, none⟩ = some (.int .i64 b.root) := hB2.cell 1
           have HA2 := Lib.hid hA2
           have HB2 := Lib.hid hB2
           clear hb2 hA2 hB2)
        | (go_at_call 16
           refine (HRa.out _ (((Below.refl _ _).alloc (Nat.le_refl _) _).alloc (by simp) _)).mono ?_
           rintro e w1 ⟨rfl, hb1⟩
           have hb01 : Below w.heap.size w w1 := (((Below.refl _ _).alloc (Nat.le_refl _) _).alloc (by simp) _).trans (hb1.mono (by simp <;> omega))
           have hA1 : Blk w1 w.heap.size 34 #[.slice A n c, .int .i64 a.root] := ((Blk.new w _ _).alloc _).below hb1 (by simp <;> omega)
           have hB1 : Blk w1 (w.heap.size + 1) 34 #[.slice A' n c', .int .i64 b.root] := (Blk.new1 w _ _ _).below hb1 (by simp)
           have d0 : w1.cell? ⟨w.heap.size, 0, none⟩ = some (.slice A n c) := hA1.cell 0
           have d1 : w1.cell? ⟨w.heap.size, 1, none⟩ = some (.int .i64 a.root) := hA1.cell 1
           have e0 : w1.cell? ⟨w.heap.size + 1, 0, none⟩ = some (.slice A' n c') := hB1.cell 0
           have e1 : w1.cell? ⟨w.heap.size + 1, 1, none⟩ = some (.int .i64 b.root) := hB1.cell 1
           have HA1 := Lib.hid hA1
           have HB1 := Lib.hid hB1
           clear hb1 hA1 hB1)
        | fail)
      go_ret
      exact ⟨by rw [← HX.out, HFX.out]; rfl, hb01⟩
  · have hf : X = false := by rw [hX]; exact decide_eq_false fun h => hl h.len
    have HFX := Lib.hid hf
    have hl2 : ((n : Int) == (b.nodes.length : Int)) = false := by simp; omega
    have hl3 : ¬ n = b.nodes.length := by omega
    rw [← hn]
    clear hX hf hl hn HGa HGb HRa HRb
    generalize b.nodes.length = m at *
    go_enter Tryd.func43, Tryd.ntmps43
    go_wp2
    go_ret
    exact ⟨by rw [← HX.out, HFX.out]; rfl, ((Below.refl _ _).alloc (Nat.le_refl _) _).alloc (by simp) _⟩
end Go.Proofs.YtclfpjfjebheoaaDoor
/- The contract of the guard 'long': whatever trees; where it answers false, they are few and small. -/
namespace Go.Proofs.YtclfpjfjebheoaaDoor
open Go.RowKit

def nodesSum (ts : List Tr) : Nat := (ts.map (·.nodes.length)).sum
theorem nodesSum_snoc (ts : List Tr) (j : Nat) (t : Tr) (h : ts[j]? = some t) : nodesSum (ts.take (j + 1)) = nodesSum (ts.take j) + t.nodes.length := by
  unfold nodesSum
  rw [List.take_add_one, h]
  simp
/-- What is known where the guard answers false. -/
structure Short (ts : List Tr) : Prop where
  few : ts.length ≤ 4000
  sum : nodesSum ts ≤ 4000
  kids : ∀ t ∈ ts, ∀ n ∈ t.nodes, n.kids.length ≤ 4000
structure LongRel (ts : List Tr) (i : Nat) (n : Nat) : Prop where
  le : n ≤ 8300
  cnt : n < 4000 → i + nodesSum (ts.take i) ≤ n
  kids : n < 4000 → ∀ t ∈ ts.take i, ∀ x ∈ t.nodes, x.kids.length ≤ 4000
structure LongIn (ts : List Tr) (t : Tr) (i k : Nat) (n : Nat) : Prop where
  le : n ≤ 8300
  cnt : n < 4000 → i + 1 + nodesSum (ts.take i) + k ≤ n
  kids : n < 4000 → ∀ t ∈ ts.take i, ∀ x ∈ t.nodes, x.kids.length ≤ 4000
  now : n < 4000 → ∀ x ∈ t.nodes.take k, x.kids.length ≤ 4000

def LongSaid (ts : List Tr) (w : World) (e : Ending) (w' : World) : Prop := ∃ r : Bool, e = .returned (.bool r) ∧ (r = false → Short ts) ∧ Below w.heap.size w w'
end Go.Proofs.YtclfpjfjebheoaaDoor
/- The contract of bonsairef04.Exact: two arenas, node by node. -/
namespace Go.Proofs.YtclfpjfjebheoaaDoor
open Go.RowKit
open Classical

theorem nd_eq {x y : Nd} (h1 : x.d = y.d) (h2 : x.kids = y.kids) : x = y := by cases x; cases y; simp_all
instance : DecidableEq Tr := fun a b => decidable_of_iff (a.nodes = b.nodes ∧ a.root = b.root) ⟨fun h => by cases a; cases b; simp_all, fun h => by simp [h]⟩
set_option maxRecDepth 20000 in
set_option maxHeartbeats 8000000 in
theorem exact_g {a b : Tr} {va vb : Value} {S S' : Nat → Prop} {w : World} (ha : RTree w S va a) (hb : RTree w S' vb b) (hS : ∀ b, S b → b < w.heap.size) (hS' : ∀ b, S' b → b < w.heap.size) (hl : a.nodes.length ≤ 1000000) :
    Calls Tryd.prog 65 #[va, vb] w fun e w' => e = .returned (.bool (decide (a = b))) ∧ Below w.heap.size w w' := by
  obtain ⟨nva, rfl, hna, _⟩ := ha
  obtain ⟨nvb, rfl, hnb, _⟩ := hb
  obtain ⟨A, c, rfl, _, _, hA⟩ := hna.at_
  obtain ⟨A', c', rfl, _, _, hB⟩ := hnb.at_
  clear hA hB
  obtain ⟨an, ar⟩ := a
  obtain ⟨bn, br⟩ := b
  simp only at *
  by_cases hlen : an.length = bn.length
  · by_cases hroot : ar = br
    · subst hroot
      have HNA := Lib.hid hna
      have HNB := Lib.hid hnb
      have HL := Lib.hid hlen
      obtain ⟨n, hn⟩ : ∃ n, n = an.length := ⟨_, rfl⟩
      have HN := Lib.hid hn
      rw [← hn] at hl
      rw [← hlen, ← hn]
      clear hna hnb hlen hn
      go_enter Tryd.func65, Tryd.ntmps65
      go_wp2
      go_loopw [5] (fun i wr => ∃ k : Nat, k ≤ n ∧ i = .int .i64 k ∧ Hid (an.take k = bn.take k) ∧ Hid (Blk wr w.heap.size 34 #[.slice A n c, .int .i64 ar]) ∧ Hid (Blk wr (w.heap.size + 1) 34 #[.slice A' n c', .int .i64 ar]) ∧ Hid (Below w.heap.size w wr)) (fun i _ => n - (intOf i).toNat)
      case atStart => exact ⟨0, Nat.zero_le _, rfl, Lib.hid (by simp), Lib.hid ((Blk.new w _ _).alloc _), Lib.hid (Blk.new1 _ _ _ _), Lib.hid (((Below.refl _ _).alloc (Nat.le_refl _) _).alloc (by simp) _)⟩
      case round =>
        obtain ⟨wo, rfl⟩ : ∃ wo, wo = wr := ⟨_, rfl⟩
        obtain ⟨k, hk, rfl, HT, HA, HB, HW⟩ := hrel
        by_cases hlt : k < n
        · obtain ⟨x, hx⟩ : ∃ x, an[k]? = some x := ⟨_, List.getElem?_eq_getElem (by rw [← HN.out]; exact hlt)⟩
          obtain ⟨y, hy⟩ : ∃ y, bn[k]? = some y := ⟨_, List.getElem?_eq_getElem (by rw [← HL.out, ← HN.out]; exact hlt)⟩
          obtain ⟨b, off, Ak, ck, rfl, hbS, hki, hdo, c0, c1, c2, c3, c4, c5, c6, c7, c8⟩ := (HNA.out.below HW.out hS).get k x hx
          obtain ⟨b', off', Ak', ck', rfl, hbS', hki', hdo', e0, e1, e2, e3, e4, e5, e6, e7, e8⟩ := (HNB.out.below HW.out hS').get k y hy
          have d0 := HA.out.cell 0
          have f0 := HB.out.cell 0
          have hbB := hS b hbS
          have hbB' := hS' b' hbS'
          have hbs := HW.out.size
          have hA2 : wo.cell? ⟨w.heap.size, 0, none⟩ = some (.slice (some ⟨b, off, none⟩) n c) := d0
          have hB2 : wo.cell? ⟨w.heap.size + 1, 0, none⟩ = some (.slice (some ⟨b', off', none⟩) n c') := f0
          have hk0 : (0 : Int) ≤ (k : Int) := by omega
          have hkn : (k : Int) < (n : Int) := by omega
          clear d0 f0
          have n0 := World.new_ne wo _ hA2
          have n1 := World.new_ne wo _ hB2
          have n2 := World.new_ne wo _ c0
          have n3 := World.new_ne wo _ c1
          have n4 := World.new_ne wo _ c2
          have n5 := World.new_ne wo _ c3
          have n6 := World.new_ne wo _ c4
          have n7 := World.new_ne wo _ c5
          have n8 := World.new_ne wo _ c6
          have n9 := World.new_ne wo _ c7
          have n10 := World.new_ne wo _ c8
          have n11 := World.new_ne wo _ e0
          have n12 := World.new_ne wo _ e1
          have n13 := World.new_ne wo _ e2
          have n14 := World.new_ne wo _ e3
          have n15 := World.new_ne wo _ e4
          have n16 := World.new_ne wo _ e5
          have n17 := World.new_ne wo _ e6
          have n18 := World.new_ne wo _ e7
          have n19 := World.new_ne wo _ e8
          go_upto_region 6 with fail
          go_cut [6, 7] from 30 to 39 (fun X Y wx => ∃ bx by_ : Nat, X = .pointer (some ⟨bx, 0, none⟩) ∧ Y = .pointer (some ⟨by_, 0, none⟩) ∧ wo.heap.size ≤ bx ∧ wo.heap.size ≤ by_ ∧ Hid (Blk wx bx 65 #[.int .u8 x.d.kind, .int .u64 x.d.s0, .int .u64 x.d.s1, .int .u64 x.d.s2, .int .u64 x.d.s3, .string ⟨x.d.text.toArray⟩, .int .i64 x.d.min, .int .i64 x.d.max, .slice Ak x.kids.length ck]) ∧ Hid (Blk wx by_ 65 #[.int .u8 y.d.kind, .int .u64 y.d.s0, .int .u64 y.d.s1, .int .u64 y.d.s2, .int .u64 y.d.s3, .string ⟨y.d.text.toArray⟩, .int .i64 y.d.min, .int .i64 y.d.max, .slice Ak' y.kids.length ck']) ∧ Hid (Below wo.heap.size wo wx))
          case first =>
            go_region_held3 (fun w' => w'.cell? ⟨w.heap.size, 0, none⟩ = some (.slice (some ⟨b, off, none⟩) n c) ∧ w'.cell? ⟨w.heap.size + 1, 0, none⟩ = some (.slice (some ⟨b', off', none⟩) n c') ∧ w'.cell? ⟨b, off + k * 9, none⟩ = some (.int .u8 x.d.kind) ∧ w'.cell? ⟨b, off + k * 9 + 1, none⟩ = some (.int .u64 x.d.s0) ∧ w'.cell? ⟨b, off + k * 9 + 2, none⟩ = some (.int .u64 x.d.s1) ∧ w'.cell? ⟨b, off + k * 9 + 3, none⟩ = some (.int .u64 x.d.s2) ∧ w'.cell? ⟨b, off + k * 9 + 4, none⟩ = some (.int .u64 x.d.s3) ∧ w'.cell? ⟨b, off + k * 9 + 5, none⟩ = some (.string ⟨x.d.text.toArray⟩) ∧ w'.cell? ⟨b, off + k * 9 + 6, none⟩ = some (.int .i64 x.d.min) ∧ w'.cell? ⟨b, off + k * 9 + 7, none⟩ = some (.int .i64 x.d.max) ∧ w'.cell? ⟨b, off + k * 9 + 8, none⟩ = some (.slice Ak x.kids.length ck) ∧ w'.cell? ⟨b', off' + k * 9, none⟩ = some (.int .u8 y.d.kind) ∧ w'.cell? ⟨b', off' + k * 9 + 1, none⟩ = some (.int .u64 y.d.s0) ∧ w'.cell? ⟨b', off' + k * 9 + 2, none⟩ = some (.int .u64 y.d.s1) ∧ w'.cell? ⟨b', off' + k * 9 + 3, none⟩ = some (.int .u64 y.d.s2) ∧ w'.cell? ⟨b', off' + k * 9 + 4, none⟩ = some (.int .u64 y.d.s3) ∧ w'.cell? ⟨b', off' + k * 9 + 5, none⟩ = some (.string ⟨y.d.text.toArray⟩) ∧ w'.cell? ⟨b', off' + k * 9 + 6, none⟩ = some (.int .i64 y.d.min) ∧ w'.cell? ⟨b', off' + k * 9 + 7, none⟩ = some (.int .i64 y.d.max) ∧ w'.cell? ⟨b', off' + k * 9 + 8, none⟩ = some (.slice Ak' y.kids.length ck')) (go_keep) (fail)
            all_goals (go_wp2_with fail)
            all_goals go_meet
            · exact ⟨wo.heap.size, wo.heap.size + 1, rfl, rfl, Nat.le_refl _, Nat.le_succ _, Lib.hid ((Blk.new wo _ _).alloc _).drew, Lib.hid (Blk.new1 wo _ _ _).drew, Lib.hid (below_drewN (((Below.refl _ _).alloc (Nat.le_refl _) _).alloc (by simp) _) 1)⟩
            · exact ⟨wo.heap.size + 1, wo.heap.size, rfl, rfl, Nat.le_succ _, Nat.le_refl _, Lib.hid (Blk.new1 wo _ _ _).drew, Lib.hid ((Blk.new wo _ _).alloc _).drew, Lib.hid (below_drewN (((Below.refl _ _).alloc (Nat.le_refl _) _).alloc (by simp) _) 1)⟩
          case rest =>
            obtain ⟨bx, by_, rfl, rfl, hbx, hby, HBX, HBY, HBW⟩ := hcut
            have HXY := Lib.hid (show x ≠ y → an ≠ bn from fun hne e => hne (by rw [e, hy] at hx; injection hx with hx; exact hx.symm))
            obtain ⟨p0, p1, p2, p3, p4, p5, p6, p7, p8⟩ := HBX.out.nine
            obtain ⟨q0, q1, q2, q3, q4, q5, q6, q7, q8⟩ := HBY.out.nine
            have HX := Lib.hid hx
            have HY := Lib.hid hy
            have HKI := Lib.hid hki
            have HKI' := Lib.hid hki'
            clear hx hy hki hki' hA2 hB2 c0 c1 c2 c3 c4 c5 c6 c7 c8 e0 e1 e2 e3 e4 e5 e6 e7 e8 n0 n1 n2 n3 n4 n5 n6 n7 n8 n9 n10 n11 n12 n13 n14 n15 n16 n17 n18 n19
            go_wp2
            · rename_i hd
              have hne : x ≠ y := fun e => by rw [e] at hd; simp at hd
              have HNE := Lib.hid (HXY.out hne)
              clear hne
              go_ret
              exact ⟨ret_bool (by simp [HNE.out]), HW.out.trans (HBW.out.mono HW.out.size)⟩
            · rename_i h1 h2 h3 h4 h5 h6
              have hkl : x.kids.length = y.kids.length := by
                have h7 : (x.kids.length : Int) = (y.kids.length : Int) := by simpa using h6
                omega
              have hdd : x.d = y.d := by
                obtain ⟨s1, s2, s3, s4⟩ := h2
                generalize x.d = xd at *
                generalize y.d = yd at *
                cases xd; cases yd
                simp only at *
                subst h1 s1 s2 s3 s4 h3 h4 h5
                rfl
              have HDD := Lib.hid hdd
              have HKL := Lib.hid hkl
              have hbW : Below w.heap.size w wc := HW.out.trans (HBW.out.mono HW.out.size)
              have HA7 := Lib.hid (HA.out.below HBW.out HA.out.lt)
              have HB7 := Lib.hid (HB.out.below HBW.out HB.out.lt)
              have HW7 := Lib.hid hbW
              have HKI7 := Lib.hid (HKI.out.below HBW.out (fun b hb => Nat.lt_of_lt_of_le (hS b hb) HW.out.size))
              have HKI8 := Lib.hid (HKI'.out.below HBW.out (fun b hb => Nat.lt_of_lt_of_le (hS' b hb) HW.out.size))
              have hxs : x.kids.length ≤ maxLen := HKI.out.small
              unfold maxLen at hxs
              clear hdd hkl h1 h2 h3 h4 h5 h6 hbW p0 p1 p2 p3 p4 p5 p6 p7 p8 q0 q1 q2 q3 q4 q5 q6 q7 q8
              go_loopw [8] (fun i wr => ∃ q : Nat, q ≤ x.kids.length ∧ i = .int .i64 q ∧ Hid (x.kids.take q = y.kids.take q) ∧ Hid (Blk wr bx 65 #[.int .u8 x.d.kind, .int .u64 x.d.s0, .int .u64 x.d.s1, .int .u64 x.d.s2, .int .u64 x.d.s3, .string ⟨x.d.text.toArray⟩, .int .i64 x.d.min, .int .i64 x.d.max, .slice Ak x.kids.length ck]) ∧ Hid (Blk wr by_ 65 #[.int .u8 y.d.kind, .int .u64 y.d.s0, .int .u64 y.d.s1, .int .u64 y.d.s2, .int .u64 y.d.s3, .string ⟨y.d.text.toArray⟩, .int .i64 y.d.min, .int .i64 y.d.max, .slice Ak' y.kids.length ck']) ∧ Hid (Blk wr w.heap.size 34 #[.slice (some ⟨b, off, none⟩) n c, .int .i64 ar]) ∧
                Hid (Blk wr (w.heap.size + 1) 34 #[.slice (some ⟨b', off', none⟩) n c', .int .i64 ar]) ∧ Hid (Below w.heap.size w wr) ∧ Hid (RInts wr S (.slice Ak x.kids.length ck) x.kids) ∧ Hid (RInts wr S' (.slice Ak' y.kids.length ck') y.kids)) (fun i _ => x.kids.length - (intOf i).toNat)
              case atStart => exact ⟨0, Nat.zero_le _, rfl, Lib.hid (by simp), HBX, HBY, HA7, HB7, HW7, HKI7, HKI8⟩
              case round =>
                obtain ⟨q, hq, rfl, HQ, HX9, HY9, HA9, HB9, HW9, HK9, HK10⟩ := hrel
                have p8 := HX9.out.cell 8
                have p8 : wr.cell? ⟨bx, 8, none⟩ = some (.slice Ak x.kids.length ck) := p8
                have q8 := HY9.out.cell 8
                have q8 : wr.cell? ⟨by_, 8, none⟩ = some (.slice Ak' y.kids.length ck') := q8
                by_cases hql : q < x.kids.length
                · obtain ⟨z, hz⟩ : ∃ z, x.kids[q]? = some z := ⟨_, List.getElem?_eq_getElem hql⟩
                  obtain ⟨z', hz'⟩ : ∃ z', y.kids[q]? = some z' := ⟨_, List.getElem?_eq_getElem (by rw [← HKL.out]; exact hql)⟩
                  obtain ⟨bk, ok, rfl, _, hkc⟩ := HK9.out.get q z hz
                  obtain ⟨bk', ok', rfl, _, hkc'⟩ := HK10.out.get q z' hz'
                  have hq0 : (0 : Int) ≤ (q : Int) := by omega
                  have hq1 : (q : Int) < (x.kids.length : Int) := by omega
                  have hq2 : (q : Int) < (y.kids.length : Int) := by have := HKL.out; omega
                  have hq3 : q < y.kids.length := by omega
                  have HZ := Lib.hid hz
                  have HZ' := Lib.hid hz'
                  clear hz hz'
                  by_cases hzz : z = z'
                  · subst hzz
                    have htk : x.kids.take (q + 1) = y.kids.take (q + 1) := by rw [List.take_add_one, List.take_add_one, HQ.out, HZ.out, HZ'.out]
                    have HTK := Lib.hid htk
                    clear htk
                    go_wp2
                    go_region
                    go_wp2
                    go_roundw
                    case rel => exact ⟨q + 1, by omega, by go_num, HTK, Lib.hid HX9.out.drew, Lib.hid HY9.out.drew, Lib.hid HA9.out.drew, Lib.hid HB9.out.drew, Lib.hid (below_drewN HW9.out 1), Lib.hid (HK9.out.keep fun _ _ => rfl), Lib.hid (HK10.out.keep fun _ _ => rfl)⟩
                    case measure => simp [intOf]; omega
                  · have hzn : (z == z') = false := by simpa using hzz
                    have hne : x ≠ y := fun e => by
                      have h1 := HZ.out
                      rw [e, HZ'.out] at h1
                      injection h1 with h1
                      exact hzz h1.symm
                    have HNE := Lib.hid (HXY.out hne)
                    clear hzz hne
                    go_wp2
                    go_region
                    go_wp2
                    go_ret
                    exact ⟨ret_bool (by simp [HNE.out]), below_drewN HW9.out 1⟩
                · have hxy : x = y := by
                    have h := HQ.out
                    rw [List.take_of_length_le (by omega), List.take_of_length_le (by rw [← HKL.out]; omega)] at h
                    exact nd_eq HDD.out h
                  have htk : an.take (k + 1) = bn.take (k + 1) := by rw [List.take_add_one, List.take_add_one, HT.out, HX.out, HY.out, hxy]
                  have HTK := Lib.hid htk
                  clear htk hxy
                  have hqe : q = x.kids.length := by omega
                  subst hqe
                  clear hql hq
                  go_wp2
                  go_roundw
                  case rel => exact ⟨k + 1, by omega, by go_num, HTK, HA9, HB9, HW9⟩
                  case measure => simp [intOf]; omega
            · rename_i hd
              have hne : x ≠ y := fun e => by rw [e] at hd; exact hd rfl
              have HNE := Lib.hid (HXY.out hne)
              clear hne
              go_ret
              exact ⟨ret_bool (by simp [HNE.out]), HW.out.trans (HBW.out.mono HW.out.size)⟩
            · rename_i hd
              have hne : x ≠ y := fun e => by rw [e] at hd; exact hd rfl
              have HNE := Lib.hid (HXY.out hne)
              clear hne
              go_ret
              exact ⟨ret_bool (by simp [HNE.out]), HW.out.trans (HBW.out.mono HW.out.size)⟩
            · rename_i hd
              have hne : x ≠ y := fun e => by rw [e] at hd; exact hd rfl
              have HNE := Lib.hid (HXY.out hne)
              clear hne
              go_ret
              exact ⟨ret_bool (by simp [HNE.out]), HW.out.trans (HBW.out.mono HW.out.size)⟩
            · rename_i hd
              have hne : x ≠ y := fun e => by rw [e] at hd; exact hd ⟨rfl, rfl, rfl, rfl⟩
              have HNE := Lib.hid (HXY.out hne)
              clear hne
              go_ret
              exact ⟨ret_bool (by simp [HNE.out]), HW.out.trans (HBW.out.mono HW.out.size)⟩
            · rename_i hd
              have hne : x ≠ y := fun e => by rw [e] at hd; exact hd rfl
              have HNE := Lib.hid (HXY.out hne)
              clear hne
              go_ret
              exact ⟨ret_bool (by simp [HNE.out]), HW.out.trans (HBW.out.mono HW.out.size)⟩
        · have heq : (⟨an, ar⟩ : Tr) = ⟨bn, ar⟩ := by
            have h := HT.out
            rw [List.take_of_length_le (by rw [← HN.out]; omega), List.take_of_length_le (by rw [← HL.out, ← HN.out]; omega)] at h
            rw [h]
          have HEQ := Lib.hid heq
          have hA2 := HA.out.cell 0
          have hA2 : wo.cell? ⟨w.heap.size, 0, none⟩ = some (.slice A n c) := hA2
          clear heq
          go_wp2
          go_ret
          exact ⟨ret_bool (by rw [HEQ.out]; simp), HW.out⟩
    · have hne : (⟨an, ar⟩ : Tr) ≠ ⟨bn, br⟩ := fun e => hroot (by injection e)
      have HNE := Lib.hid hne
      have hrr : (ar == br) = false := by simpa using hroot
      rw [← hlen]
      clear hne hna hnb hlen
      generalize an.length = n at *
      go_enter Tryd.func65, Tryd.ntmps65
      go_wp2
      go_ret
      exact ⟨ret_bool (by simp [HNE.out]), ((Below.refl _ _).alloc (Nat.le_refl _) _).alloc (by simp) _⟩
  · have hne : (⟨an, ar⟩ : Tr) ≠ ⟨bn, br⟩ := fun e => hlen (by injection e with e1 e2; rw [e1])
    have HNE := Lib.hid hne
    have hl2 : ((an.length : Int) == (bn.length : Int)) = false := by simp; omega
    clear hne hna hnb
    generalize an.length = n at *
    generalize bn.length = m at *
    go_enter Tryd.func65, Tryd.ntmps65
    go_wp2
    go_ret
    exact ⟨ret_bool (by simp [HNE.out]), ((Below.refl _ _).alloc (Nat.le_refl _) _).alloc (by simp) _⟩
end Go.Proofs.YtclfpjfjebheoaaDoor
/- The contracts of nots, and small words: a tree that reads in what there is; a row of trees in a block. -/
namespace Go.Proofs.YtclfpjfjebheoaaDoor
open Go.RowKit
open Classical

theorem own_at {w : World} {base g n c k : Nat} {e : TypeId} {xs : List Value} {u : Value} (h : w.ownsRow base e 1 (.slice (some ⟨g, 0, none⟩) n c) n xs) (hk : xs[k]? = some u) : w.cell? ⟨g, k, none⟩ = some u := by
  have := h.cells (g := g) rfl k u hk
  have e1 : (⟨g, 0, none⟩ : Addr).add k = ⟨g, k, none⟩ := by
    unfold Addr.add
    split <;> simp_all
  rwa [e1] at this
/-- A tree that reads in what there is. -/
def HasT (w : World) (v : Value) (t : Tr) : Prop := RTree w (fun b => b < w.heap.size) v t
theorem HasT.below {w w' : World} {v : Value} {t : Tr} (h : HasT w v t) (hb : Below w.heap.size w w') : HasT w' v t :=
  (RTree.below h hb fun _ hb => hb).more fun _ h => Nat.lt_of_lt_of_le h hb.size
theorem HasT.given {w : World} {v : Value} {t : Tr} (h : HasT w v t) (hk : KTab w) (hs : t.nodes.length ≤ 500000) : Given t v (fun b => b < w.heap.size) w := ⟨h, fun _ h => h, hk, hs⟩
theorem RTree.has {w : World} {S : Nat → Prop} {v : Value} {t : Tr} (h : RTree w S v t) (hS : ∀ b, S b → b < w.heap.size) : HasT w v t := h.more hS
theorem OwnTree.has {w : World} {base : Nat} {v : Value} {t : Tr} (h : OwnTree w base v t) (h1 : -9223372036854775808 ≤ t.root) (h2 : t.root ≤ 9223372036854775807) : HasT w v t := h.read (fun _ _ h => h) h1 h2
theorem HasT.nodes {w : World} {nv : Value} {r : Int} {t : Tr} (h : HasT w (.agg #[nv, .int .i64 r]) t) : RNodes w (fun b => b < w.heap.size) nv t.nodes := by
  obtain ⟨nv', hv, h1, _⟩ := h
  have e : nv = nv' := by simp at hv; exact hv.1
  rw [e]; exact h1
theorem RTrees.of_blk {w : World} {S : Nat → Prop} {g : Nat} {ty : TypeId} {ts : List Tr} {nvs : List Value} (hl : nvs.length = ts.length) (hb : Blk w g ty (List.zipWith (fun (t : Tr) nv => [nv, Value.int .i64 t.root]) ts nvs).flatten.toArray)
    (hS : S g) (hm : ts.length ≤ maxLen) (h : ∀ (j : Nat) (t : Tr) (nv : Value), ts[j]? = some t → nvs[j]? = some nv → RNodes w S nv t.nodes ∧ -9223372036854775808 ≤ t.root ∧ t.root ≤ 9223372036854775807) :
    RTrees w S (.slice (some ⟨g, 0, none⟩) ts.length ts.length) ts := by
  refine ⟨nvs, hl, ⟨?_, hm, some ⟨g, 0, none⟩, ts.length, rfl, Nat.le_refl _, fun _ => ⟨g, 0, rfl, hS, fun j u hu => ?_⟩⟩, h⟩
  · have hf : ∀ (ts : List Tr) (nvs : List Value), nvs.length = ts.length → (List.zipWith (fun (t : Tr) nv => [nv, Value.int .i64 t.root]) ts nvs).flatten.length = ts.length * 2 := by
      intro ts
      induction ts with
      | nil => intro nvs h; simp
      | cons t ts ih =>
        intro nvs h
        cases nvs with
        | nil => simp at h
        | cons v nvs =>
          simp only [List.zipWith_cons_cons, List.flatten_cons, List.length_append, List.length_cons, List.length_nil]
          rw [ih nvs (by simpa using h)]; omega
    exact hf ts nvs hl
  · rw [Nat.zero_add, hb.cell j]
    simpa using hu
theorem RTrees.one {w : World} {S : Nat → Prop} {g : Nat} {ty : TypeId} {t : Tr} {nv : Value} (hb : Blk w g ty #[nv, .int .i64 t.root]) (hS : S g) (h : RTree w S (.agg #[nv, .int .i64 t.root]) t) : RTrees w S (.slice (some ⟨g, 0, none⟩) 1 1) [t] := by
  obtain ⟨nv', hv, h1⟩ := h
  have e : nv = nv' := by simpa using hv
  subst e
  exact RTrees.of_blk (ts := [t]) (nvs := [nv]) rfl hb hS (by simp [maxLen]) fun j t' nv' h2 h3 => by
    rcases j with _ | j
    · simp at h2 h3; subst h2; subst h3; exact h1
    · simp at h2
theorem RTrees.two {w : World} {S : Nat → Prop} {g : Nat} {ty : TypeId} {t u : Tr} {nv mv : Value} (hb : Blk w g ty #[nv, .int .i64 t.root, mv, .int .i64 u.root]) (hS : S g) (h : RTree w S (.agg #[nv, .int .i64 t.root]) t) (h' : RTree w S (.agg #[mv, .int .i64 u.root]) u) : RTrees w S (.slice (some ⟨g, 0, none⟩) 2 2) [t, u] := by
  obtain ⟨nv', hv, h1⟩ := h
  obtain ⟨mv', hv', h1'⟩ := h'
  have e : nv = nv' := by simpa using hv
  subst e
  have e : mv = mv' := by simpa using hv'
  subst e
  exact RTrees.of_blk (ts := [t, u]) (nvs := [nv, mv]) rfl hb hS (by simp [maxLen]) fun j t' nv' h2 h3 => by
    rcases j with _ | _ | j
    · simp at h2 h3; subst h2; subst h3; exact h1
    · simp at h2 h3; subst h2; subst h3; exact h1'
    · simp at h2

def notD : Dt := ⟨8, 0, 0, 0, 0, [], 0, 0⟩
def seqD : Dt := ⟨4, 0, 0, 0, 0, [], 0, 0⟩
def choiceD : Dt := ⟨5, 0, 0, 0, 0, [], 0, 0⟩
def notsT : Nat → T
  | 0 => .node default []
  | n + 1 => .node notD [notsT n]
theorem notsT_size (n : Nat) : (notsT n).size = n + 1 := by
  induction n with
  | zero => simp [notsT, T.size, sizes]
  | succ n ih => simp [notsT, T.size, sizes, ih]; omega
theorem notsT_depth (n : Nat) : (notsT n).depth = n + 1 := by
  induction n with
  | zero => simp [notsT, T.depth, depths]
  | succ n ih => simp [notsT, T.depth, depths, ih]; omega
/-- A tree all of whose nodes fit. -/
inductive FitT : T → Prop
  | node (d : Dt) (ks : List T) : fits d ks.length = true → (∀ k ∈ ks, FitT k) → FitT (.node d ks)
theorem fit_flat (t : T) (h : FitT t) : ∀ o, ∀ n ∈ flatAt o t, fits n.d n.kids.length = true := by
  induction t using T.ind with
  | h d ks ih =>
    obtain ⟨_, _, h1, h2⟩ := h
    have hs : ∀ (l : List T), (∀ k ∈ l, ∀ o, ∀ n ∈ flatAt o k, fits n.d n.kids.length = true) → ∀ o, ∀ n ∈ flatsAt o l, fits n.d n.kids.length = true := by
      intro l
      induction l with
      | nil => intro _ o n hn; simp [flatsAt] at hn
      | cons t l ih2 =>
        intro hl o n hn
        simp only [flatsAt, List.mem_append] at hn
        rcases hn with hn | hn
        · exact hl t (by simp) o n hn
        · exact ih2 (fun k hk => hl k (by simp [hk])) _ n hn
    intro o n hn
    simp only [flatAt, List.mem_append, List.mem_singleton] at hn
    rcases hn with hn | rfl
    · exact hs ks (fun k hk => ih k hk (h2 k hk)) o n hn
    · simpa using h1
theorem right_flat {t : T} (h : FitT t) : RightT (flatT t) := ⟨shape_flat t, fit_flat t h 0⟩
theorem treeOf_flat (t : T) : treeOf (flatT t) = t := by
  unfold treeOf flatT
  have := t.size_pos
  rw [show ((t.size : Int) - 1).toNat = t.size - 1 by omega]
  exact D_flat0 t
theorem fit_of_right {ns : List Nd} (hl : Low ns) (hf : ∀ n ∈ ns, fits n.d n.kids.length = true) : ∀ i, i < ns.length → FitT (D ns i) :=
  node_ind hl fun i n hn ih => by
    rw [D_eq hl hn]
    refine ⟨_, _, ?_, fun k hk => ?_⟩
    · rw [List.length_map]; exact hf n (List.mem_of_getElem? hn)
    · obtain ⟨j, hj, rfl⟩ := List.mem_map.1 hk
      exact ih j hj
theorem RightT.fitT {t : Tr} (h : RightT t) : FitT (treeOf t) := fit_of_right h.shape.low h.fit _ h.shape.root_lt
theorem fit_nots (n : Nat) : FitT (notsT n) := by
  induction n with
  | zero => exact ⟨_, _, by decide, fun k hk => by simp at hk⟩
  | succ n ih => exact ⟨_, _, (by decide : fits notD ((1 : Nat) : Int) = true), fun k hk => by simp at hk; subst hk; exact ih⟩
theorem right_nots (n : Nat) : RightT (flatT (notsT n)) := right_flat (fit_nots n)
theorem not_may_nots : ¬ MayT (flatT (notsT 100)) := by
  rintro ⟨_, _, h⟩
  rw [treeOf_flat, notsT_depth] at h
  omega
theorem flatT_len (t : T) : (flatT t).nodes.length = t.size := flatAt_length t 0

structure NotsRel (n : Nat) (B g : Nat) (w : World) (k : Nat) (nv : Value) (wr : World) : Prop where
  cell : Blk wr g 34 #[nv, .int .i64 k]
  own : OwnNodes wr 65 (B + 1) (fun b => b ≠ g) nv (flatT (notsT k)).nodes
  box : Blk wr B 34 #[.slice none 0 0, .int .i64 0]
  below : Below B w wr
  gt : B + 1 ≤ g

theorem nots_root (k : Nat) : (flatT (notsT k)).root = (k : Int) := by simp [flatT, notsT_size]
theorem nots_call {n B g k m c : Nat} {A : Option Addr} {w wo : World} (h : NotsRel n B g w k (.slice A m c) wo) (hB : B = w.heap.size) (hk : KTab w) (hkn : k ≤ 1000) :
    Calls Tryd.prog 78 #[.agg #[.int .u8 8, .int .u64 0, .int .u64 0, .int .u64 0, .int .u64 0, .string ⟨#[]⟩, .int .i64 0, .int .i64 0, .slice none 0 0], .slice (some ⟨wo.heap.size, 0, none⟩) 1 1]
      (wo.alloc (.cells #[.slice A m c, .int .i64 k] 34)) fun e w' => ∃ A' m' c', e = .returned (.tuple #[.agg #[.slice A' m' c', .int .i64 ((k + 1 : Nat) : Int)], .bool true]) ∧
        OwnNodes w' 65 (wo.heap.size + 1) (fun _ => True) (.slice A' m' c') (flatT (notsT (k + 1))).nodes ∧ Below (wo.heap.size + 1) (wo.alloc (.cells #[.slice A m c, .int .i64 k] 34)) w' := by
  subst hB
  have hT : HasT wo (.agg #[.slice A m c, .int .i64 (k : Int)]) (flatT (notsT k)) := ⟨_, by rw [nots_root], h.own.nodes, by rw [nots_root]; omega, by rw [nots_root]; omega⟩
  have hO := of_g (N := ⟨notD, []⟩) (kv0 := .slice none 0 0) (ts := [flatT (notsT k)]) (v := .slice (some ⟨wo.heap.size, 0, none⟩) 1 1) (S := fun b => b < wo.heap.size + 1) (w := wo.alloc (.cells #[.slice A m c, .int .i64 (k : Int)] 34)) ⟨by decide, by decide, by decide, by decide, by decide⟩
    ⟨RTrees.one (ty := 34) (t := flatT (notsT k)) (nv := .slice A m c) (by rw [nots_root]; exact Blk.new wo _ _) (Nat.lt_succ_self _) (by rw [nots_root]; exact (hT.below ((Below.refl _ _).alloc (Nat.le_refl _) _)).more fun b hb => by simpa using hb),
      fun b hb => by simpa using hb, (hk.below h.below).below ((Below.refl _ _).alloc (Nat.le_refl _) _), by simp [flatT, notsT_size]; omega, by simp⟩ (by simp [flatT, notsT_size]; omega)
  refine hO.mono ?_
  rintro e w' ⟨u, x, is, rfl, ⟨nv, rfl, ho⟩, hi, hb⟩
  have hf : fits notD ((1 : Nat) : Int) = true := by decide
  obtain ⟨rfl, rfl⟩ := hi.yes hf (by intro t ht; simp at ht; subst ht; exact right_nots k)
  simp only [List.map_cons, List.map_nil, treeOf_flat] at ho ⊢
  change OwnNodes w' _ _ _ nv (flatT (notsT (k + 1))).nodes at ho
  obtain ⟨kvs, ho0⟩ := ho
  obtain ⟨A', c', rfl, _⟩ := own_slice ho0.row
  refine ⟨A', _, c', ?_, ⟨kvs, by simpa using ho0⟩, by simpa using hb⟩
  have := nots_root (k + 1)
  simp only [notsT] at this
  rw [this]
end Go.Proofs.YtclfpjfjebheoaaDoor
/- Arguments that are trees, rows of trees, and nodes: read as data, they stand for trees. -/
namespace Go.Proofs.YtclfpjfjebheoaaDoor
set_option linter.unusedSimpArgs false
set_option maxRecDepth 8000
open Go.ChangeShapes Go.WideShapes Go.ChangeAt Go.RowKit Go.ChangeMaps Go.WideElems Go.Deep

theorem exists_list {α : Type} {P : Nat → α → Prop} (n : Nat) (h : ∀ i, i < n → ∃ a, P i a) : ∃ l : List α, l.length = n ∧ ∀ i a, l[i]? = some a → P i a := by
  induction n with
  | zero => exact ⟨[], rfl, fun i a h => by simp at h⟩
  | succ n ih =>
    obtain ⟨l, hl, hp⟩ := ih fun i hi => h i (by omega)
    obtain ⟨a, ha⟩ := h n (by omega)
    refine ⟨l ++ [a], by simp [hl], fun i b hb => ?_⟩
    rcases Nat.lt_or_ge i l.length with hi | hi
    · rw [List.getElem?_append_left hi] at hb; exact hp i b hb
    · rw [List.getElem?_append_right hi] at hb
      rcases Nat.eq_zero_or_pos (i - l.length) with h0 | h0
      · rw [h0] at hb; simp at hb; subst hb
        obtain rfl : i = n := by omega
        exact ha
      · rw [List.getElem?_eq_none (by simp; omega)] at hb; cases hb
theorem cellsNode : Tryd.prog.cellsOf 65 = 9 := by kernel_rfl
theorem cellsTree : Tryd.prog.cellsOf 34 = 2 := by kernel_rfl
theorem cellsInt : Tryd.prog.cellsOf 3 = 1 := by kernel_rfl
theorem cellsU8 : Tryd.prog.cellsOf 5 = 1 := by kernel_rfl
theorem cellsU64 : Tryd.prog.cellsOf 60 = 1 := by kernel_rfl
theorem cellsSet : Tryd.prog.cellsOf 62 = 4 := by kernel_rfl
theorem cellsStr : Tryd.prog.cellsOf 9 = 1 := by kernel_rfl
theorem cellsInts : Tryd.prog.cellsOf 63 = 1 := by kernel_rfl
theorem cellsNodes : Tryd.prog.cellsOf 32 = 1 := by kernel_rfl
theorem wf_i64 {n : Int} (h : (Lit.int .i64 n).wf = true) : -9223372036854775808 ≤ n ∧ n ≤ 9223372036854775807 := by
  simp [Lit.wf, IntKind.min, IntKind.max, IntKind.signed, IntKind.bits] at h
  omega
theorem wf_u8 {n : Int} (h : (Lit.int .u8 n).wf = true) : 0 ≤ n ∧ n ≤ 255 := by
  simp [Lit.wf, IntKind.min, IntKind.max, IntKind.signed, IntKind.bits] at h
  omega
theorem wf_u64 {n : Int} (h : (Lit.int .u64 n).wf = true) : 0 ≤ n ∧ n < 18446744073709551616 := by
  simp [Lit.wf, IntKind.min, IntKind.max, IntKind.signed, IntKind.bits] at h
  omega
theorem add_plain (b off n : Nat) : (⟨b, off, none⟩ : Addr).add n = ⟨b, off + n, none⟩ := by
  unfold Addr.add
  split <;> simp_all

section
variable {H : Type} {enc : TypeId × Value → H} {W : World} {n : Nat} {cs : List Value} {x : DataW H × List MemPlace}
/-- The cells of a row that is read, and that its addresses are plain. -/
theorem cells_at {a : Addr} {k : Nat} {cs' : List Value} (h : W.cells? 0 a k = some cs') : cs'.length = k ∧ ∀ j u, cs'[j]? = some u → W.cell? (a.add j) = some u := by
  obtain ⟨_, hl, hc⟩ := World.cells?_some h
  refine ⟨hl, fun j u hu => ?_⟩
  have hj : j < k := by have := (List.getElem?_eq_some_iff.1 hu).1; omega
  rw [hc j hj, hu]
theorem open_ints' (h : DataW.trod enc Tryd.prog W 0 (fun _ => true) true n 63 cs = some x) : ∃ kv ks, cs = [kv] ∧ RInts W (fun b => b < W.heap.size) kv ks := by
  rcases open_slice Tryd.underlying63 h with ⟨rfl, _⟩ | ⟨a, len, cap, m, k, D, Pl, rfl, _, hl, hm, hmm, _, hi⟩
  · exact ⟨_, [], rfl, Row.nil_ _ _ _⟩
  · simp only [if_true] at hmm
    subst hmm
    have hz : ∀ i, i < len → ∃ z : Int, W.cell? (a.add i) = some (.int .i64 z) := fun i hil => by
      obtain ⟨cs', hc, ht⟩ := hi i (by omega)
      rw [cellsInt] at hc
      obtain ⟨h1, h2⟩ := cells_at hc
      obtain ⟨z, rfl, _⟩ := DataW.trod_int Tryd.underlying3 ht
      have := h2 0 _ rfl
      rw [add_add] at this
      exact ⟨z, by simpa using this⟩
    obtain ⟨zs, hzl, hzz⟩ := exists_list len hz
    refine ⟨_, zs, rfl, ?_⟩
    rw [← hzl] at hl ⊢
    refine ⟨by simp, by omega, some a, _, rfl, hl, fun hp => ?_⟩
    obtain ⟨z0, h0⟩ : ∃ z0, zs[0]? = some z0 := ⟨_, List.getElem?_eq_getElem hp⟩
    have hc0 := hzz 0 z0 h0
    obtain ⟨b, off, ea⟩ := addr_plain hc0
    have hb : a.block = b := by rw [← block_of_add a 0, ea]
    obtain ⟨b', off', rfl⟩ : ∃ b' off', a = ⟨b', off', none⟩ := by
      obtain ⟨b', off', sp⟩ := a
      cases sp with
      | none => exact ⟨b', off', rfl⟩
      | some k => simp [Addr.add] at ea
    refine ⟨b', off', rfl, ?_, fun j u hu => ?_⟩
    · have := cell_lt hc0; rwa [block_of_add] at this
    · rw [← add_plain]
      rw [List.getElem?_map] at hu
      cases hj : zs[j]? with
      | none => rw [hj] at hu; cases hu
      | some z => rw [hj] at hu; injection hu with hu; subst hu; exact hzz j z hj
theorem open_node' (h : DataW.trod enc Tryd.prog W 0 (fun _ => true) true n 65 cs = some x) : ∃ (N : Nd) (kv : Value), cs = nodeCells N kv ∧ RInts W (fun b => b < W.heap.size) kv N.kids ∧ N.d.Ok := by
  obtain ⟨xs, m, _, _, hl, hlen, hf⟩ := DataW.trod_struct Tryd.underlying65 h
  rw [cellsNode] at hl
  have hx : ∀ i, i < 6 → ∃ y, xs[i]? = some y := fun i hi => ⟨_, List.getElem?_eq_getElem (by rw [hlen]; exact hi)⟩
  match cs, hl with
  | [c0, c1, c2, c3, c4, c5, c6, c7, c8], _ =>
    obtain ⟨y0, e0⟩ := hx 0 (by omega)
    obtain ⟨y1, e1⟩ := hx 1 (by omega)
    obtain ⟨y2, e2⟩ := hx 2 (by omega)
    obtain ⟨y3, e3⟩ := hx 3 (by omega)
    obtain ⟨y4, e4⟩ := hx 4 (by omega)
    obtain ⟨y5, e5⟩ := hx 5 (by omega)
    have h0 : DataW.trod enc Tryd.prog W 0 (fun _ => true) true m 5 (([c0, c1, c2, c3, c4, c5, c6, c7, c8].drop 0).take (Tryd.prog.cellsOf 5)) = xs[0]? := hf 0 _ rfl
    have h1 : DataW.trod enc Tryd.prog W 0 (fun _ => true) true m 62 (([c0, c1, c2, c3, c4, c5, c6, c7, c8].drop 1).take (Tryd.prog.cellsOf 62)) = xs[1]? := hf 1 _ rfl
    have h2 : DataW.trod enc Tryd.prog W 0 (fun _ => true) true m 9 (([c0, c1, c2, c3, c4, c5, c6, c7, c8].drop 5).take (Tryd.prog.cellsOf 9)) = xs[2]? := hf 2 _ rfl
    have h3 : DataW.trod enc Tryd.prog W 0 (fun _ => true) true m 3 (([c0, c1, c2, c3, c4, c5, c6, c7, c8].drop 6).take (Tryd.prog.cellsOf 3)) = xs[3]? := hf 3 _ rfl
    have h4 : DataW.trod enc Tryd.prog W 0 (fun _ => true) true m 3 (([c0, c1, c2, c3, c4, c5, c6, c7, c8].drop 7).take (Tryd.prog.cellsOf 3)) = xs[4]? := hf 4 _ rfl
    have h5 : DataW.trod enc Tryd.prog W 0 (fun _ => true) true m 63 (([c0, c1, c2, c3, c4, c5, c6, c7, c8].drop 8).take (Tryd.prog.cellsOf 63)) = xs[5]? := hf 5 _ rfl
    simp only [cellsU8, cellsSet, cellsStr, cellsInt, cellsInts, e0, e1, e2, e3, e4, e5, List.drop_zero, List.take_succ_cons, List.take_zero, List.drop_succ_cons] at h0 h1 h2 h3 h4 h5
    obtain ⟨z0, g0, _, b0⟩ := DataW.trod_int Tryd.underlying5 h0
    obtain ⟨s2, g2, _, b2⟩ := DataW.trod_string Tryd.underlying9 h2
    obtain ⟨z3, g3, _, b3⟩ := DataW.trod_int Tryd.underlying3 h3
    obtain ⟨z4, g4, _, b4⟩ := DataW.trod_int Tryd.underlying3 h4
    obtain ⟨kv, ks, g5, hk⟩ := open_ints' h5
    obtain ⟨ys, m', _, _, _, hyl, hy⟩ := DataW.trod_array und_set h1
    have hx2 : ∀ i, i < 4 → ∃ y, ys[i]? = some y := fun i hi => ⟨_, List.getElem?_eq_getElem (by rw [hyl]; exact hi)⟩
    obtain ⟨q0, f0⟩ := hx2 0 (by omega)
    obtain ⟨q1, f1⟩ := hx2 1 (by omega)
    obtain ⟨q2, f2⟩ := hx2 2 (by omega)
    obtain ⟨q3, f3⟩ := hx2 3 (by omega)
    have u0 := hy 0 (by omega)
    have u1 := hy 1 (by omega)
    have u2 := hy 2 (by omega)
    have u3 := hy 3 (by omega)
    simp only [cellsU64, f0, f1, f2, f3, Nat.zero_mul, Nat.one_mul, List.drop_zero, List.take_succ_cons, List.take_zero, List.drop_succ_cons, Nat.mul_one] at u0 u1 u2 u3
    obtain ⟨w0, j0, _, v0⟩ := DataW.trod_int Tryd.underlying60 u0
    obtain ⟨w1, j1, _, v1⟩ := DataW.trod_int Tryd.underlying60 u1
    obtain ⟨w2, j2, _, v2⟩ := DataW.trod_int Tryd.underlying60 u2
    obtain ⟨w3, j3, _, v3⟩ := DataW.trod_int Tryd.underlying60 u3
    simp only [List.cons.injEq, and_true] at g0 g2 g3 g4 g5 j0 j1 j2 j3
    subst g0 g2 g3 g4 g5 j0 j1 j2 j3
    refine ⟨⟨⟨z0, w0, w1, w2, w3, s2.data.toList, z3, z4⟩, ks⟩, _, rfl, hk, ⟨wf_u8 b0, ⟨wf_u64 v0, wf_u64 v1, wf_u64 v2, wf_u64 v3⟩, ?_, wf_i64 b3, wf_i64 b4⟩⟩
    show s2.data.toList.length ≤ maxLen
    rw [Array.length_toList]; exact b2
theorem open_nodes' (h : DataW.trod enc Tryd.prog W 0 (fun _ => true) true n 32 cs = some x) : ∃ nv ns, cs = [nv] ∧ RNodes W (fun b => b < W.heap.size) nv ns := by
  rcases open_slice Tryd.underlying32 h with ⟨rfl, _⟩ | ⟨a, len, cap, m, k, D, Pl, rfl, _, hl, hm, hmm, _, hi⟩
  · exact ⟨_, [], rfl, [], rfl, Row.nil_ _ _ _, fun j n kv h => by simp at h⟩
  · simp only [if_true] at hmm
    subst hmm
    have hz : ∀ i, i < len → ∃ z : Nd × Value, RInts W (fun b => b < W.heap.size) z.2 z.1.kids ∧ z.1.d.Ok ∧ ∀ j u, (nodeCells z.1 z.2)[j]? = some u → W.cell? (a.add (i * 9 + j)) = some u := fun i hil => by
      obtain ⟨cs', hc, ht⟩ := hi i (by omega)
      rw [cellsNode] at hc
      obtain ⟨h1, h2⟩ := cells_at hc
      obtain ⟨N, kv, rfl, hk, hd⟩ := open_node' ht
      exact ⟨(N, kv), hk, hd, fun j u hu => by rw [← add_add]; exact h2 j u hu⟩
    obtain ⟨zs, hzl, hzz⟩ := exists_list len hz
    have hl1 : (zs.map (·.1)).length = len := by simp [hzl]
    refine ⟨_, zs.map (·.1), rfl, zs.map (·.2), by simp, ?_, fun j N kv h1 h2 => ?_⟩
    · rw [← hl1] at hl ⊢
      have hcell : ∀ (j i : Nat) z, zs[j]? = some z → i < 9 → ∀ u, (nodesCells (zs.map (·.1)) (zs.map (·.2)))[j * 9 + i]? = some u → W.cell? (a.add (j * 9 + i)) = some u := fun j i z hj hi9 u hu => by
        rw [nodesCells, zip_cells nodeCells 9 (fun _ _ => rfl) _ _ j z.1 z.2 (by simp [hj]) (by simp [hj]) i hi9] at hu
        exact (hzz j z hj).2.2 i u hu
      have hlen9 : (nodesCells (zs.map (·.1)) (zs.map (·.2))).length = (zs.map (·.1)).length * 9 := by
        clear hzz hcell hl1 hl hm hzl hz hi
        unfold nodesCells
        induction zs with
        | nil => simp
        | cons z zs ih => simp only [List.map_cons, List.zipWith_cons_cons, List.flatten_cons, List.length_append, List.length_cons, ih, show (nodeCells z.1 z.2).length = 9 from rfl]; omega
      refine ⟨hlen9, by omega, some a, _, rfl, hl, fun hp => ?_⟩
      have hp' : 0 < zs.length := by simpa using hp
      obtain ⟨z0, h0⟩ : ∃ z0, zs[0]? = some z0 := ⟨_, List.getElem?_eq_getElem hp'⟩
      have hc0 := (hzz 0 z0 h0).2.2 0 _ rfl
      obtain ⟨b, off, ea⟩ := addr_plain hc0
      obtain ⟨b', off', rfl⟩ : ∃ b' off', a = ⟨b', off', none⟩ := by
        obtain ⟨b', off', sp⟩ := a
        cases sp with
        | none => exact ⟨b', off', rfl⟩
        | some k => simp [Addr.add] at ea
      refine ⟨b', off', rfl, ?_, fun j u hu => ?_⟩
      · have := cell_lt hc0; rwa [block_of_add] at this
      · rw [← add_plain]
        have hjl := (List.getElem?_eq_some_iff.1 hu).1
        rw [hlen9] at hjl
        have hj9 : j / 9 < zs.length := by
          have : (zs.map (·.1)).length = zs.length := by simp
          omega
        have hjd : j / 9 * 9 + j % 9 = j := by omega
        rw [← hjd]
        rw [← hjd] at hu
        exact hcell (j / 9) (j % 9) _ (List.getElem?_eq_getElem hj9) (by omega) u hu
    · rw [List.getElem?_map] at h1 h2
      cases hj : zs[j]? with
      | none => rw [hj] at h1; cases h1
      | some z =>
        rw [hj] at h1 h2
        injection h1 with h1; injection h2 with h2
        subst h1; subst h2
        exact ⟨(hzz j z hj).1, (hzz j z hj).2.1⟩
theorem open_tree' (h : DataW.trod enc Tryd.prog W 0 (fun _ => true) true n 34 cs = some x) : ∃ (nv : Value) (t : Tr), cs = [nv, .int .i64 t.root] ∧ RNodes W (fun b => b < W.heap.size) nv t.nodes ∧ -9223372036854775808 ≤ t.root ∧ t.root ≤ 9223372036854775807 := by
  obtain ⟨y0, y1, m, _, hl, h0, h1⟩ := trod_struct2 Tryd.underlying34 h
  rw [cellsTree] at hl
  match cs, hl with
  | [c0, c1], _ =>
    simp only [cellsNodes, cellsInt, List.drop_zero, List.take_succ_cons, List.take_zero, List.drop_succ_cons] at h0 h1
    obtain ⟨nv, ns, g0, hn⟩ := open_nodes' h0
    obtain ⟨r, g1, _, b1⟩ := DataW.trod_int Tryd.underlying3 h1
    simp only [List.cons.injEq, and_true] at g0 g1
    subst g0 g1
    exact ⟨c0, ⟨ns, r⟩, rfl, hn, wf_i64 b1⟩
end
theorem open_tree {H : Type} {enc : TypeId × Value → H} {W : World} {base : Nat} {v : Value} {d : DataW H} {p : List MemPlace} (hv : Value.okWide Tryd.prog W .any base 34 v) (h : DataW.Trod enc Tryd.prog W 0 (fun _ => true) true 34 v d p) :
    ∃ t, HasT W v t := by
  obtain ⟨cs, rfl, hsz⟩ := okWide_struct Tryd.underlying34 hv
  obtain ⟨fuel, hf⟩ := h
  obtain ⟨nv, t, hc, hn, h1, h2⟩ := open_tree' hf
  obtain ⟨l⟩ := cs
  simp only [Value.cells] at hc
  subst hc
  exact ⟨t, nv, rfl, hn, h1, h2⟩
section
variable {H : Type} {enc : TypeId × Value → H} {W : World} {n : Nat} {cs : List Value} {x : DataW H × List MemPlace}
theorem open_trees' (h : DataW.trod enc Tryd.prog W 0 (fun _ => true) true n 48 cs = some x) : ∃ v ts, cs = [v] ∧ RTrees W (fun b => b < W.heap.size) v ts := by
  rcases open_slice Tryd.underlying48 h with ⟨rfl, _⟩ | ⟨a, len, cap, m, k, D, Pl, rfl, _, hl, hm, hmm, _, hi⟩
  · exact ⟨_, [], rfl, [], rfl, Row.nil_ _ _ _, fun j t nv h => by simp at h⟩
  · simp only [if_true] at hmm
    subst hmm
    have hz : ∀ i, i < len → ∃ z : Tr × Value, RNodes W (fun b => b < W.heap.size) z.2 z.1.nodes ∧ (-9223372036854775808 ≤ z.1.root ∧ z.1.root ≤ 9223372036854775807) ∧ ∀ j u, [z.2, Value.int .i64 z.1.root][j]? = some u → W.cell? (a.add (i * 2 + j)) = some u := fun i hil => by
      obtain ⟨cs', hc, ht⟩ := hi i (by omega)
      rw [cellsTree] at hc
      obtain ⟨h1, h2⟩ := cells_at hc
      obtain ⟨nv, t, rfl, hn, hr⟩ := open_tree' ht
      exact ⟨(t, nv), hn, hr, fun j u hu => by rw [← add_add]; exact h2 j u hu⟩
    obtain ⟨zs, hzl, hzz⟩ := exists_list len hz
    have hl1 : (zs.map (·.1)).length = len := by simp [hzl]
    refine ⟨_, zs.map (·.1), rfl, zs.map (·.2), by simp, ?_, fun j t nv h1 h2 => ?_⟩
    · rw [← hl1] at hl ⊢
      have hcell : ∀ (j i : Nat) z, zs[j]? = some z → i < 2 → ∀ u, (List.zipWith (fun (t : Tr) nv => [nv, Value.int .i64 t.root]) (zs.map (·.1)) (zs.map (·.2))).flatten[j * 2 + i]? = some u → W.cell? (a.add (j * 2 + i)) = some u := fun j i z hj hi2 u hu => by
        rw [zip_cells (fun (t : Tr) nv => [nv, Value.int .i64 t.root]) 2 (fun _ _ => rfl) _ _ j z.1 z.2 (by simp [hj]) (by simp [hj]) i hi2] at hu
        exact (hzz j z hj).2.2 i u hu
      have hlen2 : (List.zipWith (fun (t : Tr) nv => [nv, Value.int .i64 t.root]) (zs.map (·.1)) (zs.map (·.2))).flatten.length = (zs.map (·.1)).length * 2 := by
        clear hzz hcell hl1 hl hm hzl hz hi
        induction zs with
        | nil => simp
        | cons z zs ih => simp only [List.map_cons, List.zipWith_cons_cons, List.flatten_cons, List.length_append, List.length_cons, List.length_nil, ih]; omega
      refine ⟨hlen2, by omega, some a, _, rfl, hl, fun hp => ?_⟩
      have hp' : 0 < zs.length := by simpa using hp
      obtain ⟨z0, h0⟩ : ∃ z0, zs[0]? = some z0 := ⟨_, List.getElem?_eq_getElem hp'⟩
      have hc0 := (hzz 0 z0 h0).2.2 0 _ rfl
      obtain ⟨b, off, ea⟩ := addr_plain hc0
      obtain ⟨b', off', rfl⟩ : ∃ b' off', a = ⟨b', off', none⟩ := by
        obtain ⟨b', off', sp⟩ := a
        cases sp with
        | none => exact ⟨b', off', rfl⟩
        | some k => simp [Addr.add] at ea
      refine ⟨b', off', rfl, ?_, fun j u hu => ?_⟩
      · have := cell_lt hc0; rwa [block_of_add] at this
      · rw [← add_plain]
        have hjl := (List.getElem?_eq_some_iff.1 hu).1
        rw [hlen2] at hjl
        have hj2 : j / 2 < zs.length := by
          have : (zs.map (·.1)).length = zs.length := by simp
          omega
        have hjd : j / 2 * 2 + j % 2 = j := by omega
        rw [← hjd]
        rw [← hjd] at hu
        exact hcell (j / 2) (j % 2) _ (List.getElem?_eq_getElem hj2) (by omega) u hu
    · rw [List.getElem?_map] at h1 h2
      cases hj : zs[j]? with
      | none => rw [hj] at h1; cases h1
      | some z =>
        rw [hj] at h1 h2
        injection h1 with h1; injection h2 with h2
        subst h1; subst h2
        exact ⟨(hzz j z hj).1, (hzz j z hj).2.1⟩
end
theorem open_trees {H : Type} {enc : TypeId × Value → H} {W : World} {base : Nat} {v : Value} {d : DataW H} {p : List MemPlace} (hv : Value.okWide Tryd.prog W .any base 48 v) (h : DataW.Trod enc Tryd.prog W 0 (fun _ => true) true 48 v d p) :
    ∃ ts, RTrees W (fun b => b < W.heap.size) v ts := by
  obtain ⟨a0, len, cap, rfl⟩ := okWide_slice Tryd.underlying48 hv
  obtain ⟨fuel, hf⟩ := h
  obtain ⟨v, ts, hc, hr⟩ := open_trees' hf
  simp only [Value.cells, List.cons.injEq, and_true] at hc
  subst hc
  exact ⟨ts, hr⟩
theorem open_node {H : Type} {enc : TypeId × Value → H} {W : World} {base : Nat} {v : Value} {d : DataW H} {p : List MemPlace} (hv : Value.okWide Tryd.prog W .any base 65 v) (h : DataW.Trod enc Tryd.prog W 0 (fun _ => true) true 65 v d p) :
    ∃ (N : Nd) (kv : Value), v = .agg (nodeCells N kv).toArray ∧ RInts W (fun b => b < W.heap.size) kv N.kids ∧ N.d.Ok := by
  obtain ⟨cs, rfl, hsz⟩ := okWide_struct Tryd.underlying65 hv
  obtain ⟨fuel, hf⟩ := h
  obtain ⟨N, kv, hc, hk, hd⟩ := open_node' hf
  obtain ⟨l⟩ := cs
  simp only [Value.cells] at hc
  subst hc
  exact ⟨N, kv, rfl, hk, hd⟩
end Go.Proofs.YtclfpjfjebheoaaDoor
/- The listed table of kinds, laid: it reads as the walk's premise. -/
namespace Go.Proofs.YtclfpjfjebheoaaDoor
open Go.ChangeShapes Go.WideShapes Go.ChangeAt Go.RowKit Go.ChangeMaps Go.WideElems Go.Deep

theorem cellsMany : Tryd.prog.cellsOf 102 = 2 := by kernel_rfl
theorem cellsManys : Tryd.prog.cellsOf 103 = 20 := by kernel_rfl
theorem cellsInt1 : Tryd.prog.cellsOf 3 = 1 := by kernel_rfl
theorem undManys : Tryd.prog.underlying 103 = some (.array 10 102) := by kernel_rfl
theorem kids_type : (Tryd.prog.globals[1]?).map (·.type) = some 103 := by kernel_rfl
theorem pair_cells {H : Type} {enc : TypeId × Value → H} {W : World} {b : Nat} {sp : Nat → Bool} {hd : Bool} {m : Nat} {c0 c1 : Value} {y : DataW H × List MemPlace} {z0 z1 : Int}
    (h : DataW.trod enc Tryd.prog W b sp hd m 102 [c0, c1] = some y) (hy : y.1 = .agg [.lit (.int .i64 z0), .lit (.int .i64 z1)]) : c0 = .int .i64 z0 ∧ c1 = .int .i64 z1 := by
  obtain ⟨y0, y1, k, rfl, _, h0, h1⟩ := trod_struct2 Tryd.underlying102 h
  simp only [cellsInt1, List.drop_zero, List.take_succ_cons, List.take_zero, List.drop_succ_cons] at h0 h1
  obtain ⟨a0, g0, e0, _⟩ := DataW.trod_int Tryd.underlying3 h0
  obtain ⟨a1, g1, e1, _⟩ := DataW.trod_int Tryd.underlying3 h1
  subst e0; subst e1
  simp at hy g0 g1
  exact ⟨by rw [g0, hy.1], by rw [g1, hy.2]⟩
set_option maxRecDepth 4000 in
theorem kids_cells {H : Type} {enc : TypeId × Value → H} {W : World} {b : Nat} {sp : Nat → Bool} {hd : Bool} {fuel : Nat} {cs : List Value} {p : List MemPlace}
    (h : DataW.trod enc Tryd.prog W b sp hd fuel 103 cs = some (Rows.laid_bonsai_tree_kids, p)) : cs = kidsTab.map (Value.int .i64) := by
  obtain ⟨xs, m, _, hx, hl, hxl, hf⟩ := DataW.trod_array undManys h
  rw [cellsManys] at hl
  simp only [Rows.laid_bonsai_tree_kids, Prod.mk.injEq, DataW.agg.injEq] at hx
  have hx1 := hx.1
  match xs, hxl with
  | [x0, x1, x2, x3, x4, x5, x6, x7, x8, x9], _ =>
    match cs, hl with
    | [c0, c1, c2, c3, c4, c5, c6, c7, c8, c9, c10, c11, c12, c13, c14, c15, c16, c17, c18, c19], _ =>
      simp only [List.map_cons, List.map_nil, List.cons.injEq, and_true] at hx1
      obtain ⟨a0, a1, a2, a3, a4, a5, a6, a7, a8, a9⟩ := hx1
      have f0 := hf 0 (by omega)
      have f1 := hf 1 (by omega)
      have f2 := hf 2 (by omega)
      have f3 := hf 3 (by omega)
      have f4 := hf 4 (by omega)
      have f5 := hf 5 (by omega)
      have f6 := hf 6 (by omega)
      have f7 := hf 7 (by omega)
      have f8 := hf 8 (by omega)
      have f9 := hf 9 (by omega)
      simp only [cellsMany, Nat.zero_mul, Nat.one_mul, Nat.reduceMul, List.drop_zero, List.take_succ_cons, List.take_zero, List.drop_succ_cons, List.getElem?_cons_zero, List.getElem?_cons_succ] at f0 f1 f2 f3 f4 f5 f6 f7 f8 f9
      obtain ⟨rfl, rfl⟩ := pair_cells f0 a0.symm
      obtain ⟨rfl, rfl⟩ := pair_cells f1 a1.symm
      obtain ⟨rfl, rfl⟩ := pair_cells f2 a2.symm
      obtain ⟨rfl, rfl⟩ := pair_cells f3 a3.symm
      obtain ⟨rfl, rfl⟩ := pair_cells f4 a4.symm
      obtain ⟨rfl, rfl⟩ := pair_cells f5 a5.symm
      obtain ⟨rfl, rfl⟩ := pair_cells f6 a6.symm
      obtain ⟨rfl, rfl⟩ := pair_cells f7 a7.symm
      obtain ⟨rfl, rfl⟩ := pair_cells f8 a8.symm
      obtain ⟨rfl, rfl⟩ := pair_cells f9 a9.symm
      rfl
theorem ktab_of {W : World} {rest : List (String × DataW Unit)} (h : laidMet Tryd.prog (("bonsai/tree.kids", Rows.laid_bonsai_tree_kids) :: rest) W) : KTab W := by
  obtain ⟨ps, ⟨g', t', cs, fuel, p, q, hg', ht', hvar, hd, _, _⟩, _⟩ := h
  obtain rfl := Option.some.inj (gKids.symm.trans hg')
  obtain rfl := Option.some.inj (kids_type.symm.trans ht')
  unfold KTab
  rw [hvar, ← kids_cells hd]
end Go.Proofs.YtclfpjfjebheoaaDoor
/- Trees made normal, in plain Lean. No program in sight. -/
namespace Go.Proofs.YtclfpjfjebheoaaDoor

def setD0 : Dt := ⟨1, 0, 0, 0, 0, [], 0, 0⟩
/-- What is left of parts: those of kind k are opened, those of kind z dropped. -/
def openK (k z : Int) (L : List T) : List T := L.flatMap fun t => if t.d.kind = k then t.kids else if t.d.kind = z then [] else [t]
def coll (d e : Dt) : List T → T
  | [] => .node e []
  | [x] => x
  | L => .node d L
abbrev collS : List T → T := coll seqD default
abbrev collC : List T → T := coll choiceD setD0
def tog (d : Dt) (L : List T) : T := if d.kind = 4 then collS (openK 4 0 L) else if d.kind = 5 then collC (openK 5 5 L) else .node d L
mutual
def nf : T → T
  | .node d ks => tog d (nfs ks)
def nfs : List T → List T
  | [] => []
  | t :: ts => nf t :: nfs ts
end
theorem nfs_map (L : List T) : nfs L = L.map nf := by
  induction L with
  | nil => rfl
  | cons t L ih => simp only [nfs, List.map_cons, ih]
theorem nf_node (d : Dt) (ks : List T) : nf (.node d ks) = tog d (ks.map nf) := by rw [nf, nfs_map]
theorem coll_many (d e : Dt) {L : List T} (h : 2 ≤ L.length) : coll d e L = .node d L := by
  match L, h with
  | a :: b :: L, _ => rfl
theorem openK_append (k z : Int) (a b : List T) : openK k z (a ++ b) = openK k z a ++ openK k z b := by unfold openK; rw [List.flatMap_append]
theorem openK_cons (k z : Int) (a : T) (b : List T) : openK k z (a :: b) = openK k z [a] ++ openK k z b := openK_append k z [a] b
/-- Is a tree normal? -/
inductive NT : T → Prop
  | node (d : Dt) (ks : List T) : (∀ k ∈ ks, NT k) → (d.kind = 4 → ∀ k ∈ ks, k.d.kind ≠ 4 ∧ k.d.kind ≠ 0) → (d.kind = 5 → ∀ k ∈ ks, k.d.kind ≠ 5) → NT (.node d ks)
theorem NT.kids {t : T} (h : NT t) : ∀ k ∈ t.kids, NT k := by cases h; assumption
theorem FitT.kids {t : T} (h : FitT t) : ∀ k ∈ t.kids, FitT k := by cases h; assumption
theorem FitT.fit {t : T} (h : FitT t) : fits t.d t.kids.length = true := by cases h; assumption
theorem fits_four {d : Dt} {k : Int} (h : fits d k = true) (h4 : d.kind = 4) : d = seqD ∧ 2 ≤ k := by
  obtain ⟨h1, h2⟩ : fitsD d ∧ fitsK d.kind k := of_decide_eq_true h
  obtain ⟨d0, s0, s1, s2, s3, tx, mn, mx⟩ := d
  simp only [fitsD, fitsK, noSet, noNum] at h1 h2 h4
  subst h4
  have : s0 = 0 ∧ s1 = 0 ∧ s2 = 0 ∧ s3 = 0 ∧ tx = [] ∧ mn = 0 ∧ mx = 0 := by
    rcases h1 with h | h | h | h | h | h | h | h | h | h <;> simp at h
    obtain ⟨⟨a, b, c, d⟩, e, f, g⟩ := h
    exact ⟨a, b, c, d, e, f, g⟩
  obtain ⟨rfl, rfl, rfl, rfl, rfl, rfl, rfl⟩ := this
  exact ⟨rfl, by omega⟩
theorem fits_five {d : Dt} {k : Int} (h : fits d k = true) (h4 : d.kind = 5) : d = choiceD ∧ 2 ≤ k := by
  obtain ⟨h1, h2⟩ : fitsD d ∧ fitsK d.kind k := of_decide_eq_true h
  obtain ⟨d0, s0, s1, s2, s3, tx, mn, mx⟩ := d
  simp only [fitsD, fitsK, noSet, noNum] at h1 h2 h4
  subst h4
  have : s0 = 0 ∧ s1 = 0 ∧ s2 = 0 ∧ s3 = 0 ∧ tx = [] ∧ mn = 0 ∧ mx = 0 := by
    rcases h1 with h | h | h | h | h | h | h | h | h | h <;> simp at h
    obtain ⟨⟨a, b, c, d⟩, e, f, g⟩ := h
    exact ⟨a, b, c, d, e, f, g⟩
  obtain ⟨rfl, rfl, rfl, rfl, rfl, rfl, rfl⟩ := this
  exact ⟨rfl, by omega⟩
theorem fits_zero {d : Dt} {k : Int} (h : fits d k = true) (h4 : d.kind = 0) : d = default ∧ k = 0 := by
  obtain ⟨h1, h2⟩ : fitsD d ∧ fitsK d.kind k := of_decide_eq_true h
  obtain ⟨d0, s0, s1, s2, s3, tx, mn, mx⟩ := d
  simp only [fitsD, fitsK, noSet, noNum] at h1 h2 h4
  subst h4
  have : s0 = 0 ∧ s1 = 0 ∧ s2 = 0 ∧ s3 = 0 ∧ tx = [] ∧ mn = 0 ∧ mx = 0 := by
    rcases h1 with h | h | h | h | h | h | h | h | h | h <;> simp at h
    obtain ⟨⟨a, b, c, d⟩, e, f, g⟩ := h
    exact ⟨a, b, c, d, e, f, g⟩
  obtain ⟨rfl, rfl, rfl, rfl, rfl, rfl, rfl⟩ := this
  exact ⟨rfl, by omega⟩
theorem fits_seq (n : Nat) (h : 2 ≤ n) : fits seqD (n : Int) = true := by
  refine decide_eq_true ⟨?_, ?_⟩
  · simp [fitsD, seqD, noSet, noNum]
  · exact .inr (.inl ⟨.inl rfl, by omega⟩)
theorem fits_choice (n : Nat) (h : 2 ≤ n) : fits choiceD (n : Int) = true := by
  refine decide_eq_true ⟨?_, ?_⟩
  · simp [fitsD, choiceD, noSet, noNum]
  · exact .inr (.inl ⟨.inr rfl, by omega⟩)
theorem fit_empty : FitT (.node default []) := ⟨_, _, by decide, fun k h => by simp at h⟩
theorem fit_set0 : FitT (.node setD0 []) := ⟨_, _, by decide, fun k h => by simp at h⟩
theorem nt_leaf (d : Dt) : NT (.node d []) := .node _ _ (fun k h => by simp at h) (fun _ k h => by simp at h) (fun _ k h => by simp at h)
theorem mem_openK {k z : Int} {L : List T} {x : T} : x ∈ openK k z L ↔ ∃ t ∈ L, (t.d.kind = k ∧ x ∈ t.kids) ∨ (t.d.kind ≠ k ∧ t.d.kind ≠ z ∧ x = t) := by
  unfold openK
  simp only [List.mem_flatMap]
  constructor
  · rintro ⟨t, ht, hx⟩
    refine ⟨t, ht, ?_⟩
    by_cases h1 : t.d.kind = k
    · rw [if_pos h1] at hx; exact .inl ⟨h1, hx⟩
    · rw [if_neg h1] at hx
      by_cases h2 : t.d.kind = z
      · rw [if_pos h2] at hx; simp at hx
      · rw [if_neg h2] at hx; simp at hx; exact .inr ⟨h1, h2, hx⟩
  · rintro ⟨t, ht, h⟩
    refine ⟨t, ht, ?_⟩
    rcases h with ⟨h1, h2⟩ | ⟨h1, h2, rfl⟩
    · rw [if_pos h1]; exact h2
    · rw [if_neg h1, if_neg h2]; simp
theorem open_fit {k z : Int} {L : List T} (h : ∀ t ∈ L, FitT t) : ∀ x ∈ openK k z L, FitT x := fun x hx => by
  obtain ⟨t, ht, h1 | h1⟩ := mem_openK.1 hx
  · exact (h t ht).kids x h1.2
  · exact h1.2.2 ▸ h t ht
theorem open_nt {k z : Int} {L : List T} (h : ∀ t ∈ L, NT t) : ∀ x ∈ openK k z L, NT x := fun x hx => by
  obtain ⟨t, ht, h1 | h1⟩ := mem_openK.1 hx
  · exact (h t ht).kids x h1.2
  · exact h1.2.2 ▸ h t ht
theorem openS_kind {L : List T} (h : ∀ t ∈ L, NT t) : ∀ x ∈ openK 4 0 L, x.d.kind ≠ 4 ∧ x.d.kind ≠ 0 := fun x hx => by
  obtain ⟨t, ht, h1 | h1⟩ := mem_openK.1 hx
  · have := h t ht
    cases this with
    | node d ks _ h4 _ => exact h4 h1.1 x h1.2
  · exact h1.2.2 ▸ ⟨h1.1, h1.2.1⟩
theorem openC_kind {L : List T} (h : ∀ t ∈ L, NT t) : ∀ x ∈ openK 5 5 L, x.d.kind ≠ 5 := fun x hx => by
  obtain ⟨t, ht, h1 | h1⟩ := mem_openK.1 hx
  · have := h t ht
    cases this with
    | node d ks _ _ h5 => exact h5 h1.1 x h1.2
  · exact h1.2.2 ▸ h1.1
theorem collS_fit {L : List T} (h : ∀ t ∈ L, FitT t) : FitT (collS L) := by
  match L, h with
  | [], _ => exact fit_empty
  | [x], h => exact h x (by simp)
  | a :: b :: L, h => exact ⟨_, _, fits_seq _ (by simp), h⟩
theorem collC_fit {L : List T} (h : ∀ t ∈ L, FitT t) : FitT (collC L) := by
  match L, h with
  | [], _ => exact fit_set0
  | [x], h => exact h x (by simp)
  | a :: b :: L, h => exact ⟨_, _, fits_choice _ (by simp), h⟩
theorem collS_nt {L : List T} (h : ∀ t ∈ L, NT t) (hk : ∀ x ∈ L, x.d.kind ≠ 4 ∧ x.d.kind ≠ 0) : NT (collS L) := by
  match L, h, hk with
  | [], _, _ => exact nt_leaf _
  | [x], h, _ => exact h x (by simp)
  | a :: b :: L, h, hk => exact .node _ _ h (fun _ => hk) (fun e => by simp [seqD] at e)
theorem collC_nt {L : List T} (h : ∀ t ∈ L, NT t) (hk : ∀ x ∈ L, x.d.kind ≠ 5) : NT (collC L) := by
  match L, h, hk with
  | [], _, _ => exact nt_leaf _
  | [x], h, _ => exact h x (by simp)
  | a :: b :: L, h, hk => exact .node _ _ h (fun e => by simp [choiceD] at e) (fun _ => hk)
theorem fits_len {d : Dt} {a b : Nat} (h : fits d a = true) (e : a = b) : fits d b = true := e ▸ h
theorem nf_fit (t : T) (h : FitT t) : FitT (nf t) := by
  induction t using T.ind with
  | h d ks ih =>
    obtain ⟨_, _, h1, h2⟩ := h
    have hk : ∀ x ∈ ks.map nf, FitT x := fun x hx => by
      obtain ⟨k, hk, rfl⟩ := List.mem_map.1 hx
      exact ih k hk (h2 k hk)
    rw [nf_node, tog]
    split
    · exact collS_fit (open_fit hk)
    · split
      · exact collC_fit (open_fit hk)
      · exact ⟨_, _, by rw [List.length_map]; exact h1, hk⟩
theorem nf_nt (t : T) : NT (nf t) := by
  induction t using T.ind with
  | h d ks ih =>
    have hk : ∀ x ∈ ks.map nf, NT x := fun x hx => by
      obtain ⟨k, hk, rfl⟩ := List.mem_map.1 hx
      exact ih k hk
    rw [nf_node, tog]
    split
    · exact collS_nt (open_nt hk) (openS_kind hk)
    · split
      · exact collC_nt (open_nt hk) (openC_kind hk)
      · rename_i h4 h5
        exact .node _ _ hk (fun e => absurd e h4) (fun e => absurd e h5)
theorem openK_none {k z : Int} {L : List T} (h : ∀ x ∈ L, x.d.kind ≠ k ∧ x.d.kind ≠ z) : openK k z L = L := by
  induction L with
  | nil => rfl
  | cons t L ih =>
    rw [openK_cons, ih fun x hx => h x (by simp [hx])]
    have := h t (by simp)
    simp [openK, this.1, this.2]
theorem nf_id (t : T) (hf : FitT t) (h : NT t) : nf t = t := by
  induction t using T.ind with
  | h d ks ih =>
    obtain ⟨_, _, h1, h2⟩ := hf
    cases h with
    | node _ _ hk h4 h5 =>
      have hm : ks.map nf = ks := by
        conv => rhs; rw [← List.map_id ks]
        exact List.map_congr_left fun k hkm => by simpa using ih k hkm (h2 k hkm) (hk k hkm)
      rw [nf_node, tog, hm]
      split
      · rename_i e
        obtain ⟨rfl, hl⟩ := fits_four h1 e
        rw [openK_none (h4 e)]
        exact coll_many _ _ (by omega)
      · split
        · rename_i e
          obtain ⟨rfl, hl⟩ := fits_five h1 e
          rw [openK_none fun x hx => ⟨h5 e x hx, h5 e x hx⟩]
          exact coll_many _ _ (by omega)
        · rfl
theorem nf_nf (t : T) (hf : FitT t) : nf (nf t) = nf t := nf_id _ (nf_fit t hf) (nf_nt t)
/-- A Seq, and a Choice, of parts made normal. -/
def S (L : List T) : T := collS (openK 4 0 (L.map nf))
def C (L : List T) : T := collC (openK 5 5 (L.map nf))
theorem S_fit {L : List T} (h : ∀ t ∈ L, FitT t) : FitT (S L) := collS_fit (open_fit fun x hx => by
  obtain ⟨k, hk, rfl⟩ := List.mem_map.1 hx
  exact nf_fit k (h k hk))
theorem C_fit {L : List T} (h : ∀ t ∈ L, FitT t) : FitT (C L) := collC_fit (open_fit fun x hx => by
  obtain ⟨k, hk, rfl⟩ := List.mem_map.1 hx
  exact nf_fit k (h k hk))
theorem S_nt (L : List T) : NT (S L) := collS_nt (open_nt fun x hx => by
  obtain ⟨k, _, rfl⟩ := List.mem_map.1 hx
  exact nf_nt k) (openS_kind fun x hx => by
  obtain ⟨k, _, rfl⟩ := List.mem_map.1 hx
  exact nf_nt k)
theorem C_nt (L : List T) : NT (C L) := collC_nt (open_nt fun x hx => by
  obtain ⟨k, _, rfl⟩ := List.mem_map.1 hx
  exact nf_nt k) (openC_kind fun x hx => by
  obtain ⟨k, _, rfl⟩ := List.mem_map.1 hx
  exact nf_nt k)
/-- A Seq's parts are what it was put together of. -/
theorem open_collS {L : List T} (hk : ∀ x ∈ L, x.d.kind ≠ 4 ∧ x.d.kind ≠ 0) : openK 4 0 [collS L] = L := by
  match L, hk with
  | [], _ => rfl
  | [x], hk => exact openK_none hk
  | a :: b :: L, hk => simp [openK, coll, seqD, T.d, T.kids]
theorem open_collC {L : List T} (hk : ∀ x ∈ L, x.d.kind ≠ 5) (hn : L ≠ []) : openK 5 5 [collC L] = L := by
  match L, hk, hn with
  | [], _, hn => exact absurd rfl hn
  | [x], hk, _ => exact openK_none fun y hy => ⟨hk y hy, hk y hy⟩
  | a :: b :: L, hk, _ => simp [openK, coll, choiceD, T.d, T.kids]
theorem open_S {L : List T} (h : ∀ t ∈ L, FitT t) : openK 4 0 [nf (S L)] = openK 4 0 (L.map nf) := by
  rw [nf_id _ (S_fit h) (S_nt L)]
  exact open_collS (openS_kind fun x hx => by
    obtain ⟨k, _, rfl⟩ := List.mem_map.1 hx
    exact nf_nt k)
theorem openC_ne {t : T} (hf : FitT t) : openK 5 5 [t] ≠ [] := by
  by_cases e : t.d.kind = 5
  · have h2 := (fits_five hf.fit e).2
    intro h
    simp [openK, e] at h
    rw [h] at h2
    simp at h2
  · simp [openK, e]
theorem open_C {L : List T} (h : ∀ t ∈ L, FitT t) (hn : L ≠ []) : openK 5 5 [nf (C L)] = openK 5 5 (L.map nf) := by
  rw [nf_id _ (C_fit h) (C_nt L)]
  refine open_collC (openC_kind fun x hx => by
    obtain ⟨k, _, rfl⟩ := List.mem_map.1 hx
    exact nf_nt k) ?_
  cases L with
  | nil => exact absurd rfl hn
  | cons t L =>
    rw [List.map_cons, openK_cons]
    have := openC_ne (nf_fit t (h t (by simp)))
    intro e
    exact this (List.append_eq_nil_iff.1 e).1
theorem S_left {L M : List T} (h : ∀ t ∈ L, FitT t) : S (S L :: M) = S (L ++ M) := by
  conv => lhs; rw [S, List.map_cons, openK_cons, open_S h]
  rw [S, List.map_append, openK_append]
theorem C_left {L M : List T} (h : ∀ t ∈ L, FitT t) (hn : L ≠ []) : C (C L :: M) = C (L ++ M) := by
  conv => lhs; rw [C, List.map_cons, openK_cons, open_C h hn]
  rw [C, List.map_append, openK_append]
theorem S_right {L M : List T} (h : ∀ t ∈ M, FitT t) : S (L ++ [S M]) = S (L ++ M) := by
  conv => lhs; rw [S, List.map_append, openK_append, List.map_cons, List.map_nil, open_S h]
  rw [S, List.map_append, openK_append]
theorem C_right {L M : List T} (h : ∀ t ∈ M, FitT t) (hn : M ≠ []) : C (L ++ [C M]) = C (L ++ M) := by
  conv => lhs; rw [C, List.map_append, openK_append, List.map_cons, List.map_nil, open_C h hn]
  rw [C, List.map_append, openK_append]
end Go.Proofs.YtclfpjfjebheoaaDoor
/- A region whose order is drawn, by what each operation yields: one step for each operation, whatever the order. No program in sight. -/
namespace Go.Proofs.YtclfpjfjebheoaaDoor
set_option linter.unusedSimpArgs false
open Go.RowKit

section
variable {P : Program} {ops : Array Oper} {Q : Exit → Act → World → Prop} {md : Region.Mode} {G : Type}

/-- Which slot operation i writes. -/
def slotOf (ops : Array Oper) (i : Nat) : Option Tmp := (ops[i]?).bind (·.dst)
/-- What is known of operation i, once it has come up: R of what stands in its slot. -/
def Known (ops : Array Oper) (Rs : List (Value → G × World → Prop)) (a : Act) (w : G × World) (i : Nat) : Prop :=
  match slotOf ops i with
  | some d => ∃ v, a.tmps[d]? = some v ∧ (Rs.getD i fun _ _ => True) v w
  | none => ∃ v, (Rs.getD i fun _ _ => True) v w
/-- Those that an operation waits for. -/
def waits (md : Region.Mode) (o : Oper) : List Nat := (o.after.toList.filter fun e => Region.binds md e).map (·.on)
def AllL (p : Nat → Prop) : List Nat → Prop
  | [] => True
  | x :: xs => p x ∧ AllL p xs
theorem AllL.of {p : Nat → Prop} : ∀ {l : List Nat}, (∀ x ∈ l, p x) → AllL p l
  | [], _ => trivial
  | x :: xs, h => ⟨h x (by simp), AllL.of fun y hy => h y (by simp [hy])⟩
theorem AllL.at_ {p : Nat → Prop} : ∀ {l : List Nat}, AllL p l → ∀ x ∈ l, p x
  | _ :: _, h, x, hx => by
    rcases List.mem_cons.1 hx with rfl | hx
    · exact h.1
    · exact AllL.at_ h.2 x hx
/-- The slots that the region writes. -/
def slotsOf (ops : Array Oper) : List Tmp := ops.toList.filterMap (·.dst)
/-- What stands in a frame beside the region's slots. -/
structure Beside (ops : Array Oper) (a0 a : Act) : Prop where
  size : a.tmps.size = a0.tmps.size
  defers : a.defers = a0.defers
  at_ : ∀ d, d ∉ slotsOf ops → a.tmps[d]? = a0.tmps[d]?
theorem Beside.refl (ops : Array Oper) (a : Act) : Beside ops a a := ⟨rfl, rfl, fun _ _ => rfl⟩
theorem slotOf_mem {i : Nat} {d : Tmp} (h : slotOf ops i = some d) : d ∈ slotsOf ops := by
  unfold slotOf at h
  unfold slotsOf
  cases ho : ops[i]? with
  | none => rw [ho] at h; cases h
  | some o =>
    rw [ho] at h
    exact List.mem_filterMap.2 ⟨o, Array.mem_toList_iff.2 (Array.mem_of_getElem? ho), h⟩
theorem Beside.put {a0 a : Act} {i : Nat} {v : Value} (h : Beside ops a0 a) : Beside ops a0 (a.put (slotOf ops i) v) := by
  cases hd : slotOf ops i with
  | none => exact h
  | some d =>
    refine ⟨?_, h.defers, fun d' hd' => ?_⟩
    · simp [Act.put, h.size]
    · have hne : d ≠ d' := fun e => hd' (e ▸ slotOf_mem hd)
      simp only [Act.put]
      rw [Array.getElem?_setIfInBounds_ne hne]
      exact h.at_ d' hd'
/-- No two operations write one slot, and each slot is there. -/
def slotsApart (ops : Array Oper) (n : Nat) : Bool := decide ((slotsOf ops).Nodup) && (slotsOf ops).all (· < n)
theorem nodup_slots {l : List Oper} (h : (l.filterMap (·.dst)).Nodup) : ∀ (i j : Nat) (oi oj : Oper) (d : Tmp), l[i]? = some oi → l[j]? = some oj → oi.dst = some d → oj.dst = some d → i = j := by
  induction l with
  | nil => intro i j oi oj d hi; simp at hi
  | cons o l ih =>
    intro i j oi oj d hi hj di dj
    have htail : (l.filterMap (·.dst)).Nodup := by
      cases ho : o.dst with
      | none => simpa [List.filterMap_cons, ho] using h
      | some x => simp [List.filterMap_cons, ho] at h; exact h.2
    have hhead : ∀ (k : Nat) (ok : Oper), l[k]? = some ok → o.dst = some d → ok.dst = some d → False := fun k ok hk h1 h2 => by
      simp [List.filterMap_cons, h1] at h
      exact h.1 ok (List.mem_of_getElem? hk) h2
    rcases i with _ | i <;> rcases j with _ | j
    · rfl
    · simp at hi hj; subst hi; exact (hhead j oj hj di dj).elim
    · simp at hi hj; subst hj; exact (hhead i oi hi dj di).elim
    · simp at hi hj; rw [ih htail i j oi oj d hi hj di dj]
theorem slots_ne {n : Nat} (hs : slotsApart ops n = true) {i j : Nat} {d : Tmp} (hij : i ≠ j) (hi : slotOf ops i = some d) : slotOf ops j ≠ some d := by
  intro hj
  unfold slotsApart at hs
  simp only [Bool.and_eq_true, decide_eq_true_eq] at hs
  unfold slotOf at hi hj
  cases ho : ops[i]? with
  | none => rw [ho] at hi; cases hi
  | some oi =>
    cases ho' : ops[j]? with
    | none => rw [ho'] at hj; cases hj
    | some oj =>
      rw [ho] at hi; rw [ho'] at hj
      exact hij (nodup_slots hs.1 i j oi oj d (by simpa using ho) (by simpa using ho') hi hj)

/-- The step of operation i: from any frame, ghost and world in which those that it waits for have yielded what is known of them, and that i is still to come (N), it yields what is said of it. -/
def StepOK (P : Program) (md : Region.Mode) (ops : Array Oper) (Q : Exit → Act → World → Prop) (E : G × World → G × World → Prop) (N : Nat → G → Prop) (Rs : List (Value → G × World → Prop)) (a0 : Act) (s0 : G × World) (i : Nat) : Prop :=
  ∀ (o : Oper) (a : Act) (g : G) (w : World), ops[i]? = some o → Beside ops a0 a → E s0 (g, w) → N i g → AllL (Known ops Rs a (g, w)) (waits md o) →
    ∀ K : Act → World → Prop, (∀ v g' w', E (g, w) (g', w') → (∀ j, j ≠ i → N j g → N j g') → (Rs.getD i fun _ _ => True) v (g', w') → K (a.put o.dst v) w') →
      if Region.wanted o (yielded ops a.tmps) = true then Oper.wp P o a w K Q else K (a.put o.dst undef) w

/-- Edges lead back. -/
def backward (md : Region.Mode) (ops : Array Oper) : Bool :=
  (List.range ops.size).all fun i => match ops[i]? with
    | some o => (waits md o).all (· < i)
    | none => true
theorem countP_drop {l : List Nat} (hn : l.Nodup) {i : Nat} (hi : i ∈ l) {p p' : Nat → Bool} (h1 : p i = true) (h2 : p' i = false) (h3 : ∀ j, j ≠ i → p' j = p j) : l.countP p' + 1 = l.countP p := by
  induction l with
  | nil => cases hi
  | cons x l ih =>
    rw [List.nodup_cons] at hn
    rcases List.mem_cons.1 hi with rfl | hi
    · have : l.countP p' = l.countP p := List.countP_congr fun j hj => by
        rw [h3 j (fun e => hn.1 (e ▸ hj))]
      simp [List.countP_cons, h1, h2, this]
    · have hne : x ≠ i := fun e => hn.1 (e ▸ hi)
      have := ih hn.2 hi
      simp only [List.countP_cons, h3 x hne]
      omega
def left (ops : Array Oper) (listed : Array Bool) : Nat := (List.range ops.size).countP fun i => !(listed.getD i false)
theorem listed_getD {listed : Array Bool} {n i : Nat} (hl : listed.size = n) (hi : i < n) (b b' : Bool) : listed.getD i b = listed.getD i b' := by
  have : i < listed.size := by omega
  simp [this]
theorem all_listed (hb : backward md ops = true) {listed : Array Bool} (hl : listed.size = ops.size) (hr : Region.ready md ops listed = []) : ∀ i, i < ops.size → listed.getD i false = true := by
  intro i
  induction i using Nat.strongRecOn with
  | _ i ih =>
    intro hi
    cases hc : listed.getD i false with
    | true => rfl
    | false =>
      have ho : ops[i]? = some ops[i] := Array.getElem?_eq_getElem hi
      have hall := List.all_eq_true.1 hb i (List.mem_range.2 hi)
      simp only [ho] at hall
      have hm : i ∈ Region.ready md ops listed := mem_ready.2 ⟨by rw [listed_getD hl hi true false]; exact hc, _, ho, fun e he hbd => by
        have hw : e.on ∈ waits md ops[i] := List.mem_map.2 ⟨e, List.mem_filter.2 ⟨Array.mem_toList_iff.2 he, hbd⟩, rfl⟩
        have hlt : e.on < i := by simpa using List.all_eq_true.1 hall _ hw
        exact ih _ hlt (by omega)⟩
      rw [hr] at hm; cases hm
theorem wpAny_inv {E : G × World → G × World → Prop} {N : Nat → G → Prop} {Rs : List (Value → G × World → Prop)} {a0 : Act} {w0 : G × World} (hE : ∀ a b c, E a b → E b c → E a c) (hs : slotsApart ops a0.tmps.size = true) (hb : backward md ops = true)
    (hst : ∀ R ∈ Rs, ∀ v w w', E w0 w → E w w' → R v w → R v w') (hstep : ∀ i, i < ops.size → StepOK P md ops Q E N Rs a0 w0 i)
    (hend : ∀ a g w, Beside ops a0 a → E w0 (g, w) → (∀ i, i < ops.size → Known ops Rs a (g, w) i) → Q .normal a w) :
    ∀ (fuel : Nat) (listed : Array Bool) (a : Act) (g : G) (w : World), listed.size = ops.size → left ops listed ≤ fuel →
      Beside ops a0 a → E w0 (g, w) → (∀ i, i < ops.size → listed.getD i false = false → N i g) → (∀ i, i < ops.size → listed.getD i false = true → Known ops Rs a (g, w) i) → wpAny P md ops Q fuel listed a w := by
  intro fuel
  induction fuel with
  | zero =>
    intro listed a g w hl hlf hB hw hN hK
    have hall : ∀ i, i < ops.size → listed.getD i false = true := by
      intro i hi
      unfold left at hlf
      have h0 := List.countP_eq_zero.1 (Nat.le_zero.1 hlf) i (List.mem_range.2 hi)
      simpa using h0
    refine ⟨?_, hend a g w hB hw fun i hi => hK i hi (hall i hi)⟩
    refine List.eq_nil_iff_forall_not_mem.2 fun i hi => ?_
    obtain ⟨h1, o, ho, _⟩ := mem_ready.1 hi
    have hi' : i < ops.size := (Array.getElem?_eq_some_iff.1 ho).1
    rw [listed_getD hl hi' true false, hall i hi'] at h1
    cases h1
  | succ fuel ih =>
    intro listed a g w hl hlf hB hw hN hK
    refine ⟨fun hr => hend a g w hB hw fun i hi => hK i hi (all_listed hb hl hr i hi), fun i hi => ?_⟩
    obtain ⟨h1, o, ho, hdeps⟩ := mem_ready.1 hi
    have hi' : i < ops.size := (Array.getElem?_eq_some_iff.1 ho).1
    have hslot : slotOf ops i = o.dst := by unfold slotOf; rw [ho]; rfl
    refine wpOp_step ho fun K' hK' => hstep i hi' o a g w ho hB hw (hN i hi' (by rw [← listed_getD hl hi' true false]; exact h1)) (AllL.of fun j hj => ?_) K' fun v g' w' hE' hN' hR => hK' _ _ ?_
    · obtain ⟨e, he, rfl⟩ := List.mem_map.1 hj
      obtain ⟨he1, he2⟩ := List.mem_filter.1 he
      have hlj := hdeps e (Array.mem_toList_iff.1 he1) he2
      have hj' : e.on < ops.size := by
        rcases Nat.lt_or_ge e.on ops.size with h | h
        · exact h
        · rw [Array.getD_eq_getD_getElem?, Array.getElem?_eq_none (by omega)] at hlj; cases hlj
      exact hK _ hj' hlj
    · refine ih _ _ g' _ (by simp [hl]) ?_ (hslot ▸ hB.put) (hE _ _ _ hw hE') (fun j hj hlj => ?_) fun j hj hlj => ?_
      · unfold left at hlf ⊢
        have h2 : listed.getD i false = false := by rw [← listed_getD hl hi' true false]; exact h1
        have := countP_drop (l := List.range ops.size) List.nodup_range (i := i) (List.mem_range.2 hi') (p := fun i => !(listed.getD i false)) (p' := fun j => !((listed.setIfInBounds i true).getD j false)) (by simp only [h2]; rfl)
          (by have : i < listed.size := by omega
              simp [this]) (fun j hj => by simp only [getD_set_ne false (Ne.symm hj)])
        omega
      · have hji : j ≠ i := fun e => by
          subst e
          have : j < listed.size := by omega
          simp [this] at hlj
        exact hN' j hji (hN j hj (by rwa [getD_set_ne false (Ne.symm hji)] at hlj))
      · by_cases hji : j = i
        · subst hji
          unfold Known
          rw [hslot]
          cases hd : o.dst with
          | none => exact ⟨v, hR⟩
          | some d =>
            refine ⟨v, ?_, hR⟩
            have hdm : d ∈ slotsOf ops := slotOf_mem (hslot.trans hd)
            have hlt : d < a.tmps.size := by
              unfold slotsApart at hs
              simp only [Bool.and_eq_true, decide_eq_true_eq] at hs
              have := List.all_eq_true.1 hs.2 d hdm
              rw [hB.size]; simpa using this
            simp [Act.put, hlt]
        · have hlj' : listed.getD j false = true := by rwa [getD_set_ne false (Ne.symm hji)] at hlj
          have hk := hK j hj hlj'
          have hst' : ∀ v, (Rs.getD j fun _ _ => True) v (g, w) → (Rs.getD j fun _ _ => True) v (g', w') := by
            intro v hv
            cases hR : Rs[j]? with
            | none => simp [List.getD, hR]
            | some R =>
              simp only [List.getD, hR, Option.getD_some] at hv ⊢
              exact hst R (List.mem_of_getElem? hR) v _ _ hw hE' hv
          unfold Known at hk ⊢
          cases hd : slotOf ops j with
          | none => rw [hd] at hk; exact hk.imp fun v hv => hst' v hv
          | some d =>
            rw [hd] at hk
            obtain ⟨u, hu, hv⟩ := hk
            refine ⟨u, ?_, hst' u hv⟩
            cases hd2 : o.dst with
            | none => exact hu
            | some d2 =>
              have hne : d2 ≠ d := fun e => slots_ne hs (Ne.symm hji) (hslot.trans hd2) (by rw [e]; exact hd)
              simp only [Act.put]
              rw [Array.getElem?_setIfInBounds_ne hne]
              exact hu
/-- The same step, of an operation that is at hand. -/
def StepAt (P : Program) (md : Region.Mode) (ops : Array Oper) (Q : Exit → Act → World → Prop) (E : G × World → G × World → Prop) (N : Nat → G → Prop) (Rs : List (Value → G × World → Prop)) (a0 : Act) (s0 : G × World) (i : Nat) (o : Oper) : Prop :=
  ∀ (a : Act) (g : G) (w : World), Beside ops a0 a → E s0 (g, w) → N i g → AllL (Known ops Rs a (g, w)) (waits md o) →
    ∀ K : Act → World → Prop, (∀ v g' w', E (g, w) (g', w') → (∀ j, j ≠ i → N j g → N j g') → (Rs.getD i fun _ _ => True) v (g', w') → K (a.put o.dst v) w') →
      if Region.wanted o (yielded ops a.tmps) = true then Oper.wp P o a w K Q else K (a.put o.dst undef) w
def AllOps (p : Nat → Oper → Prop) : Nat → List Oper → Prop
  | _, [] => True
  | i, o :: l => p i o ∧ AllOps p (i + 1) l
theorem AllOps.at_ {p : Nat → Oper → Prop} : ∀ {l : List Oper} {k : Nat}, AllOps p k l → ∀ (i : Nat) (o : Oper), l[i]? = some o → p (k + i) o
  | [], _, _, i, o, h => by simp at h
  | x :: l, k, h, 0, o, ho => by simp at ho; subst ho; exact h.1
  | x :: l, k, h, i + 1, o, ho => by
    have := AllOps.at_ h.2 i o (by simpa using ho)
    rwa [Nat.add_assoc, Nat.add_comm 1 i] at this
/-- A region whose order is drawn, by what each operation yields. -/
theorem wp_region_inv {id : Nat} {a : Act} {w : World} (g0 : G) (E : G × World → G × World → Prop) (N : Nat → G → Prop) (Rs : List (Value → G × World → Prop)) (hm : P.follows .mixedOrders = true) (hE : ∀ a b c, E a b → E b c → E a c) (hE0 : E (g0, w.drew) (g0, w.drew))
    (hs : slotsApart ops a.tmps.size = true) (hb : backward .any ops = true) (hN : ∀ i, N i g0) (hst : ∀ R ∈ Rs, ∀ v w1 w', E (g0, w.drew) w1 → E w1 w' → R v w1 → R v w')
    (hstep : AllOps (StepAt P .any ops Q E N Rs a (g0, w.drew)) 0 ops.toList) (hend : ∀ a' g' w', Beside ops a a' → E (g0, w.drew) (g', w') → (∀ i, i < ops.size → Known ops Rs a' (g', w') i) → Q .normal a' w') :
    (Code.region id ops true).wp P Q a w :=
  wp_region_any hm (wpAny_inv hE hs hb hst (fun i hi o a g w ho => by
    have := hstep.at_ i o (by simpa using ho)
    rw [Nat.zero_add] at this
    exact this a g w) hend _ _ _ g0 _ (by simp)
    (by unfold left; exact Nat.le_trans List.countP_le_length (by simp)) (Beside.refl _ _) hE0 (fun i _ _ => hN i) fun i hi hl => by
      rw [Array.getD_eq_getD_getElem?, Array.getElem?_replicate] at hl
      simp [hi] at hl)
/-- The frame behind the region: what stood there, and what has been yielded. -/
def putAll (a : Act) (vs : List (Tmp × Value)) : Act := { a with tmps := vs.foldl (fun t x => t.setIfInBounds x.1 x.2) a.tmps }
theorem foldl_size (vs : List (Tmp × Value)) (t : Array Value) : (vs.foldl (fun t x => t.setIfInBounds x.1 x.2) t).size = t.size := by
  induction vs generalizing t with
  | nil => rfl
  | cons x vs ih => simp only [List.foldl_cons, ih, Array.size_setIfInBounds]
theorem foldl_other (vs : List (Tmp × Value)) (t : Array Value) (d : Tmp) (h : d ∉ vs.map (·.1)) : (vs.foldl (fun t x => t.setIfInBounds x.1 x.2) t)[d]? = t[d]? := by
  induction vs generalizing t with
  | nil => rfl
  | cons x vs ih =>
    simp only [List.map_cons, List.mem_cons, not_or] at h
    simp only [List.foldl_cons, ih _ h.2]
    exact Array.getElem?_setIfInBounds_ne (Ne.symm h.1)
theorem foldl_at (vs : List (Tmp × Value)) (t : Array Value) (d : Tmp) (v : Value) (hn : (vs.map (·.1)).Nodup) (h : (d, v) ∈ vs) (hd : d < t.size) : (vs.foldl (fun t x => t.setIfInBounds x.1 x.2) t)[d]? = some v := by
  induction vs generalizing t with
  | nil => cases h
  | cons x vs ih =>
    simp only [List.map_cons, List.nodup_cons] at hn
    simp only [List.foldl_cons]
    rcases List.mem_cons.1 h with rfl | h
    · rw [foldl_other _ _ _ hn.1]
      simp [hd]
    · exact ih _ hn.2 h (by simpa using hd)
def AllP (p : Tmp × Value → Prop) : List (Tmp × Value) → Prop
  | [] => True
  | x :: xs => p x ∧ AllP p xs
theorem AllP.at_ {p : Tmp × Value → Prop} : ∀ {l : List (Tmp × Value)}, AllP p l → ∀ x ∈ l, p x
  | _ :: _, h, x, hx => by
    rcases List.mem_cons.1 hx with rfl | hx
    · exact h.1
    · exact AllP.at_ h.2 x hx
theorem Beside.eq {a0 a : Act} (h : Beside ops a0 a) (vs : List (Tmp × Value)) (hk : vs.map (·.1) = slotsOf ops) (hs : slotsApart ops a0.tmps.size = true) (hv : AllP (fun x => a.tmps[x.1]? = some x.2) vs) : a = putAll a0 vs := by
  unfold slotsApart at hs
  simp only [Bool.and_eq_true, decide_eq_true_eq] at hs
  have ht : a.tmps = vs.foldl (fun t x => t.setIfInBounds x.1 x.2) a0.tmps := by
    apply Array.ext_getElem?
    intro d
    by_cases hd : d ∈ vs.map (·.1)
    · obtain ⟨x, hx, rfl⟩ := List.mem_map.1 hd
      rw [hv.at_ x hx, foldl_at vs a0.tmps x.1 x.2 (hk ▸ hs.1) hx (by simpa using List.all_eq_true.1 hs.2 _ (hk ▸ hd))]
    · rw [foldl_other _ _ _ hd]
      exact h.at_ d (hk ▸ hd)
  obtain ⟨t, df⟩ := a
  have h2 := h.defers
  simp only at ht h2
  subst ht; subst h2
  rfl
/-- Regions that make memory alone: no ghost. -/
def UE (s s' : Unit × World) : Prop := Below s.2.heap.size s.2 s'.2
theorem UE.refl (s : Unit × World) : UE s s := Below.refl _ _
theorem UE.trans (a b c : Unit × World) (h : UE a b) (k : UE b c) : UE a c := Below.trans h (Below.mono k (Below.size h))
theorem UE.alloc {w : World} {o : Obj} : UE ((), w) ((), w.alloc o) := (Below.refl _ _).alloc (Nat.le_refl _) _
theorem UE.start {w w' : World} {g : Unit} (h : UE ((), w.drew) (g, w')) : Below w.heap.size w w' := ⟨h.os, h.tape, h.output, h.size, h.block⟩
def UN : Nat → Unit → Prop := fun _ _ => True
end
end Go.Proofs.YtclfpjfjebheoaaDoor
/- A region whose order is drawn, where an operation may end what others leaned on: what comes before it is done. No program in sight. -/
namespace Go.Proofs.YtclfpjfjebheoaaDoor
set_option linter.unusedSimpArgs false
open Go.RowKit

section
variable {P : Program} {ops : Array Oper} {Q : Exit → Act → World → Prop} {md : Region.Mode} {G : Type}

/-- What stands in the list of i is done before i. -/
def preOk (md : Region.Mode) (ops : Array Oper) (pre : List (List Nat)) : Bool :=
  (List.range ops.size).all fun i => match ops[i]? with
    | some o => (pre.getD i []).all fun j => (waits md o).contains j || (waits md o).any fun k => (pre.getD k []).contains j
    | none => true
/-- The step of operation i: from any frame, ghost and world in which those that it waits for have yielded what is known of them, and that i is still to come (N), it yields what is said of it. -/
def StepOK2 (P : Program) (md : Region.Mode) (ops : Array Oper) (Q : Exit → Act → World → Prop) (E : G × World → G × World → Prop) (N : Nat → G → Prop) (pre : List (List Nat)) (Rs : List (Value → G × World → Prop)) (a0 : Act) (s0 : G × World) (i : Nat) : Prop :=
  ∀ (o : Oper) (a : Act) (g : G) (w : World), ops[i]? = some o → Beside ops a0 a → E s0 (g, w) → N i g → AllL (Known ops Rs a (g, w)) (waits md o) →
    ∀ K : Act → World → Prop, (∀ v g' w', E (g, w) (g', w') → (∀ j, j ≠ i → j ∉ pre.getD i [] → N j g → N j g') → (Rs.getD i fun _ _ => True) v (g', w') → K (a.put o.dst v) w') →
      if Region.wanted o (yielded ops a.tmps) = true then Oper.wp P o a w K Q else K (a.put o.dst undef) w

theorem wpAny_inv2 {pre : List (List Nat)} {E : G × World → G × World → Prop} {N : Nat → G → Prop} {Rs : List (Value → G × World → Prop)} {a0 : Act} {w0 : G × World} (hE : ∀ a b c, E a b → E b c → E a c) (hs : slotsApart ops a0.tmps.size = true) (hb : backward md ops = true) (hp : preOk md ops pre = true)
    (hst : ∀ R ∈ Rs, ∀ v w w', E w0 w → E w w' → R v w → R v w') (hstep : ∀ i, i < ops.size → StepOK2 P md ops Q E N pre Rs a0 w0 i)
    (hend : ∀ a g w, Beside ops a0 a → E w0 (g, w) → (∀ i, i < ops.size → Known ops Rs a (g, w) i) → Q .normal a w) :
    ∀ (fuel : Nat) (listed : Array Bool) (a : Act) (g : G) (w : World), listed.size = ops.size → left ops listed ≤ fuel →
      Beside ops a0 a → E w0 (g, w) → (∀ i, i < ops.size → listed.getD i false = false → N i g) → (∀ i, i < ops.size → listed.getD i false = true → Known ops Rs a (g, w) i) → (∀ i, i < ops.size → listed.getD i false = true → ∀ j ∈ pre.getD i [], listed.getD j false = true) → wpAny P md ops Q fuel listed a w := by
  intro fuel
  induction fuel with
  | zero =>
    intro listed a g w hl hlf hB hw hN hK hC
    have hall : ∀ i, i < ops.size → listed.getD i false = true := by
      intro i hi
      unfold left at hlf
      have h0 := List.countP_eq_zero.1 (Nat.le_zero.1 hlf) i (List.mem_range.2 hi)
      simpa using h0
    refine ⟨?_, hend a g w hB hw fun i hi => hK i hi (hall i hi)⟩
    refine List.eq_nil_iff_forall_not_mem.2 fun i hi => ?_
    obtain ⟨h1, o, ho, _⟩ := mem_ready.1 hi
    have hi' : i < ops.size := (Array.getElem?_eq_some_iff.1 ho).1
    rw [listed_getD hl hi' true false, hall i hi'] at h1
    cases h1
  | succ fuel ih =>
    intro listed a g w hl hlf hB hw hN hK hC
    refine ⟨fun hr => hend a g w hB hw fun i hi => hK i hi (all_listed hb hl hr i hi), fun i hi => ?_⟩
    obtain ⟨h1, o, ho, hdeps⟩ := mem_ready.1 hi
    have hi' : i < ops.size := (Array.getElem?_eq_some_iff.1 ho).1
    have hslot : slotOf ops i = o.dst := by unfold slotOf; rw [ho]; rfl
    have hpre : ∀ j ∈ pre.getD i [], listed.getD j false = true := fun j hj => by
      have hall := List.all_eq_true.1 hp i (List.mem_range.2 hi')
      simp only [ho] at hall
      have hj2 := List.all_eq_true.1 hall j hj
      rw [Bool.or_eq_true] at hj2
      have hw2 : ∀ k ∈ waits md o, listed.getD k false = true := fun k hk => by
        obtain ⟨e, he, rfl⟩ := List.mem_map.1 hk
        obtain ⟨he1, he2⟩ := List.mem_filter.1 he
        exact hdeps e (Array.mem_toList_iff.1 he1) he2
      rcases hj2 with h2 | h2
      · exact hw2 j (by simpa using h2)
      · obtain ⟨k, hk, hjk⟩ := List.any_eq_true.1 h2
        have hlk := hw2 k hk
        have hk' : k < ops.size := by
          rcases Nat.lt_or_ge k ops.size with h | h
          · exact h
          · rw [Array.getD_eq_getD_getElem?, Array.getElem?_eq_none (by omega)] at hlk; cases hlk
        exact hC k hk' hlk j (by simpa using hjk)
    refine wpOp_step ho fun K' hK' => hstep i hi' o a g w ho hB hw (hN i hi' (by rw [← listed_getD hl hi' true false]; exact h1)) (AllL.of fun j hj => ?_) K' fun v g' w' hE' hN' hR => hK' _ _ ?_
    · obtain ⟨e, he, rfl⟩ := List.mem_map.1 hj
      obtain ⟨he1, he2⟩ := List.mem_filter.1 he
      have hlj := hdeps e (Array.mem_toList_iff.1 he1) he2
      have hj' : e.on < ops.size := by
        rcases Nat.lt_or_ge e.on ops.size with h | h
        · exact h
        · rw [Array.getD_eq_getD_getElem?, Array.getElem?_eq_none (by omega)] at hlj; cases hlj
      exact hK _ hj' hlj
    · refine ih _ _ g' _ (by simp [hl]) ?_ (hslot ▸ hB.put) (hE _ _ _ hw hE') (fun j hj hlj => ?_) (fun j hj hlj => ?_) fun k hk hlk j hj => ?_
      · unfold left at hlf ⊢
        have h2 : listed.getD i false = false := by rw [← listed_getD hl hi' true false]; exact h1
        have := countP_drop (l := List.range ops.size) List.nodup_range (i := i) (List.mem_range.2 hi') (p := fun i => !(listed.getD i false)) (p' := fun j => !((listed.setIfInBounds i true).getD j false)) (by simp only [h2]; rfl)
          (by have : i < listed.size := by omega
              simp [this]) (fun j hj => by simp only [getD_set_ne false (Ne.symm hj)])
        omega
      · have hji : j ≠ i := fun e => by
          subst e
          have : j < listed.size := by omega
          simp [this] at hlj
        have hlj2 : listed.getD j false = false := by rwa [getD_set_ne false (Ne.symm hji)] at hlj
        exact hN' j hji (fun hjp => by rw [hpre j hjp] at hlj2; cases hlj2) (hN j hj hlj2)
      · by_cases hji : j = i
        · subst hji
          unfold Known
          rw [hslot]
          cases hd : o.dst with
          | none => exact ⟨v, hR⟩
          | some d =>
            refine ⟨v, ?_, hR⟩
            have hdm : d ∈ slotsOf ops := slotOf_mem (hslot.trans hd)
            have hlt : d < a.tmps.size := by
              unfold slotsApart at hs
              simp only [Bool.and_eq_true, decide_eq_true_eq] at hs
              have := List.all_eq_true.1 hs.2 d hdm
              rw [hB.size]; simpa using this
            simp [Act.put, hlt]
        · have hlj' : listed.getD j false = true := by rwa [getD_set_ne false (Ne.symm hji)] at hlj
          have hk := hK j hj hlj'
          have hst' : ∀ v, (Rs.getD j fun _ _ => True) v (g, w) → (Rs.getD j fun _ _ => True) v (g', w') := by
            intro v hv
            cases hR : Rs[j]? with
            | none => simp [List.getD, hR]
            | some R =>
              simp only [List.getD, hR, Option.getD_some] at hv ⊢
              exact hst R (List.mem_of_getElem? hR) v _ _ hw hE' hv
          unfold Known at hk ⊢
          cases hd : slotOf ops j with
          | none => rw [hd] at hk; exact hk.imp fun v hv => hst' v hv
          | some d =>
            rw [hd] at hk
            obtain ⟨u, hu, hv⟩ := hk
            refine ⟨u, ?_, hst' u hv⟩
            cases hd2 : o.dst with
            | none => exact hu
            | some d2 =>
              have hne : d2 ≠ d := fun e => slots_ne hs (Ne.symm hji) (hslot.trans hd2) (by rw [e]; exact hd)
              simp only [Act.put]
              rw [Array.getElem?_setIfInBounds_ne hne]
              exact hu
      · have hset : ∀ x, listed.getD x false = true → (listed.setIfInBounds i true).getD x false = true := fun x hx => by
          by_cases hxi : x = i
          · subst hxi
            have : x < listed.size := by omega
            simp [this]
          · rwa [getD_set_ne false (Ne.symm hxi)]
        by_cases hki : k = i
        · subst hki
          exact hset j (hpre j hj)
        · exact hset j (hC k hk (by rwa [getD_set_ne false (Ne.symm hki)] at hlk) j hj)
/-- The same step, of an operation that is at hand. -/
def StepAt2 (P : Program) (md : Region.Mode) (ops : Array Oper) (Q : Exit → Act → World → Prop) (E : G × World → G × World → Prop) (N : Nat → G → Prop) (pre : List (List Nat)) (Rs : List (Value → G × World → Prop)) (a0 : Act) (s0 : G × World) (i : Nat) (o : Oper) : Prop :=
  ∀ (a : Act) (g : G) (w : World), Beside ops a0 a → E s0 (g, w) → N i g → AllL (Known ops Rs a (g, w)) (waits md o) →
    ∀ K : Act → World → Prop, (∀ v g' w', E (g, w) (g', w') → (∀ j, j ≠ i → j ∉ pre.getD i [] → N j g → N j g') → (Rs.getD i fun _ _ => True) v (g', w') → K (a.put o.dst v) w') →
      if Region.wanted o (yielded ops a.tmps) = true then Oper.wp P o a w K Q else K (a.put o.dst undef) w
/-- A region whose order is drawn, by what each operation yields. -/
theorem wp_region_inv2 {id : Nat} {a : Act} {w : World} (g0 : G) (E : G × World → G × World → Prop) (N : Nat → G → Prop) (pre : List (List Nat)) (Rs : List (Value → G × World → Prop)) (hm : P.follows .mixedOrders = true) (hE : ∀ a b c, E a b → E b c → E a c) (hE0 : E (g0, w.drew) (g0, w.drew))
    (hs : slotsApart ops a.tmps.size = true) (hb : backward .any ops = true) (hp : preOk .any ops pre = true) (hN : ∀ i, N i g0) (hst : ∀ R ∈ Rs, ∀ v w1 w', E (g0, w.drew) w1 → E w1 w' → R v w1 → R v w')
    (hstep : AllOps (StepAt2 P .any ops Q E N pre Rs a (g0, w.drew)) 0 ops.toList) (hend : ∀ a' g' w', Beside ops a a' → E (g0, w.drew) (g', w') → (∀ i, i < ops.size → Known ops Rs a' (g', w') i) → Q .normal a' w') :
    (Code.region id ops true).wp P Q a w :=
  wp_region_any hm (wpAny_inv2 hE hs hb hp hst (fun i hi o a g w ho => by
    have := hstep.at_ i o (by simpa using ho)
    rw [Nat.zero_add] at this
    exact this a g w) hend _ _ _ g0 _ (by simp)
    (by unfold left; exact Nat.le_trans List.countP_le_length (by simp)) (Beside.refl _ _) hE0 (fun i _ _ => hN i) (fun i hi hl => by
      rw [Array.getD_eq_getD_getElem?, Array.getElem?_replicate] at hl
      simp [hi] at hl) (fun i hi hl => by
      rw [Array.getD_eq_getD_getElem?, Array.getElem?_replicate] at hl
      simp [hi] at hl))
end
end Go.Proofs.YtclfpjfjebheoaaDoor
/- The ghost of a region that makes boxes, fills them, and calls: which box holds what. No program in sight. -/
namespace Go.Proofs.YtclfpjfjebheoaaDoor
open Go.RowKit

inductive BoxKind
  | box
  | store (k : Nat)
  | other
deriving DecidableEq
/-- By the number of the operation that makes it: a box's block, and what it was filled with. -/
abbrev BG := Nat → Option (Nat × Option (Array Value))
def BG.none_ : BG := fun _ => none
def BG.upd (γ : BG) (i : Nat) (x : Nat × Option (Array Value)) : BG := fun j => if j = i then some x else γ j
/-- Operation i is still to come. -/
def BN (kinds : List BoxKind) (i : Nat) (γ : BG) : Prop :=
  match kinds.getD i .other with
  | .box => γ i = none
  | .store k => ∀ g c, γ k ≠ some (g, some c)
  | .other => True
theorem BN.none_ (kinds : List BoxKind) (i : Nat) : BN kinds i BG.none_ := by
  unfold BN
  cases kinds.getD i .other <;> simp [BG.none_]
structure BoxOK (T : Nat → TypeId) (Z : Nat → Array Value) (s : BG × World) : Prop where
  full : ∀ i g c, s.1 i = some (g, some c) → Blk s.2 g (T i) c
  blank : ∀ i g, s.1 i = some (g, none) → Blk s.2 g (T i) (Z i)
  inj : ∀ i j g c c', s.1 i = some (g, c) → s.1 j = some (g, c') → i = j
theorem BoxOK.lt {T : Nat → TypeId} {Z : Nat → Array Value} {s : BG × World} (h : BoxOK T Z s) {i g : Nat} {c : Option (Array Value)} (hi : s.1 i = some (g, c)) : g < s.2.heap.size := by
  cases c with
  | none => exact (h.blank i g hi).lt
  | some c => exact (h.full i g c hi).lt
structure BE (T : Nat → TypeId) (Z : Nat → Array Value) (s s' : BG × World) : Prop where
  os : s'.2.os = s.2.os
  tape : s'.2.tape = s.2.tape
  output : s'.2.output = s.2.output
  size : s.2.heap.size ≤ s'.2.heap.size
  same : ∀ b, b < s.2.heap.size → (∀ i c, s.1 i ≠ some (b, c)) → s'.2.heap[b]? = s.2.heap[b]?
  grow : ∀ i g c, s.1 i = some (g, c) → ∃ c', s'.1 i = some (g, c') ∧ ∀ x, c = some x → c' = some x
  fresh : ∀ i g c, s'.1 i = some (g, c) → s.1 i = none → s.2.heap.size ≤ g
  ok : BoxOK T Z s → BoxOK T Z s'
section
variable {T : Nat → TypeId} {Z : Nat → Array Value} {γ : BG} {w w' : World}
theorem BE.refl (s : BG × World) : BE T Z s s := ⟨rfl, rfl, rfl, Nat.le_refl _, fun _ _ _ => rfl, fun i g c h => ⟨c, h, fun _ h => h⟩, fun i g c h h' => (by rw [h'] at h; cases h), fun h => h⟩
theorem BE.notBox {s s' : BG × World} (h : BE T Z s s') {b : Nat} (hb : b < s.2.heap.size) (hn : ∀ i c, s.1 i ≠ some (b, c)) : ∀ i c, s'.1 i ≠ some (b, c) := by
  intro i c hi
  cases hs : s.1 i with
  | none => have := h.fresh i b c hi hs; omega
  | some x =>
    obtain ⟨g, c0⟩ := x
    obtain ⟨c', hc', _⟩ := h.grow i g c0 hs
    rw [hc'] at hi
    injection hi with hi
    injection hi with hi _
    subst hi
    exact hn i c0 hs
theorem BE.trans {s s' s'' : BG × World} (h : BE T Z s s') (k : BE T Z s' s'') : BE T Z s s'' where
  os := k.os.trans h.os
  tape := k.tape.trans h.tape
  output := k.output.trans h.output
  size := Nat.le_trans h.size k.size
  same := fun b hb hn => (k.same b (Nat.lt_of_lt_of_le hb h.size) (h.notBox hb hn)).trans (h.same b hb hn)
  grow := fun i g c hi => by
    obtain ⟨c', h1, h2⟩ := h.grow i g c hi
    obtain ⟨c'', h3, h4⟩ := k.grow i g c' h1
    exact ⟨c'', h3, fun x hx => h4 x (h2 x hx)⟩
  fresh := fun i g c hi hn => by
    cases hs : s'.1 i with
    | none => have := k.fresh i g c hi hs; have := h.size; omega
    | some x =>
      obtain ⟨g', c0⟩ := x
      have h1 := h.fresh i g' c0 hs hn
      obtain ⟨c', hc', _⟩ := k.grow i g' c0 hs
      rw [hc'] at hi
      injection hi with hi
      injection hi with hi _
      omega
  ok := fun h0 => k.ok (h.ok h0)
theorem BE.call (hb : Below w.heap.size w w') : BE T Z (γ, w) (γ, w') where
  os := hb.os
  tape := hb.tape
  output := hb.output
  size := hb.size
  same := fun b hlt _ => hb.block b hlt
  grow := fun i g c h => ⟨c, h, fun _ h => h⟩
  fresh := fun i g c h h' => by simp only at h h'; rw [h'] at h; cases h
  ok := fun h => ⟨fun i g c hi => (h.full i g c hi).below hb (h.full i g c hi).lt, fun i g hi => (h.blank i g hi).below hb (h.blank i g hi).lt, h.inj⟩
theorem BE.alloc {i : Nat} (hi : γ i = none) : BE T Z (γ, w) (γ.upd i (w.heap.size, none), w.alloc (.cells (Z i) (T i))) where
  os := rfl
  tape := rfl
  output := rfl
  size := by simp
  same := fun b hlt _ => Below.heap_alloc w _ b hlt
  grow := fun j g c h => by
    have hji : j ≠ i := fun e => by subst e; simp only at h; rw [hi] at h; cases h
    exact ⟨c, by simp only [BG.upd, if_neg hji]; exact h, fun _ h => h⟩
  fresh := fun j g c h h' => by
    simp only [BG.upd] at h h'
    by_cases e : j = i
    · rw [if_pos e] at h; injection h with h; injection h with h _; exact Nat.le_of_eq h
    · rw [if_neg e, h'] at h; cases h
  ok := fun h => by
    refine ⟨fun j g c hj => ?_, fun j g hj => ?_, fun j k g c c' hj hk => ?_⟩
    · simp only [BG.upd] at hj
      by_cases e : j = i
      · rw [if_pos e] at hj; simp at hj
      · rw [if_neg e] at hj; exact (h.full j g c hj).alloc _
    · simp only [BG.upd] at hj
      by_cases e : j = i
      · rw [if_pos e] at hj; simp at hj; subst hj; subst e; exact Blk.new _ _ _
      · rw [if_neg e] at hj; exact (h.blank j g hj).alloc _
    · simp only [BG.upd] at hj hk
      by_cases e : j = i <;> by_cases e2 : k = i
      · rw [e, e2]
      · rw [if_pos e] at hj; rw [if_neg e2] at hk
        have h1 := h.lt hk
        injection hj with hj; injection hj with hj _; simp only at h1; omega
      · rw [if_neg e] at hj; rw [if_pos e2] at hk
        have h1 := h.lt hj
        injection hk with hk; injection hk with hk _; simp only at h1; omega
      · rw [if_neg e] at hj; rw [if_neg e2] at hk; exact h.inj j k g c c' hj hk
theorem BE.store {i g : Nat} {c : Array Value} (hi : γ i = some (g, none)) (hw : w.grownBy w' (some g)) (hb : Blk w' g (T i) c) : BE T Z (γ, w) (γ.upd i (g, some c), w') where
  os := hw.os
  tape := hw.tape
  output := hw.output
  size := hw.size
  same := fun b hlt hn => hw.block b hlt (fun e => by
    injection e with e
    subst e
    exact hn i none hi)
  grow := fun j g' c' h => by
    simp only at h
    by_cases e : j = i
    · subst e
      rw [hi] at h
      injection h with h
      injection h with h1 h2
      subst h1; subst h2
      exact ⟨some c, by simp [BG.upd], fun x hx => by cases hx⟩
    · exact ⟨c', by simp only [BG.upd, if_neg e]; exact h, fun _ h => h⟩
  fresh := fun j g' c' h h' => by
    simp only [BG.upd] at h h'
    by_cases e : j = i
    · subst e; rw [hi] at h'; cases h'
    · rw [if_neg e, h'] at h; cases h
  ok := fun h => by
    have hne : ∀ j g' c', j ≠ i → γ j = some (g', c') → some g' ≠ some g := fun j g' c' e hj e2 => by
      injection e2 with e2
      subst e2
      exact e (h.inj j i g' c' none hj hi)
    refine ⟨fun j g' c' hj => ?_, fun j g' hj => ?_, fun j k g' c1 c2 hj hk => ?_⟩
    · simp only [BG.upd] at hj
      by_cases e : j = i
      · rw [if_pos e] at hj; simp at hj; obtain ⟨h1, h2⟩ := hj; subst h1; subst h2; subst e; exact hb
      · rw [if_neg e] at hj; exact (h.full j g' c' hj).grown hw (hne j g' _ e hj)
    · simp only [BG.upd] at hj
      by_cases e : j = i
      · rw [if_pos e] at hj; simp at hj
      · rw [if_neg e] at hj; exact (h.blank j g' hj).grown hw (hne j g' _ e hj)
    · simp only [BG.upd] at hj hk
      by_cases e : j = i <;> by_cases e2 : k = i
      · rw [e, e2]
      · rw [if_pos e] at hj; rw [if_neg e2] at hk
        injection hj with hj; injection hj with hj _; subst hj
        exact (hne k _ _ e2 hk rfl).elim
      · rw [if_neg e] at hj; rw [if_pos e2] at hk
        injection hk with hk; injection hk with hk _; subst hk
        exact (hne j _ _ e hj rfl).elim
      · rw [if_neg e] at hj; rw [if_neg e2] at hk; exact h.inj j k g' c1 c2 hj hk
theorem BE.below {w0 : World} (h : BE T Z (BG.none_, w0) (γ, w)) : Below w0.heap.size w0 w := ⟨h.os, h.tape, h.output, h.size, fun b hb => h.same b hb fun i c e => by simp [BG.none_] at e⟩
theorem BE.boxes {w0 : World} (h : BE T Z (BG.none_, w0) (γ, w)) : BoxOK T Z (γ, w) := h.ok ⟨fun i g c h => by simp [BG.none_] at h, fun i g h => by simp [BG.none_] at h, fun i j g c c' h => by simp [BG.none_] at h⟩
theorem BN.alloc {kinds : List BoxKind} {i g : Nat} : ∀ j, j ≠ i → BN kinds j γ → BN kinds j (γ.upd i (g, none)) := by
  intro j hj h
  unfold BN at h ⊢
  cases hk : kinds.getD j .other with
  | box => simp only [hk] at h ⊢; simp only [BG.upd, if_neg hj]; exact h
  | store k =>
    simp only [hk] at h ⊢
    intro g' c e
    simp only [BG.upd] at e
    by_cases e2 : k = i
    · rw [if_pos e2] at e; simp at e
    · rw [if_neg e2] at e; exact h g' c e
  | other => simp
def onlyStore (kinds : List BoxKind) (s i : Nat) : Bool := (List.range kinds.length).all fun j => j == s || kinds.getD j .other != .store i
theorem BN.store {kinds : List BoxKind} {s i g : Nat} {c : Array Value} (hi : γ i = some (g, none)) (hs : onlyStore kinds s i = true) : ∀ j, j ≠ s → BN kinds j γ → BN kinds j (γ.upd i (g, some c)) := by
  intro j hj h
  unfold BN at h ⊢
  cases hk : kinds.getD j .other with
  | box =>
    simp only [hk] at h ⊢
    have hji : j ≠ i := fun e => by subst e; rw [hi] at h; cases h
    simp only [BG.upd, if_neg hji]; exact h
  | store k =>
    simp only [hk] at h ⊢
    intro g' c' e
    simp only [BG.upd] at e
    by_cases e2 : k = i
    · subst e2
      have hjl : j < kinds.length := by
        rcases Nat.lt_or_ge j kinds.length with h1 | h1
        · exact h1
        · simp [List.getD, List.getElem?_eq_none h1] at hk
      have := List.all_eq_true.1 hs j (List.mem_range.2 hjl)
      rw [hk] at this
      simp at this
      exact hj this
    · rw [if_neg e2] at e; exact h g' c' e
  | other => simp
/-- What is known of a box: a pointer to it. -/
def RBox (i : Nat) : Value → BG × World → Prop := fun v s => ∃ g c, v = .pointer (some ⟨g, 0, none⟩) ∧ s.1 i = some (g, c)
theorem RBox.keep {i : Nat} {v : Value} {s s' : BG × World} (h : BE T Z s s') (hr : RBox i v s) : RBox i v s' := by
  obtain ⟨g, c, hv, hc⟩ := hr
  obtain ⟨c', hc', _⟩ := h.grow i g c hc
  exact ⟨g, c', hv, hc'⟩
/-- What reads in blocks that are no boxes. -/
def RFree (R : World → (Nat → Prop) → Value → Prop) : Value → BG × World → Prop := fun v s => ∃ S, R s.2 S v ∧ ∀ b, S b → b < s.2.heap.size ∧ ∀ i c, s.1 i ≠ some (b, c)
theorem RFree.keep {R : World → (Nat → Prop) → Value → Prop} (hk : ∀ {w w' : World} {S : Nat → Prop} {v : Value}, R w S v → (∀ p : Addr, S p.block → w'.cell? p = w.cell? p) → R w' S v) {v : Value} {s s' : BG × World} (h : BE T Z s s') (hr : RFree R v s) : RFree R v s' := by
  obtain ⟨S, h1, h2⟩ := hr
  refine ⟨S, hk h1 fun p hp => ?_, fun b hb => ⟨Nat.lt_of_lt_of_le (h2 b hb).1 h.size, h.notBox (h2 b hb).1 (h2 b hb).2⟩⟩
  unfold World.cell?
  rw [h.same _ (h2 _ hp).1 (h2 _ hp).2]
/-- What is known of the operation that fills a box. -/
def RFill (i : Nat) (F : Array Value → BG × World → Prop) : Value → BG × World → Prop := fun _ s => ∃ g c, s.1 i = some (g, some c) ∧ F c s
theorem RFill.keep {i : Nat} {F : Array Value → BG × World → Prop} (hF : ∀ c s s', BE T Z s s' → F c s → F c s') {v : Value} {s s' : BG × World} (h : BE T Z s s') (hr : RFill i F v s) : RFill i F v s' := by
  obtain ⟨g, c, hc, hf⟩ := hr
  obtain ⟨c', hc', hx⟩ := h.grow i g _ hc
  rw [hx c rfl] at hc'
  exact ⟨g, c, hc', hF c s s' h hf⟩
end
end Go.Proofs.YtclfpjfjebheoaaDoor
/- The contract of works: the examples are as they are told. -/
namespace Go.Proofs.YtclfpjfjebheoaaDoor
open Go.RowKit
open Classical

def TruePost (w : World) (e : Ending) (w' : World) : Prop := e = .returned (.bool true) ∧ Below w.heap.size w w'
/-- The example's tree. -/
def exT : T := .node seqD [.node (textD [97]) [], .node (ruleD [98]) []]
def exTurned : Tr := ⟨[⟨ruleD [98], []⟩, ⟨textD [97], []⟩, ⟨seqD, [1, 0]⟩], 2⟩
theorem fit_ex : FitT exT := ⟨_, _, (by decide : fits seqD ((2 : Nat) : Int) = true), fun k hk => by
  simp at hk
  rcases hk with rfl | rfl
  · exact ⟨_, _, (by decide : fits (textD [97]) ((0 : Nat) : Int) = true), fun k hk => by simp at hk⟩
  · exact ⟨_, _, (by decide : fits (ruleD [98]) ((0 : Nat) : Int) = true), fun k hk => by simp at hk⟩⟩
theorem low_turned : Low exTurned.nodes := by
  intro i n hn k hk
  rcases i with _ | _ | _ | i
  · simp [exTurned] at hn; subst hn; simp at hk
  · simp [exTurned] at hn; subst hn; simp at hk
  · simp [exTurned] at hn; subst hn; simp at hk; omega
  · simp [exTurned] at hn
theorem right_turned : RightT exTurned := ⟨⟨by simp [exTurned], by simp [exTurned], low_turned, by decide⟩, by decide⟩
theorem D_turned : treeOf exTurned = exT := by
  have h0 : D exTurned.nodes 0 = .node (ruleD [98]) [] := by rw [D_eq low_turned (i := 0) (n := ⟨ruleD [98], []⟩) rfl]; rfl
  have h1 : D exTurned.nodes 1 = .node (textD [97]) [] := by rw [D_eq low_turned (i := 1) (n := ⟨textD [97], []⟩) rfl]; rfl
  show D exTurned.nodes 2 = exT
  rw [D_eq low_turned (i := 2) (n := ⟨seqD, [1, 0]⟩) rfl]
  simp [h0, h1, exT]
theorem pre_turned : pre exTurned.nodes 2 = [2, 1, 0] := by
  have h0 : pre exTurned.nodes 0 = [0] := by rw [pre_eq low_turned (i := 0) (n := ⟨ruleD [98], []⟩) rfl]; rfl
  have h1 : pre exTurned.nodes 1 = [1] := by rw [pre_eq low_turned (i := 1) (n := ⟨textD [97], []⟩) rfl]; rfl
  rw [pre_eq low_turned (i := 2) (n := ⟨seqD, [1, 0]⟩) rfl]
  simp [h0, h1]
theorem walk_turned : walkOf exTurned = [2, 1, 0] := by rw [walkOf, if_pos right_turned]; exact pre_turned
theorem same_turned : SameT (flatT exT) exTurned := ⟨right_flat fit_ex, right_turned, by rw [treeOf_flat, D_turned]⟩
theorem flat_ex : flatT exT = ⟨[⟨textD [97], []⟩, ⟨ruleD [98], []⟩, ⟨seqD, [0, 1]⟩], 2⟩ := by
  simp [flatT, exT, flatAt, flatsAt, ends, T.size, sizes]

/-- The example's tree in memory: the cells that are read. -/
structure ExMem (w : World) (g c : Nat) (A0 : Option Addr) (c0 : Nat) (A1 : Option Addr) (c1 gk ok ck : Nat) : Prop where
  lt : g < w.heap.size
  ltk : gk < w.heap.size
  x0 : w.cell? ⟨g, 0, none⟩ = some (.int .u8 2)
  x1 : w.cell? ⟨g, 1, none⟩ = some (.int .u64 0)
  x2 : w.cell? ⟨g, 2, none⟩ = some (.int .u64 0)
  x3 : w.cell? ⟨g, 3, none⟩ = some (.int .u64 0)
  x4 : w.cell? ⟨g, 4, none⟩ = some (.int .u64 0)
  x5 : w.cell? ⟨g, 5, none⟩ = some (.string ⟨#[97]⟩)
  x6 : w.cell? ⟨g, 6, none⟩ = some (.int .i64 0)
  x7 : w.cell? ⟨g, 7, none⟩ = some (.int .i64 0)
  x8 : w.cell? ⟨g, 8, none⟩ = some (.slice A0 0 c0)
  y0 : w.cell? ⟨g, 9, none⟩ = some (.int .u8 3)
  y1 : w.cell? ⟨g, 10, none⟩ = some (.int .u64 0)
  y2 : w.cell? ⟨g, 11, none⟩ = some (.int .u64 0)
  y3 : w.cell? ⟨g, 12, none⟩ = some (.int .u64 0)
  y4 : w.cell? ⟨g, 13, none⟩ = some (.int .u64 0)
  y5 : w.cell? ⟨g, 14, none⟩ = some (.string ⟨#[98]⟩)
  y6 : w.cell? ⟨g, 15, none⟩ = some (.int .i64 0)
  y7 : w.cell? ⟨g, 16, none⟩ = some (.int .i64 0)
  y8 : w.cell? ⟨g, 17, none⟩ = some (.slice A1 0 c1)
  z8 : w.cell? ⟨g, 26, none⟩ = some (.slice (some ⟨gk, ok, none⟩) 2 ck)
  k0 : w.cell? ⟨gk, ok, none⟩ = some (.int .i64 0)
  k1 : w.cell? ⟨gk, ok + 1, none⟩ = some (.int .i64 1)
  le0 : 0 ≤ c0
theorem ExMem.below {w w' : World} {g c : Nat} {A0 : Option Addr} {c0 : Nat} {A1 : Option Addr} {c1 gk ok ck : Nat} (h : ExMem w g c A0 c0 A1 c1 gk ok ck) (hb : Below w.heap.size w w') : ExMem w' g c A0 c0 A1 c1 gk ok ck := by
  have hg : ∀ o, w'.cell? ⟨g, o, none⟩ = w.cell? ⟨g, o, none⟩ := fun o => hb.cell (p := ⟨g, o, none⟩) h.lt
  have hg2 : ∀ o, w'.cell? ⟨gk, o, none⟩ = w.cell? ⟨gk, o, none⟩ := fun o => hb.cell (p := ⟨gk, o, none⟩) h.ltk
  obtain ⟨h1, h2, x0, x1, x2, x3, x4, x5, x6, x7, x8, y0, y1, y2, y3, y4, y5, y6, y7, y8, z8, k0, k1, l⟩ := h
  have := hb.size
  exact ⟨by omega, by omega, by rw [hg, x0], by rw [hg, x1], by rw [hg, x2], by rw [hg, x3], by rw [hg, x4], by rw [hg, x5], by rw [hg, x6], by rw [hg, x7], by rw [hg, x8], by rw [hg, y0], by rw [hg, y1], by rw [hg, y2], by rw [hg, y3], by rw [hg, y4], by rw [hg, y5], by rw [hg, y6], by rw [hg, y7], by rw [hg, y8], by rw [hg, z8], by rw [hg2, k0], by rw [hg2, k1], l⟩
theorem ex_cells {w : World} {base : Nat} {nv : Value} (h : OwnNodes w 65 base (fun _ => True) nv [⟨textD [97], []⟩, ⟨ruleD [98], []⟩, ⟨seqD, [0, 1]⟩]) :
    ∃ g c A0 c0 A1 c1 gk ok ck, nv = .slice (some ⟨g, 0, none⟩) 3 c ∧ ExMem w g c A0 c0 A1 c1 gk ok ck := by
  obtain ⟨kvs, hk⟩ := h
  have hn := hk.nodes (S := fun b => b < w.heap.size) (fun _ _ h _ => h)
  obtain ⟨A, c, rfl, _⟩ := own_slice hk.row
  obtain ⟨g, rfl, _, hg, _⟩ := own_some hk.row (by simp)
  obtain ⟨b0, o0, A0, c0, e0, _, _, _, x0, x1, x2, x3, x4, x5, x6, x7, x8⟩ := hn.get 0 _ rfl
  obtain ⟨b1, o1, A1, c1, e1, _, _, _, y0, y1, y2, y3, y4, y5, y6, y7, y8⟩ := hn.get 1 _ rfl
  obtain ⟨b2, o2, A2, c2, e2, _, hki, _, _, _, _, _, _, _, _, _, z8⟩ := hn.get 2 _ rfl
  injection e0 with e0; injection e0 with e0 f0; subst e0; subst f0
  injection e1 with e1; injection e1 with e1 f1; subst e1; subst f1
  injection e2 with e2; injection e2 with e2 f2; subst e2; subst f2
  obtain ⟨gk, ok, rfl, hgk, k0⟩ := hki.get 0 0 rfl
  obtain ⟨gk', ok', e, _, k1⟩ := hki.get 1 1 rfl
  injection e with e; injection e with e f; subst e; subst f
  exact ⟨g, c, A0, c0, A1, c1, gk, ok, c2, rfl, hg, hgk, x0, x1, x2, x3, x4, x5, x6, x7, x8, y0, y1, y2, y3, y4, y5, y6, y7, y8, z8, k0, k1, Nat.zero_le _⟩
theorem ex_call {w2 : World} {A1 A2 : Option Addr} {c1 c2 : Nat} (h1 : HasT w2 (.agg #[.slice A1 1 c1, .int .i64 0]) ⟨[⟨textD [97], []⟩], 0⟩) (h2 : HasT w2 (.agg #[.slice A2 1 c2, .int .i64 0]) ⟨[⟨ruleD [98], []⟩], 0⟩) (hk : KTab w2) :
    Calls Tryd.prog 78 #[.agg #[.int .u8 4, .int .u64 0, .int .u64 0, .int .u64 0, .int .u64 0, .string ⟨#[]⟩, .int .i64 0, .int .i64 0, .slice none 0 0], .slice (some ⟨w2.heap.size, 0, none⟩) 2 2]
      (w2.alloc (.cells #[.slice A1 1 c1, .int .i64 0, .slice A2 1 c2, .int .i64 0] 34)) fun e w' => ∃ g c A0 c0 A1' c1' gk ok ck, e = .returned (.tuple #[.agg #[.slice (some ⟨g, 0, none⟩) 3 c, .int .i64 2], .bool true]) ∧
        ExMem w' g c A0 c0 A1' c1' gk ok ck ∧ HasT w' (.agg #[.slice (some ⟨g, 0, none⟩) 3 c, .int .i64 2]) (flatT exT) ∧ Below w2.heap.size w2 w' := by
  have hb0 : Below w2.heap.size w2 (w2.alloc (.cells #[.slice A1 1 c1, .int .i64 0, .slice A2 1 c2, .int .i64 0] 34)) := (Below.refl _ _).alloc (Nat.le_refl _) _
  have hO := of_g (N := ⟨seqD, []⟩) (kv0 := .slice none 0 0) (ts := [⟨[⟨textD [97], []⟩], 0⟩, ⟨[⟨ruleD [98], []⟩], 0⟩]) (v := .slice (some ⟨w2.heap.size, 0, none⟩) 2 2) (S := fun b => b < w2.heap.size + 1)
    (w := w2.alloc (.cells #[.slice A1 1 c1, .int .i64 0, .slice A2 1 c2, .int .i64 0] 34)) ⟨by decide, by decide, by decide, by decide, by decide⟩
    ⟨RTrees.two (ty := 34) (Blk.new w2 _ _) (Nat.lt_succ_self _) ((h1.below hb0).more fun b hb => by simpa using hb) ((h2.below hb0).more fun b hb => by simpa using hb),
      fun b hb => by simpa using hb, hk.below hb0, by simp, by simp⟩ (by simp)
  refine hO.mono ?_
  rintro e w' ⟨u, x, is, rfl, ⟨nv, rfl, ho⟩, hi, hb⟩
  have hf : fits seqD ((2 : Nat) : Int) = true := by decide
  have r1 : (⟨[⟨textD [97], []⟩], 0⟩ : Tr) = flatT (.node (textD [97]) []) := rfl
  have r2 : (⟨[⟨ruleD [98], []⟩], 0⟩ : Tr) = flatT (.node (ruleD [98]) []) := rfl
  obtain ⟨rfl, rfl⟩ := hi.yes hf (by
    intro t ht
    simp at ht
    rcases ht with rfl | rfl
    · rw [r1]; exact right_flat (by obtain ⟨_, _, _, h⟩ := fit_ex; exact h _ (by simp))
    · rw [r2]; exact right_flat (by obtain ⟨_, _, _, h⟩ := fit_ex; exact h _ (by simp)))
  rw [r1, r2] at ho ⊢
  simp only [List.map_cons, List.map_nil, treeOf_flat] at ho ⊢
  have e : flatT (.node seqD [.node (textD [97]) [], .node (ruleD [98]) []]) = ⟨[⟨textD [97], []⟩, ⟨ruleD [98], []⟩, ⟨seqD, [0, 1]⟩], 2⟩ := flat_ex
  rw [e] at ho ⊢
  obtain ⟨g, c, A0, c0, A1', c1', gk, ok, ck, rfl, hm⟩ := ex_cells ho
  exact ⟨g, c, A0, c0, A1', c1', gk, ok, ck, rfl, hm, by rw [flat_ex]; exact ⟨_, rfl, ho.nodes, by simp, by simp⟩, hb0.trans (hb.mono hb0.size)⟩

theorem RInts.empty (w : World) (S : Nat → Prop) (A : Option Addr) (c : Nat) : RInts w S (.slice A 0 c) [] := ⟨rfl, by simp [maxLen], A, c, rfl, Nat.zero_le _, fun h => by simp at h⟩
/-- Nodes in one block. -/
theorem RNodes.of_blk {w : World} {S : Nat → Prop} {g : Nat} {ty : TypeId} {ns : List Nd} {kvs : List Value} (hl : kvs.length = ns.length) (hb : Blk w g ty (nodesCells ns kvs).toArray)
    (hS : S g) (hm : ns.length ≤ maxLen) (h : ∀ (j : Nat) (n : Nd) (kv : Value), ns[j]? = some n → kvs[j]? = some kv → RInts w S kv n.kids ∧ n.d.Ok) : RNodes w S (.slice (some ⟨g, 0, none⟩) ns.length ns.length) ns := by
  refine ⟨kvs, hl, ⟨?_, hm, some ⟨g, 0, none⟩, ns.length, rfl, Nat.le_refl _, fun _ => ⟨g, 0, rfl, hS, fun j u hu => ?_⟩⟩, h⟩
  · have hf : ∀ (ns : List Nd) (kvs : List Value), kvs.length = ns.length → (nodesCells ns kvs).length = ns.length * 9 := by
      intro ns
      unfold nodesCells
      induction ns with
      | nil => intro kvs h; simp
      | cons t ns ih =>
        intro kvs h
        cases kvs with
        | nil => simp at h
        | cons v kvs =>
          simp only [List.zipWith_cons_cons, List.flatten_cons, List.length_append, List.length_cons]
          rw [ih kvs (by simpa using h), show (nodeCells t v).length = 9 from rfl]; omega
    exact hf ns kvs hl
  · rw [Nat.zero_add, hb.cell j]
    simpa using hu
theorem Blk.new2 (w : World) (o o' : Obj) (t : TypeId) (cs : Array Value) : Blk (((w.alloc o).alloc o').alloc (.cells cs t)) (w.heap.size + 1 + 1) t cs := by
  have := Blk.new ((w.alloc o).alloc o') t cs
  simpa using this
theorem below_alloc3 (w : World) (o o' o'' : Obj) : Below w.heap.size w (((w.alloc o).alloc o').alloc o'').drew :=
  below_drewN ((((Below.refl _ _).alloc (Nat.le_refl _) _).alloc (by simp) _).alloc (by simp; omega) _) 1
theorem turned_mem {wx : World} {gi gn : Nat} {A0 A3 : Option Addr} {c0 c3 : Nat} (hi : Blk wx gi 3 #[.int .i64 1, .int .i64 0])
    (hn : Blk wx gn 65 #[.int .u8 3, .int .u64 0, .int .u64 0, .int .u64 0, .int .u64 0, .string ⟨#[98]⟩, .int .i64 0, .int .i64 0, .slice A3 0 c3, .int .u8 2, .int .u64 0, .int .u64 0, .int .u64 0, .int .u64 0, .string ⟨#[97]⟩, .int .i64 0, .int .i64 0, .slice A0 0 c0,
      .int .u8 4, .int .u64 0, .int .u64 0, .int .u64 0, .int .u64 0, .string ⟨#[]⟩, .int .i64 0, .int .i64 0, .slice (some ⟨gi, 0, none⟩) 2 2]) :
    HasT wx (.agg #[.slice (some ⟨gn, 0, none⟩) 3 3, .int .i64 2]) exTurned := by
  refine ⟨_, rfl, RNodes.of_blk (ns := exTurned.nodes) (kvs := [.slice A3 0 c3, .slice A0 0 c0, .slice (some ⟨gi, 0, none⟩) 2 2]) rfl hn hn.lt (by simp [exTurned, maxLen]) ?_, by simp [exTurned], by simp [exTurned]⟩
  intro j n kv h1 h2
  rcases j with _ | _ | _ | j
  · simp [exTurned] at h1 h2; subst h1; subst h2; exact ⟨RInts.empty _ _ _ _, ⟨by decide, by decide, by decide, by decide, by decide⟩⟩
  · simp [exTurned] at h1 h2; subst h1; subst h2; exact ⟨RInts.empty _ _ _ _, ⟨by decide, by decide, by decide, by decide, by decide⟩⟩
  · simp [exTurned] at h1 h2; subst h1; subst h2; exact ⟨RInts.of_blk (ks := [1, 0]) hi hi.lt (by simp [maxLen]), ⟨by decide, by decide, by decide, by decide, by decide⟩⟩
  · simp at h2
end Go.Proofs.YtclfpjfjebheoaaDoor
/- Lists of trees of the call's own that grow; tree.Kids. -/
namespace Go.Proofs.YtclfpjfjebheoaaDoor
open Go.RowKit
open Classical

def treesCells (ts : List Tr) (nvs : List Value) : List Value := (List.zipWith (fun (t : Tr) nv => [nv, Value.int .i64 t.root]) ts nvs).flatten
theorem treesCells_length : ∀ (ts : List Tr) (nvs : List Value), nvs.length = ts.length → (treesCells ts nvs).length = ts.length * 2
  | [], _, _ => by simp [treesCells]
  | t :: ts, [], h => by simp at h
  | t :: ts, v :: nvs, h => by
    have := treesCells_length ts nvs (by simpa using h)
    unfold treesCells at this ⊢
    simp only [List.zipWith_cons_cons, List.flatten_cons, List.length_append, List.length_cons, List.length_nil, this]
    omega
theorem treesCells_snoc {t : Tr} {nv : Value} : ∀ (ts : List Tr) (nvs : List Value), nvs.length = ts.length → treesCells (ts ++ [t]) (nvs ++ [nv]) = treesCells ts nvs ++ [nv, .int .i64 t.root]
  | [], nvs, h => by
    have : nvs = [] := by simpa using h
    subst this; simp [treesCells]
  | t' :: ts, [], h => by simp at h
  | t' :: ts, v :: nvs, h => by
    have := treesCells_snoc (t := t) (nv := nv) ts nvs (by simpa using h)
    unfold treesCells at this ⊢
    simp only [List.cons_append, List.zipWith_cons_cons, List.flatten_cons, this, List.append_assoc]
/-- A list of trees in a row of the call's own; the trees' blocks are not that row's. -/
def OwnList (w : World) (base lo : Nat) (v : Value) (ts : List Tr) : Prop := ∃ nvs : List Value, nvs.length = ts.length ∧ w.ownsRow base 34 2 v ts.length (treesCells ts nvs) ∧
  ∀ (j : Nat) (t : Tr) (nv : Value), ts[j]? = some t → nvs[j]? = some nv → RNodes w (fun b => lo ≤ b ∧ b < w.heap.size ∧ v.ownBlock ≠ some b ∧ Soft w b) nv t.nodes ∧ -9223372036854775808 ≤ t.root ∧ t.root ≤ 9223372036854775807
theorem OwnList.nil_ (w : World) (base lo : Nat) : OwnList w base lo (.slice none 0 0) [] := ⟨[], rfl, World.ownsRow_nil _ _ _ _, fun j t nv h => by simp at h⟩
theorem OwnList.base_ {w : World} {base base' lo : Nat} {v : Value} {ts : List Tr} (h : OwnList w base lo v ts) (hb : base' ≤ base) : OwnList w base' lo v ts := by
  obtain ⟨nvs, hl, hr, hn⟩ := h
  exact ⟨nvs, hl, own_more hr hb, hn⟩
theorem OwnList.lo_ {w : World} {base lo lo' : Nat} {v : Value} {ts : List Tr} (h : OwnList w base lo v ts) (hb : lo' ≤ lo) : OwnList w base lo' v ts := by
  obtain ⟨nvs, hl, hr, hn⟩ := h
  exact ⟨nvs, hl, hr, fun j t nv h1 h2 => ⟨(hn j t nv h1 h2).1.more fun b h => ⟨Nat.le_trans hb h.1, h.2⟩, (hn j t nv h1 h2).2⟩⟩
theorem OwnList.below {w w' : World} {base lo : Nat} {v : Value} {ts : List Tr} (h : OwnList w base lo v ts) (hb : Below w.heap.size w w') : OwnList w' base lo v ts := by
  obtain ⟨nvs, hl, hr, hn⟩ := h
  refine ⟨nvs, hl, hr.kept (only_of_below hb none) ?_, fun j t nv h1 h2 => ⟨((hn j t nv h1 h2).1.below hb fun _ h => h.2.1).more fun b h => ⟨h.1, Nat.lt_of_lt_of_le h.2.1 hb.size, h.2.2.1, h.2.2.2.below hb h.2.1⟩, (hn j t nv h1 h2).2⟩⟩
  cases hv : v.ownBlock with
  | none => exact .inl rfl
  | some g => exact .inr (by simp)
theorem OwnList.push {w w' : World} {base lo : Nat} {v v' : Value} {ts : List Tr} {t : Tr} {nv : Value} {S : Nat → Prop} {nvs : List Value} (hl : nvs.length = ts.length)
    (hn : ∀ (j : Nat) (t : Tr) (nv : Value), ts[j]? = some t → nvs[j]? = some nv → RNodes w (fun b => lo ≤ b ∧ b < w.heap.size ∧ v.ownBlock ≠ some b ∧ Soft w b) nv t.nodes ∧ -9223372036854775808 ≤ t.root ∧ t.root ≤ 9223372036854775807)
    (ht : RNodes w S nv t.nodes) (hS : ∀ b, S b → lo ≤ b ∧ b < w.heap.size ∧ v.ownBlock ≠ some b ∧ Soft w b) (h1 : -9223372036854775808 ≤ t.root) (h2 : t.root ≤ 9223372036854775807)
    (hr : w'.ownsRow base 34 2 v' (ts.length + 1) (treesCells ts nvs ++ [nv, .int .i64 t.root])) (hg : w.grownBy w' v.ownBlock) (hat : v'.ownBlock = v.ownBlock ∨ ∀ g, v'.ownBlock = some g → w.heap.size ≤ g) : OwnList w' base lo v' (ts ++ [t]) := by
  have hne : ∀ b, lo ≤ b ∧ b < w.heap.size ∧ v.ownBlock ≠ some b ∧ Soft w b → lo ≤ b ∧ b < w'.heap.size ∧ v'.ownBlock ≠ some b ∧ Soft w' b := fun b hb => by
    refine ⟨hb.1, Nat.lt_of_lt_of_le hb.2.1 hg.size, fun e => ?_, hb.2.2.2.grown hg hb.2.1 fun e => hb.2.2.1 e.symm⟩
    rcases hat with h | h
    · exact hb.2.2.1 (h ▸ e)
    · have := h b e; have := hb.2.1; omega
  refine ⟨nvs ++ [nv], by simp [hl], ?_, fun j u mv hj hm => ?_⟩
  · rw [treesCells_snoc ts nvs hl, List.length_append]
    exact hr
  · rcases Nat.lt_or_ge j ts.length with hjl | hjl
    · rw [List.getElem?_append_left hjl] at hj
      rw [List.getElem?_append_left (by omega)] at hm
      obtain ⟨ha, hb⟩ := hn j u mv hj hm
      exact ⟨(ha.grown hg fun b h => ⟨h.2.1, fun e => h.2.2.1 e⟩).more hne, hb⟩
    · rw [List.getElem?_append_right hjl] at hj
      rw [List.getElem?_append_right (by omega)] at hm
      have h0 : j - ts.length = 0 := by
        rcases Nat.eq_zero_or_pos (j - ts.length) with h | h
        · exact h
        · rw [List.getElem?_eq_none (by simp; omega)] at hj; cases hj
      rw [h0] at hj
      rw [show j - nvs.length = 0 by omega] at hm
      simp at hj hm
      subst hj; subst hm
      exact ⟨((ht.more hS).grown hg fun b h => ⟨h.2.1, fun e => h.2.2.1 e⟩).more hne, h1, h2⟩
theorem OwnList.reads {w : World} {base lo : Nat} {v : Value} {ts : List Tr} (h : OwnList w base lo v ts) : RTrees w (fun b => (base ≤ b ∨ lo ≤ b) ∧ b < w.heap.size) v ts := by
  obtain ⟨nvs, hl, hr, hn⟩ := h
  refine ⟨nvs, hl, Row.of_own hr (fun g hg => ⟨.inl (own_blk_lt hr hg).1, (own_blk_lt hr hg).2⟩) (own_small hr), fun j t nv h1 h2 => ⟨(hn j t nv h1 h2).1.more fun b h => ⟨.inr h.1, h.2.1⟩, (hn j t nv h1 h2).2⟩⟩
theorem OwnList.read {w : World} {base lo : Nat} {v : Value} {ts : List Tr} (h : OwnList w base lo v ts) : RTrees w (fun b => b < w.heap.size) v ts := h.reads.more fun _ h => h.2
theorem tree_info : (Tryd.prog.info? 34).map (fun i => (i.zero, i.size, i.bytes)) = some (some (.agg #[.slice none 0 0, .int .i64 0]), 2, 32) := by kernel_rfl

/-- The kids of a tree, clean. -/
noncomputable def kidsOfT (t : Tr) : List Tr := if RightT t then (treeOf t).kids.map flatT else []
theorem kids_root {t : Tr} (hr : RightT t) {N : Nd} (hN : t.nodes[t.root.toNat]? = some N) : kidsOfT t = N.kids.map fun k => flatT (D t.nodes k.toNat) := by
  rw [kidsOfT, if_pos hr, treeOf, D_eq hr.shape.low hN]
  simp [T.kids, List.map_map, Function.comp_def]

structure KidsRel (t : Tr) (A : Option Addr) (c B : Nat) (w : World) (vo : Value) (ts : List Tr) (wr : World) : Prop where
  box : Blk wr B 34 #[.slice A t.nodes.length c, .int .i64 t.root]
  out : OwnList wr (B + 1) B vo ts
  below : Below B w wr

set_option maxHeartbeats 4000000 in
theorem Kids_g {t : Tr} {v : Value} {S : Nat → Prop} {w : World} (h : Given t v S w) :
    Calls Tryd.prog 61 #[v] w fun e w' => ∃ u, e = .returned u ∧ OwnList w' w.heap.size w.heap.size u (kidsOfT t) ∧ Below w.heap.size w w' := by
  have HR := Lib.hid (fun wx (hx : Below w.heap.size w wx) => right_g (h.below hx))
  have HG := Lib.hid h
  obtain ⟨nv, rfl, hns, hr1, hr2⟩ := h.read
  obtain ⟨A, c, rfl, hc, hs, _⟩ := hns.at_
  clear h hns
  by_cases hr : RightT t
  · rw [decide_eq_true hr] at HR
    obtain ⟨rn, hrn⟩ : ∃ rn : Nat, t.root = (rn : Int) := ⟨t.root.toNat, by have := hr.shape.pos; omega⟩
    have hrl : rn < t.nodes.length := by have := hr.shape.root_lt; omega
    have hrl' : (rn : Int) < (t.nodes.length : Int) := by omega
    obtain ⟨N, hN⟩ : ∃ N, t.nodes[rn]? = some N := ⟨_, List.getElem?_eq_getElem hrl⟩
    have hK : kidsOfT t = N.kids.map fun k => flatT (D t.nodes k.toNat) := kids_root hr (by rw [hrn]; exact hN)
    have HKD := Lib.hid hK
    have HN := Lib.hid hN
    have HRT := Lib.hid hr
    have HRN := Lib.hid hrn
    have hkl := hr.kids_le N (List.mem_of_getElem? hN)
    have hsm := HG.out.small
    obtain ⟨b, off, Ak, ck, rfl, hbS, hki, _, _, _, _, _, _, _, _, _, c8⟩ := (HasT.nodes ((HG.out.read).has HG.out.old)).get rn N hN
    have HKI := Lib.hid hki
    have HC8 := Lib.hid c8
    rw [hrn] at HR ⊢
    clear hr hN hK hrn hki c8
    go_enter Tryd.func61, Tryd.ntmps61
    go_wp2_with fail
    refine (HR.out _ ((Below.refl _ _).alloc (Nat.le_refl _) _)).mono ?_
    rintro e w1 ⟨rfl, hb1⟩
    have hb01 : Below w.heap.size w w1 := ((Below.refl _ _).alloc (Nat.le_refl _) _).trans (hb1.mono (by simp <;> omega))
    have hB1 : Blk w1 w.heap.size 34 #[.slice (some ⟨b, off, none⟩) t.nodes.length c, .int .i64 rn] := (Blk.new w _ _).below hb1 (by simp)
    have d0 : w1.cell? ⟨w.heap.size, 0, none⟩ = some (.slice (some ⟨b, off, none⟩) t.nodes.length c) := hB1.cell 0
    have d1 : w1.cell? ⟨w.heap.size, 1, none⟩ = some (.int .i64 rn) := hB1.cell 1
    have c8 : w1.cell? ⟨b, off + rn * 9 + 8, none⟩ = some (.slice Ak N.kids.length ck) := (hb01.cell (p := ⟨b, off + rn * 9 + 8, none⟩) hbS).trans HC8.out
    have HB1 := Lib.hid hB1
    have HW1 := Lib.hid hb01
    clear hb1 hB1 hb01
    go_wp2_with fail
    have H0 : Hid (KidsRel t (some ⟨b, off, none⟩) c w.heap.size w (.slice none 0 0) [] w1) := Lib.hid ⟨by rw [HRN.out]; exact HB1.out, OwnList.nil_ _ _ _, HW1.out⟩
    clear d0 d1 c8
    go_loopw [3, 18] (fun vo i wr => ∃ (j : Nat) (Ao : Option Addr) (co : Nat), j ≤ N.kids.length ∧ i = .int .i64 j ∧ vo = .slice Ao j co ∧ Hid (KidsRel t (some ⟨b, off, none⟩) c w.heap.size w (.slice Ao j co) ((N.kids.take j).map fun k => flatT (D t.nodes k.toNat)) wr)) (fun _ i _ => N.kids.length - (intOf i).toNat)
    case atStart => exact ⟨0, none, 0, Nat.zero_le _, rfl, rfl, H0⟩
    case round =>
      obtain ⟨wo, rfl⟩ : ∃ wo, wo = wr := ⟨_, rfl⟩
      obtain ⟨j, Ao, co, hj, rfl, rfl, HREL⟩ := hrel
      by_cases hlt : j < N.kids.length
      · have hlt' : (j : Int) < (N.kids.length : Int) := by omega
        obtain ⟨k, hk⟩ : ∃ k, N.kids[j]? = some k := ⟨_, List.getElem?_eq_getElem hlt⟩
        have hkl2 := HRT.out.shape.low rn N HN.out k (List.mem_of_getElem? hk)
        obtain ⟨y, rfl⟩ : ∃ y : Nat, k = (y : Int) := ⟨k.toNat, by omega⟩
        have hyl : y < t.nodes.length := by omega
        have d0 : wo.cell? ⟨w.heap.size, 0, none⟩ = some (.slice (some ⟨b, off, none⟩) t.nodes.length c) := HREL.out.box.cell 0
        have d1 : wo.cell? ⟨w.heap.size, 1, none⟩ = some (.int .i64 rn) := by rw [← HRN.out]; exact HREL.out.box.cell 1
        obtain ⟨bk, ok, rfl, hbk, hkc⟩ := HKI.out.get j _ hk
        have q0 : wo.cell? ⟨bk, ok + j, none⟩ = some (.int .i64 (y : Int)) := (HREL.out.below.cell (p := ⟨bk, ok + j, none⟩) hbk).trans hkc
        have HP := Lib.hid (put_nil (HG.out.below HREL.out.below) HRT.out (y : Int) (by omega) (by simpa using hyl) wo.heap.size (Nat.le_refl _))
        have HKJ := Lib.hid hk
        obtain ⟨sz, hsz⟩ : ∃ sz, sz = (D t.nodes y).size := ⟨_, rfl⟩
        simp only [Int.toNat_natCast, ← hsz, HRN.out] at HP
        have hszl : sz ≤ 500000 := by have := size_le HRT.out.shape y hyl; omega
        have hszp : 0 < sz := hsz ▸ T.size_pos _
        have HSZ := Lib.hid hsz
        have hBw := HREL.out.box.lt
        obtain ⟨i0, hi0, hz0, hz1, hz2⟩ := info_parts tree_info
        clear hk hkc hkl2 hsz
        go_wp2_with fail
        refine HP.out.mono ?_
        rintro e w3 ⟨A3, c3, rfl, ho3, hb3⟩
        have HREL3 : Hid (KidsRel t (some ⟨b, off, none⟩) c w.heap.size w (.slice Ao j co) ((N.kids.take j).map fun k => flatT (D t.nodes k.toNat)) w3) := Lib.hid ⟨HREL.out.box.below hb3 HREL.out.box.lt, HREL.out.out.below hb3, HREL.out.below.trans (hb3.mono HREL.out.below.size)⟩
        obtain ⟨nvs, hnl, hrow, hns⟩ := id HREL3.out.out
        have htl : ((N.kids.take j).map fun k => flatT (D t.nodes k.toNat)).length = j := by simp; omega
        have hrow2 := hrow
        rw [htl] at hrow2
        have HROW := Lib.hid hrow2
        have HNS := Lib.hid hns
        have HNL := Lib.hid hnl
        have HTL := Lib.hid htl
        have HO3 := Lib.hid ho3
        have hs3 := hb3.size
        have HB3 := Lib.hid hb3
        clear hrow hrow2 hns hnl htl ho3 hb3 d0 d1 q0
        go_wp2_with (at_builtin
                     go_loud (refine wpList_append1 w3 rfl (.tmp 25) (.tmp 31) _ rfl (w.heap.size + 1) 34 i0 _ 2 32 Tryd.underlying48 hi0 hz0 hz1 hz2 rfl (by omega) (.slice Ao j co) j (treesCells ((N.kids.take j).map fun k => flatT (D t.nodes k.toNat)) nvs) rfl HROW.out [_, _] rfl rfl (by simp [Value.oneCell']) (by unfold maxLen; omega) (by omega) (by omega) ?_)
                     intro v4 w4 hown4 hg4 hat4
                     obtain ⟨A4, c4, rfl, _, _, _⟩ := own_slice hown4
                     have HOW4 := Lib.hid hown4
                     have HG4 := Lib.hid hg4
                     have HAT4 := Lib.hid hat4
                     clear hown4 hg4 hat4)
        go_roundw
        case measure => simp [intOf]; omega
        case rel =>
          have hroot : (flatT (D t.nodes y)).root = (sz : Int) - 1 := by rw [HSZ.out]; rfl
          have hvl : ∀ g, (Value.slice Ao j co).ownBlock = some g → w.heap.size + 1 ≤ g ∧ g < wo.heap.size := fun g e => by
            obtain ⟨_, _, hr0, _⟩ := HREL.out.out
            exact own_blk_lt hr0 e
          refine ⟨j + 1, A4, c4, by omega, by go_num, rfl, Lib.hid ⟨HREL3.out.box.grown HG4.out (fun e => by have := (hvl _ e.symm).1; omega), ?_, HREL3.out.below.trans (below_of_grown HG4.out HREL3.out.below.size fun g e => by have := (hvl g e).1; omega)⟩⟩
          have e1 : (N.kids.take (j + 1)).map (fun k => flatT (D t.nodes k.toNat)) = (N.kids.take j).map (fun k => flatT (D t.nodes k.toNat)) ++ [flatT (D t.nodes y)] := by
            rw [List.take_add_one, HKJ.out]; simp
          rw [e1]
          obtain ⟨kvs, hk⟩ := HO3.out
          have hn3 := hk.nodesS (S := fun b => wo.heap.size ≤ b ∧ b < w3.heap.size ∧ Soft w3 b) (fun b h1 h2 _ h3 => ⟨h1, h2, h3⟩)
          refine OwnList.push HNL.out HNS.out hn3 (fun b hb => ⟨by have := hb.1; omega, hb.2.1, fun e => by have := (hvl b e).2; have := hb.1; omega, hb.2.2⟩) (by rw [hroot]; omega) (by rw [hroot]; omega) ?_ HG4.out ?_
          · rw [hroot, HTL.out]; exact HOW4.out
          · rcases HAT4.out with h | h
            · exact .inl h
            · exact .inr fun g hg => by rw [h] at hg; injection hg; omega
      · have hje : j = N.kids.length := by omega
        subst hje
        go_wp2_with fail
        go_ret
        refine ⟨_, rfl, ?_, HREL.out.below⟩
        have := HREL.out.out
        rw [List.take_length, ← HKD.out] at this
        exact this.base_ (by omega)
  · rw [decide_eq_false hr] at HR
    go_enter Tryd.func61, Tryd.ntmps61
    go_wp2_with fail
    refine (HR.out _ ((Below.refl _ _).alloc (Nat.le_refl _) _)).mono ?_
    rintro e w1 ⟨rfl, hb1⟩
    have hb01 : Below w.heap.size w w1 := ((Below.refl _ _).alloc (Nat.le_refl _) _).trans (hb1.mono (by simp <;> omega))
    have HV := Lib.hid (show kidsOfT t = [] from if_neg hr)
    have HW1 := Lib.hid hb01
    clear hb1 hb01 hr
    go_wp2_with fail
    go_ret
    exact ⟨_, rfl, by rw [HV.out]; exact OwnList.nil_ _ _ _, HW1.out⟩
/-- What Of answers. -/
noncomputable def ofB (d : Dt) (ts : List Tr) : Bool := decide (fits d ts.length = true ∧ ∀ t ∈ ts, RightT t)
noncomputable def ofT (d : Dt) (ts : List Tr) : Tr := if fits d ts.length = true ∧ ∀ t ∈ ts, RightT t then flatT (.node d (ts.map treeOf)) else zeroT
theorem IsOf.eq {d : Dt} {ts : List Tr} {x : Tr} {is : Bool} (h : IsOf d ts x is) : is = ofB d ts ∧ x = ofT d ts := by
  unfold ofB ofT
  by_cases hh : fits d ts.length = true ∧ ∀ t ∈ ts, RightT t
  · rw [if_pos hh, decide_eq_true hh]; exact h.yes hh.1 hh.2
  · rw [if_neg hh, decide_eq_false hh]; exact h.no hh
end Go.Proofs.YtclfpjfjebheoaaDoor
/- Boxes of trees: what is known of them in a region whose order is drawn. -/
namespace Go.Proofs.YtclfpjfjebheoaaDoor
open Go.RowKit

abbrev TT : Nat → TypeId := fun _ => 34
abbrev ZT : Nat → Array Value := fun _ => #[.slice none 0 0, .int .i64 0]
def RFreeT (t : Tr) : Value → BG × World → Prop := RFree fun w S v => RTree w S v t
theorem RFreeT.keep {T : Nat → TypeId} {Z : Nat → Array Value} {t : Tr} {v : Value} {s s' : BG × World} (h : BE T Z s s') (hr : RFreeT t v s) : RFreeT t v s' := RFree.keep (R := fun w S v => RTree w S v t) (fun h hk => RTree.keep h hk) h hr
theorem RFreeT.own {T : Nat → TypeId} {Z : Nat → Array Value} {x : Tr} {u : Value} {γ : BG} {w w' : World} (h : OwnTree w' w.heap.size u x) (h1 : -9223372036854775808 ≤ x.root) (h2 : x.root ≤ 9223372036854775807) (hok : BoxOK T Z (γ, w)) : RFreeT x u (γ, w') :=
  ⟨fun b => w.heap.size ≤ b ∧ b < w'.heap.size, h.read (fun b h1 h2 => ⟨h1, h2⟩) h1 h2, fun b hb => ⟨hb.2, fun i c e => by have := hok.lt (i := i) e; have := hb.1; simp only at *; omega⟩⟩
theorem RFreeT.has {t : Tr} {v : Value} {s : BG × World} (h : RFreeT t v s) : HasT s.2 v t := by
  obtain ⟨S, h1, h2⟩ := h
  exact h1.has fun b hb => (h2 b hb).1
theorem RFreeT.agg {t : Tr} {v : Value} {s : BG × World} (h : RFreeT t v s) : ∃ A n c, v = .agg #[.slice A n c, .int .i64 t.root] := by
  obtain ⟨S, ⟨nv, rfl, hn, _⟩, _⟩ := h
  obtain ⟨A, c, rfl, _⟩ := hn.at_
  exact ⟨A, _, c, rfl⟩
def RFreeL (ts : List Tr) : Value → BG × World → Prop := RFree fun w S v => RTrees w S v ts
theorem RFreeL.keep {T : Nat → TypeId} {Z : Nat → Array Value} {ts : List Tr} {v : Value} {s s' : BG × World} (h : BE T Z s s') (hr : RFreeL ts v s) : RFreeL ts v s' := RFree.keep (R := fun w S v => RTrees w S v ts) (fun h hk => RTrees.keep h hk) h hr
theorem RFreeL.own {T : Nat → TypeId} {Z : Nat → Array Value} {ts : List Tr} {u : Value} {γ : BG} {w w' : World} (h : OwnList w' w.heap.size w.heap.size u ts) (hok : BoxOK T Z (γ, w)) : RFreeL ts u (γ, w') :=
  ⟨fun b => w.heap.size ≤ b ∧ b < w'.heap.size, h.reads.more (fun b h => ⟨by rcases h.1 with h | h <;> exact h, h.2⟩), fun b hb => ⟨hb.2, fun i c e => by have := hok.lt (i := i) e; have := hb.1; simp only at *; omega⟩⟩
theorem RFreeL.read {ts : List Tr} {v : Value} {s : BG × World} (h : RFreeL ts v s) : RTrees s.2 (fun b => b < s.2.heap.size) v ts := by
  obtain ⟨S, h1, h2⟩ := h
  exact h1.more fun b hb => (h2 b hb).1
def RFillT (i : Nat) (t : Tr) : Value → BG × World → Prop := RFill i fun c s => RFreeT t (.agg c) s
theorem RFillT.keep {T : Nat → TypeId} {Z : Nat → Array Value} {i : Nat} {t : Tr} {v : Value} {s s' : BG × World} (h : BE T Z s s') (hr : RFillT i t v s) : RFillT i t v s' := RFill.keep (F := fun c s => RFreeT t (.agg c) s) (fun _ _ _ h hc => RFreeT.keep h hc) h hr
theorem BE.below_drew {T : Nat → TypeId} {Z : Nat → Array Value} {γ : BG} {w0 w : World} (h : BE T Z (BG.none_, w0.drew) (γ, w)) : Below w0.heap.size w0 w := ⟨h.below.os, h.below.tape, h.below.output, h.below.size, h.below.block⟩
theorem RBox.made {i g : Nat} {c : Option (Array Value)} {γ : BG} {w : World} : RBox i (.pointer (some ⟨g, 0, none⟩)) (γ.upd i (g, c), w) := ⟨g, c, rfl, if_pos rfl⟩
/-- A box is filled with a tree. -/
theorem fill_box {i : Nat} {t : Tr} {v u : Value} {γ : BG} {w0 w : World} (hE : BE TT ZT (BG.none_, w0) (γ, w)) (hN : ∀ g c, γ i ≠ some (g, some c)) (hb : RBox i v (γ, w)) (hr : RFreeT t u (γ, w)) :
    ∃ g A n c γ', v = .pointer (some ⟨g, 0, none⟩) ∧ u = .agg #[.slice A n c, .int .i64 t.root] ∧ w.cell? ⟨g, 0, none⟩ = some (.slice none 0 0) ∧ w.cell? ⟨g, 1, none⟩ = some (.int .i64 0) ∧ w.frozen? ⟨g, 0, none⟩ = false ∧ w.frozen? ⟨g, 1, none⟩ = false ∧
      BE TT ZT (γ, w) (γ', (w.setCell ⟨g, 0, none⟩ (.slice A n c)).setCell ⟨g, 1, none⟩ (.int .i64 t.root)) ∧ (∀ (kinds : List BoxKind) (s : Nat), onlyStore kinds s i = true → ∀ j, j ≠ s → BN kinds j γ → BN kinds j γ') ∧
      RFillT i t undef (γ', (w.setCell ⟨g, 0, none⟩ (.slice A n c)).setCell ⟨g, 1, none⟩ (.int .i64 t.root)) := by
  obtain ⟨g, c, rfl, hg⟩ := hb
  simp only at hg
  cases c with
  | some c => exact absurd hg (hN g c)
  | none =>
    have hB : Blk w g 34 #[.slice none 0 0, .int .i64 0] := hE.boxes.blank i g hg
    obtain ⟨A, n, k, rfl⟩ := hr.agg
    have hs := BE.store (T := TT) (Z := ZT) hg (grown_set2 w g 0 1 (.slice A n k) (.int .i64 t.root)) (Blk.set2 hB (.slice A n k) (.int .i64 t.root))
    exact ⟨g, A, n, k, _, rfl, rfl, hB.cell 0, hB.cell 1, hB.frozen 0, hB.frozen 1, hs, fun kinds s h1 => BN.store hg h1, ⟨g, _, if_pos rfl, hr.keep hs⟩⟩
/-- What is left behind the region: a box that holds a tree. -/
theorem box_tree {Z : Nat → Array Value} {i : Nat} {t : Tr} {v u : Value} {γ : BG} {w0 w : World} (hE : BE TT Z (BG.none_, w0) (γ, w)) (hb : RBox i v (γ, w)) (hf : RFillT i t u (γ, w)) :
    ∃ g A n c, v = .pointer (some ⟨g, 0, none⟩) ∧ Blk w g 34 #[.slice A n c, .int .i64 t.root] ∧ HasT w (.agg #[.slice A n c, .int .i64 t.root]) t := by
  obtain ⟨g, c, rfl, hg⟩ := hb
  obtain ⟨g', c', hg', hr⟩ := hf
  simp only at hg hg'
  rw [hg] at hg'
  injection hg' with e
  injection e with e1 e2
  subst e1; subst e2
  obtain ⟨A, n, k, e⟩ := hr.agg
  injection e with e
  subst e
  exact ⟨g, A, n, k, rfl, hE.boxes.full i g _ hg, hr.has⟩
end Go.Proofs.YtclfpjfjebheoaaDoor
/- Boxes of trees that lie in new memory: what is known of them in a region whose order is drawn. -/
namespace Go.Proofs.YtclfpjfjebheoaaDoor
open Go.RowKit

theorem flat_root (x : T) (h : x.size ≤ 1000000) : -9223372036854775808 ≤ (flatT x).root ∧ (flatT x).root ≤ 9223372036854775807 := by
  have : (flatT x).root = (x.size : Int) - 1 := rfl
  omega
/-- A tree that reads in soft blocks from lo on, none of them a box. -/
def RG (lo : Nat) (t : Tr) : Value → BG × World → Prop := fun v s => ∃ S, RTree s.2 S v t ∧ ∀ b, S b → b < s.2.heap.size ∧ lo ≤ b ∧ Soft s.2 b ∧ ∀ i c, s.1 i ≠ some (b, c)
theorem RG.keep {T : Nat → TypeId} {Z : Nat → Array Value} {lo : Nat} {t : Tr} {v : Value} {s s' : BG × World} (h : BE T Z s s') (hr : RG lo t v s) : RG lo t v s' := by
  obtain ⟨S, h1, h2⟩ := hr
  refine ⟨S, h1.keep fun p hp => World.cell?_of_block (h.same _ (h2 _ hp).1 (h2 _ hp).2.2.2), fun b hb => ⟨Nat.lt_of_lt_of_le (h2 b hb).1 h.size, (h2 b hb).2.1, (h2 b hb).2.2.1.of_block (h.same _ (h2 _ hb).1 (h2 _ hb).2.2.2), h.notBox (h2 b hb).1 (h2 b hb).2.2.2⟩⟩
theorem OwnTree.soft {w : World} {base : Nat} {v : Value} {t : Tr} (h : OwnTree w base v t) (h1 : -9223372036854775808 ≤ t.root) (h2 : t.root ≤ 9223372036854775807) : RTree w (fun b => base ≤ b ∧ b < w.heap.size ∧ Soft w b) v t := by
  obtain ⟨nv, rfl, kvs, hk⟩ := h
  exact ⟨nv, rfl, hk.nodesS fun b h1 h2 _ h3 => ⟨h1, h2, h3⟩, h1, h2⟩
theorem RG.own {T : Nat → TypeId} {Z : Nat → Array Value} {lo : Nat} {x : Tr} {u : Value} {γ : BG} {w w' : World} (h : OwnTree w' w.heap.size u x) (h1 : -9223372036854775808 ≤ x.root) (h2 : x.root ≤ 9223372036854775807) (hl : lo ≤ w.heap.size) (hok : BoxOK T Z (γ, w)) : RG lo x u (γ, w') :=
  ⟨_, h.soft h1 h2, fun b hb => ⟨hb.2.1, Nat.le_trans hl hb.1, hb.2.2, fun i c e => by have := hok.lt (i := i) e; have := hb.1; simp only at *; omega⟩⟩
theorem RG.agg {lo : Nat} {t : Tr} {v : Value} {s : BG × World} (h : RG lo t v s) : ∃ A n c, v = .agg #[.slice A n c, .int .i64 t.root] := by
  obtain ⟨S, ⟨nv, rfl, hn, _⟩, _⟩ := h
  obtain ⟨A, c, rfl, _⟩ := hn.at_
  exact ⟨A, _, c, rfl⟩
theorem RG.has {lo : Nat} {t : Tr} {v : Value} {s : BG × World} (h : RG lo t v s) : RTree s.2 (fun b => lo ≤ b ∧ b < s.2.heap.size ∧ Soft s.2 b) v t := by
  obtain ⟨S, h1, h2⟩ := h
  exact h1.more fun b hb => ⟨(h2 b hb).2.1, (h2 b hb).1, (h2 b hb).2.2.1⟩
def RFillG (i lo : Nat) (t : Tr) : Value → BG × World → Prop := RFill i fun c s => RG lo t (.agg c) s
theorem RFillG.keep {T : Nat → TypeId} {Z : Nat → Array Value} {i lo : Nat} {t : Tr} {v : Value} {s s' : BG × World} (h : BE T Z s s') (hr : RFillG i lo t v s) : RFillG i lo t v s' := RFill.keep (F := fun c s => RG lo t (.agg c) s) (fun _ _ _ h hc => RG.keep h hc) h hr
theorem fill_boxG {i lo : Nat} {t : Tr} {v u : Value} {γ : BG} {w0 w : World} (hE : BE TT ZT (BG.none_, w0) (γ, w)) (hN : ∀ g c, γ i ≠ some (g, some c)) (hb : RBox i v (γ, w)) (hr : RG lo t u (γ, w)) :
    ∃ g A n c γ', v = .pointer (some ⟨g, 0, none⟩) ∧ u = .agg #[.slice A n c, .int .i64 t.root] ∧ w.cell? ⟨g, 0, none⟩ = some (.slice none 0 0) ∧ w.cell? ⟨g, 1, none⟩ = some (.int .i64 0) ∧ w.frozen? ⟨g, 0, none⟩ = false ∧ w.frozen? ⟨g, 1, none⟩ = false ∧
      BE TT ZT (γ, w) (γ', (w.setCell ⟨g, 0, none⟩ (.slice A n c)).setCell ⟨g, 1, none⟩ (.int .i64 t.root)) ∧ (∀ (kinds : List BoxKind) (s : Nat), onlyStore kinds s i = true → ∀ j, j ≠ s → BN kinds j γ → BN kinds j γ') ∧
      RFillG i lo t undef (γ', (w.setCell ⟨g, 0, none⟩ (.slice A n c)).setCell ⟨g, 1, none⟩ (.int .i64 t.root)) := by
  obtain ⟨g, c, rfl, hg⟩ := hb
  simp only at hg
  cases c with
  | some c => exact absurd hg (hN g c)
  | none =>
    have hB : Blk w g 34 #[.slice none 0 0, .int .i64 0] := hE.boxes.blank i g hg
    obtain ⟨A, n, k, rfl⟩ := hr.agg
    have hs := BE.store (T := TT) (Z := ZT) hg (grown_set2 w g 0 1 (.slice A n k) (.int .i64 t.root)) (Blk.set2 hB (.slice A n k) (.int .i64 t.root))
    exact ⟨g, A, n, k, _, rfl, rfl, hB.cell 0, hB.cell 1, hB.frozen 0, hB.frozen 1, hs, fun kinds s h1 => BN.store hg h1, ⟨g, _, if_pos rfl, hr.keep hs⟩⟩
theorem box_treeG {Z : Nat → Array Value} {i lo : Nat} {t : Tr} {v u : Value} {γ : BG} {w0 w : World} (hE : BE TT Z (BG.none_, w0) (γ, w)) (hb : RBox i v (γ, w)) (hf : RFillG i lo t u (γ, w)) :
    ∃ g A n c, v = .pointer (some ⟨g, 0, none⟩) ∧ Blk w g 34 #[.slice A n c, .int .i64 t.root] ∧ RTree w (fun b => lo ≤ b ∧ b < w.heap.size ∧ Soft w b) (.agg #[.slice A n c, .int .i64 t.root]) t := by
  obtain ⟨g, c, rfl, hg⟩ := hb
  obtain ⟨g', c', hg', hr⟩ := hf
  simp only at hg hg'
  rw [hg] at hg'
  injection hg' with e
  injection e with e1 e2
  subst e1; subst e2
  obtain ⟨A, n, k, e⟩ := hr.agg
  injection e with e
  subst e
  exact ⟨g, A, n, k, rfl, hE.boxes.full i g _ hg, hr.has⟩
end Go.Proofs.YtclfpjfjebheoaaDoor
/- Rows of numbers of the call's own, beside one another: what happens to one where the other grows. No program in sight but for types' numbers. -/
namespace Go.Proofs.YtclfpjfjebheoaaDoor
open Go.RowKit

def OInts (w : World) (base : Nat) (v : Value) (L : List Int) : Prop := w.ownsRow base 3 1 v L.length (L.map (Value.int .i64))
/-- Two rows lie apart. -/
def Ap (u v : Value) : Prop := ∀ g, u.ownBlock = some g → v.ownBlock ≠ some g
theorem Ap.symm {u v : Value} (h : Ap u v) : Ap v u := fun g h1 h2 => h g h2 h1
theorem Ap.nil_ (v : Value) (c : Nat) : Ap (.slice none 0 c) v := fun g h => by simp [Value.ownBlock] at h
theorem Ap.far {w : World} {u v : Value} (hu : ∀ g, u.ownBlock = some g → g < w.heap.size) (hv : ∀ g, v.ownBlock = some g → w.heap.size ≤ g) : Ap u v := fun g h1 h2 => by have := hu g h1; have := hv g h2; omega
theorem Ap.kept {u v : Value} (h : Ap u v) : u.ownBlock = none ∨ u.ownBlock ≠ v.ownBlock := by
  cases hu : u.ownBlock with
  | none => exact .inl rfl
  | some g => exact .inr fun e => h g hu e.symm
theorem OInts.lt {w : World} {base : Nat} {v : Value} {L : List Int} (h : OInts w base v L) : ∀ g, v.ownBlock = some g → base ≤ g ∧ g < w.heap.size := fun _ hg => own_blk_lt h hg
theorem OInts.nil_ (w : World) (base : Nat) : OInts w base (.slice none 0 0) [] := World.ownsRow_nil _ _ _ _
theorem OInts.slice {w : World} {base : Nat} {v : Value} {L : List Int} (h : OInts w base v L) : ∃ A c, v = .slice A L.length c ∧ L.length ≤ c ∧ c ≤ maxLen := by
  obtain ⟨A, c, h1, h2, h3, _⟩ := own_slice h
  exact ⟨A, c, h1, h2, h3⟩
theorem OInts.at_ {w : World} {base : Nat} {A : Option Addr} {n c : Nat} {L : List Int} (h : OInts w base (.slice A n c) L) {j : Nat} {k : Int} (hk : L[j]? = some k) : ∃ g, A = some ⟨g, 0, none⟩ ∧ n = L.length ∧ base ≤ g ∧ g < w.heap.size ∧ w.cell? ⟨g, j, none⟩ = some (.int .i64 k) := by
  obtain ⟨A', c', hv, _⟩ := OInts.slice h
  injection hv with hA hn hc
  subst hA hn hc
  have hl : j < L.length := (List.getElem?_eq_some_iff.1 hk).1
  obtain ⟨g, rfl, h1, h2, _⟩ := own_some h (by omega)
  refine ⟨g, rfl, rfl, h1, h2, ?_⟩
  have := World.ownsRow.cellAt h j (by omega)
  rw [this]; simp [hk]
theorem OInts.shrink {w : World} {base : Nat} {A : Option Addr} {n c m : Nat} {L : List Int} (h : OInts w base (.slice A n c) L) (hm : m ≤ L.length) : OInts w base (.slice A m c) (L.take m) := by
  obtain ⟨A', c', hv, _⟩ := OInts.slice h
  injection hv with hA hn hc
  subst hA hn hc
  have := own_shrink (m := m) h hm
  unfold OInts
  rw [List.length_take, Nat.min_eq_left hm, List.map_take]
  simpa using this
theorem OInts.frame {w w' : World} {base : Nat} {u : Value} {L : List Int} {r : Option Nat} (h : OInts w base u L) (hg : w.grownBy w' r) (hr : u.ownBlock = none ∨ u.ownBlock ≠ r) : OInts w' base u L := h.kept hg hr
theorem OInts.below {w w' : World} {base : Nat} {u : Value} {L : List Int} (h : OInts w base u L) (hb : Below w.heap.size w w') : OInts w' base u L := h.kept (only_of_below hb none) (by cases u.ownBlock <;> simp)
theorem OInts.alloc {w : World} {base : Nat} {u : Value} {L : List Int} (h : OInts w base u L) (o : Obj) : OInts (w.alloc o) base u L := h.below ((Below.refl _ _).alloc (Nat.le_refl _) _)
theorem OInts.base_ {w : World} {base base' : Nat} {u : Value} {L : List Int} (h : OInts w base u L) (hb : base' ≤ base) : OInts w base' u L := own_more h hb
/-- Where v grows to v1, u beside it stays, and lies apart from v1. -/
theorem OInts.beside {w w2 : World} {base N : Nat} {u v v1 : Value} {L : List Int} (hu : OInts w base u L) (hap : Ap u v) (hg : w.grownBy w2 v.ownBlock) (hat : v1.ownBlock = v.ownBlock ∨ v1.ownBlock = some N) (hN : w.heap.size ≤ N) : OInts w2 base u L ∧ Ap u v1 := by
  refine ⟨hu.frame hg hap.kept, fun g h1 h2 => ?_⟩
  rcases hat with e | e
  · exact hap g h1 (e ▸ h2)
  · rw [e] at h2; injection h2 with h2
    have := (hu.lt g h1).2
    omega
theorem OInts.lit1 (w : World) (base : Nat) (k : Int) (hb : base ≤ w.heap.size) : OInts (w.alloc (.cells #[.int .i64 k] 3)) base (.slice (some ⟨w.heap.size, 0, none⟩) 1 1) [k] := by
  have := World.ownsRow_lit (base := base) (e := 3) (size := 1) w #[.int .i64 k] 1 hb (by simp [maxLen]) rfl
  exact this
theorem OInts.push {w : World} {base : Nat} {v : Value} {L K : List Int} (h : w.ownsRow base 3 1 v (L.length + K.length) (L.map (Value.int .i64) ++ K.map (Value.int .i64))) : OInts w base v (L ++ K) := by
  unfold OInts
  rw [List.length_append, List.map_append]
  exact h
theorem OInts.push1 {w : World} {base : Nat} {v : Value} {L : List Int} {k : Int} (h : w.ownsRow base 3 1 v (L.length + 1) (L.map (Value.int .i64) ++ [.int .i64 k])) : OInts w base v (L ++ [k]) := OInts.push (K := [k]) h
theorem OInts.reads {w : World} {base B : Nat} {A : Option Addr} {n c : Nat} {L : List Int} (h : OInts w base (.slice A n c) L) (hB : w.heap.size ≤ B) : Reads w B 1 A L.length (L.map (Value.int .i64)) := by
  obtain ⟨A', c', hv, _⟩ := OInts.slice h
  injection hv with hA hn hc
  subst hA hn hc
  exact (Reads.of_own h).more hB
theorem setCell_size (w : World) (p : Addr) (u : Value) : (w.setCell p u).heap.size = w.heap.size := by simp [World.setCell]
/-- out = append(out, x), where the block that x lies in is named. -/
theorem wpList_append1N {P : Program} (w : World) (M : Nat) (hM : w.heap.size = M) {ops : Array Oper} {rest : List Oper} {o : Oper} {a : Act} {Q : Exit → Act → World → Prop} (hgd : o.guard = none) (s x : Operand) (t : TypeId)
    (ho : o.op = .call { callee := .builtin .append, args := #[s, x], argTypes := #[t, t] })
    (base : Nat) (e : TypeId) (i : TypeInfo) (z : Value) (size bytes : Nat) (ht : P.underlying t = some (.slice e)) (hi : P.info? e = some i) (hz : i.zero = some z)
    (hsize : i.size = size) (hby : i.bytes = bytes) (hzs : z.cells.size = size) (hsz : 0 < size)
    (v : Value) (n : Nat) (xs : List Value) (hs : a.eval s = v) (hown : w.ownsRow base e size v n xs)
    (news : List Value) (hnl : news.length = size) (hx : a.eval x = .slice (some ⟨M, 0, none⟩) 1 1) (h1 : ∀ u ∈ news, u.oneCell' = true)
    (h63 : n + 1 ≤ maxLen) (hbytes : (n + 1) * bytes ≤ 140737488355328) (hbase : base ≤ w.heap.size)
    (h : ∀ v' w', w'.ownsRow base e size v' (n + 1) (xs ++ news) → w.grownBy w' v.ownBlock → (v'.ownBlock = v.ownBlock ∨ v'.ownBlock = some (w.heap.size + 1)) → wpList P ops Q rest (a.put o.dst v') w') :
    wpList P ops Q (o :: rest) a (w.alloc (.cells news.toArray e)) := by
  subst hM
  exact wpList_append1 w hgd s x t ho base e i z size bytes ht hi hz hsize hby hzs hsz v n xs hs hown news hnl hx h1 h63 hbytes hbase h
end Go.Proofs.YtclfpjfjebheoaaDoor
/- What may be written over, and what stays readable: words. -/
namespace Go.Proofs.YtclfpjfjebheoaaDoor
open Go.RowKit

/-- Cells are as they were, but for numbers that were written over. -/
def Spoilt (w w' : World) : Prop := ∀ p : Addr, p.block < w.heap.size → w'.cell? p = w.cell? p ∨ (∃ z, w.cell? p = some (.int .i64 z) ∧ w'.cell? p = some (.int .i64 (-7))) ∨ (∃ z, w.cell? p = some (.int .u8 z) ∧ w'.cell? p = some (.int .u8 77))
def SoftKept (w w' : World) : Prop := ∀ b, b < w.heap.size → Soft w b → Soft w' b
section
variable {w w' w'' : World}
theorem Spoilt.refl (w : World) : Spoilt w w := fun _ _ => .inl rfl
theorem Spoilt.trans (h : Spoilt w w') (k : Spoilt w' w'') (hs : w.heap.size ≤ w'.heap.size) : Spoilt w w'' := fun p hp => by
  rcases h p hp with h1 | ⟨z, h1, h2⟩ | ⟨z, h1, h2⟩ <;> rcases k p (by omega) with k1 | ⟨z', k1, k2⟩ | ⟨z', k1, k2⟩
  · exact .inl (k1.trans h1)
  · exact .inr (.inl ⟨z', h1 ▸ k1, k2⟩)
  · exact .inr (.inr ⟨z', h1 ▸ k1, k2⟩)
  · exact .inr (.inl ⟨z, h1, k1.trans h2⟩)
  · exact .inr (.inl ⟨z, h1, k2⟩)
  · rw [h2] at k1; cases k1
  · exact .inr (.inr ⟨z, h1, k1.trans h2⟩)
  · rw [h2] at k1; cases k1
  · exact .inr (.inr ⟨z, h1, k2⟩)
theorem Spoilt.of_below (hb : Below w.heap.size w w') : Spoilt w w' := fun _ hp => .inl (hb.cell hp)
theorem SoftKept.of_below (hb : Below w.heap.size w w') : SoftKept w w' := fun _ hp h => h.below hb hp
theorem SoftKept.trans (h : SoftKept w w') (k : SoftKept w' w'') (hs : w.heap.size ≤ w'.heap.size) : SoftKept w w'' := fun b hb h1 => k b (by omega) (h b hb h1)
theorem SoftKept.setCell (h : SoftKept w w') (p : Addr) (u : Value) : SoftKept w (w'.setCell p u) := fun b hb h1 => (h b hb h1).setCell p u
theorem Spoilt.i64 (h : Spoilt w w') {p : Addr} {z : Int} (hp : p.block < w.heap.size) (hc : w.cell? p = some (.int .i64 z)) : ∃ z', w'.cell? p = some (.int .i64 z') ∧ (z' = z ∨ z' = -7) := by
  rcases h p hp with h1 | ⟨z', h1, h2⟩ | ⟨z', h1, h2⟩
  · exact ⟨z, h1.trans hc, .inl rfl⟩
  · exact ⟨-7, h2, .inr rfl⟩
  · rw [hc] at h1; cases h1
theorem Spoilt.u8 (h : Spoilt w w') {p : Addr} {z : Int} (hp : p.block < w.heap.size) (hc : w.cell? p = some (.int .u8 z)) : ∃ z', w'.cell? p = some (.int .u8 z') ∧ (z' = z ∨ z' = 77) := by
  rcases h p hp with h1 | ⟨z', h1, h2⟩ | ⟨z', h1, h2⟩
  · exact ⟨z, h1.trans hc, .inl rfl⟩
  · rw [hc] at h1; cases h1
  · exact ⟨77, h2, .inr rfl⟩
theorem Spoilt.same (h : Spoilt w w') {p : Addr} {u : Value} (hp : p.block < w.heap.size) (hc : w.cell? p = some u) (h1 : ∀ z, u ≠ .int .i64 z) (h2 : ∀ z, u ≠ .int .u8 z) : w'.cell? p = some u := by
  rcases h p hp with k1 | ⟨z', k1, k2⟩ | ⟨z', k1, k2⟩
  · exact k1.trans hc
  · rw [hc] at k1; injection k1 with k1; exact absurd k1 (h1 _)
  · rw [hc] at k1; injection k1 with k1; exact absurd k1 (h2 _)
theorem Spoilt.set_i64 (h : Spoilt w w') (hs : w.heap.size ≤ w'.heap.size) {p : Addr} {z : Int} (hc : w.cell? p = some (.int .i64 z)) (hc' : ∃ z', w'.cell? p = some (.int .i64 z')) : Spoilt w (w'.setCell p (.int .i64 (-7))) := fun q hq => by
  by_cases e : q = p
  · subst e
    obtain ⟨z', hz'⟩ := hc'
    exact .inr (.inl ⟨z, hc, World.cell?_setCell_same _ _ _ hz'⟩)
  · rw [World.cell?_setCell_other w' p q _ (fun e2 => e e2.symm)]
    exact h q hq
theorem Spoilt.set_u8 (h : Spoilt w w') (hs : w.heap.size ≤ w'.heap.size) {p : Addr} {z : Int} (hc : w.cell? p = some (.int .u8 z)) (hc' : ∃ z', w'.cell? p = some (.int .u8 z')) : Spoilt w (w'.setCell p (.int .u8 77)) := fun q hq => by
  by_cases e : q = p
  · subst e
    obtain ⟨z', hz'⟩ := hc'
    exact .inr (.inr ⟨z, hc, World.cell?_setCell_same _ _ _ hz'⟩)
  · rw [World.cell?_setCell_other w' p q _ (fun e2 => e e2.symm)]
    exact h q hq
end

/-- A tree that may be written over. -/
def WTree (w : World) (lo : Nat) (v : Value) (t : Tr) : Prop := RTree w (fun b => lo ≤ b ∧ b < w.heap.size ∧ Soft w b) v t
structure SpoilRel (lo B : Nat) (w : World) (cs : Array Value) (wr : World) : Prop where
  box : Blk wr B 34 cs
  below : Below lo w wr
  sp : Spoilt w wr
  soft : SoftKept w wr
theorem SpoilRel.next_i64 {lo B : Nat} {w wr : World} {cs : Array Value} {p : Addr} {z : Int} (h : SpoilRel lo B w cs wr) (hp : lo ≤ p.block) (hw : p.block < w.heap.size) (hB : w.heap.size ≤ B) (hc : w.cell? p = some (.int .i64 z)) : SpoilRel lo B w cs (wr.setCell p (.int .i64 (-7))) :=
  ⟨h.box.far (by omega) _, h.below.setCell hp _, h.sp.set_i64 h.below.size hc (by obtain ⟨z', h1, _⟩ := h.sp.i64 hw hc; exact ⟨z', h1⟩), h.soft.setCell _ _⟩
theorem SpoilRel.next_u8 {lo B : Nat} {w wr : World} {cs : Array Value} {p : Addr} {z : Int} (h : SpoilRel lo B w cs wr) (hp : lo ≤ p.block) (hw : p.block < w.heap.size) (hB : w.heap.size ≤ B) (hc : w.cell? p = some (.int .u8 z)) : SpoilRel lo B w cs (wr.setCell p (.int .u8 77)) :=
  ⟨h.box.far (by omega) _, h.below.setCell hp _, h.sp.set_u8 h.below.size hc (by obtain ⟨z', h1, _⟩ := h.sp.u8 hw hc; exact ⟨z', h1⟩), h.soft.setCell _ _⟩

/-- A tree of a row of trees: its two cells. -/
theorem RTrees.get {w : World} {S : Nat → Prop} {v : Value} {ts : List Tr} (h : RTrees w S v ts) (j : Nat) (t : Tr) (hj : ts[j]? = some t) : ∃ b off c A e, v = .slice (some ⟨b, off, none⟩) ts.length c ∧ S b ∧ RTree w S (.agg #[.slice A t.nodes.length e, .int .i64 t.root]) t ∧
    w.cell? ⟨b, off + j * 2, none⟩ = some (.slice A t.nodes.length e) ∧ w.cell? ⟨b, off + j * 2 + 1, none⟩ = some (.int .i64 t.root) := by
  obtain ⟨A, c, rfl, _, _, hr⟩ := h.at_
  have hl := (List.getElem?_eq_some_iff.1 hj).1
  obtain ⟨b, off, rfl, hS, hc⟩ := hr (by omega)
  obtain ⟨nv, hn, hrt, c0, c1⟩ := hc j t hj
  obtain ⟨A', e, rfl, _⟩ := hn.at_
  exact ⟨b, off, c, A', e, rfl, hS, ⟨_, rfl, hn, hrt⟩, c0, c1⟩
theorem list_of {α : Type} {P : Nat → α → Prop} : ∀ n : Nat, (∀ i, i < n → ∃ z, P i z) → ∃ zs : List α, zs.length = n ∧ ∀ (i : Nat) (z : α), zs[i]? = some z → P i z
  | 0, _ => ⟨[], rfl, fun i z h => by simp at h⟩
  | n + 1, h => by
    obtain ⟨zs, hl, hz⟩ := list_of n fun i hi => h i (by omega)
    obtain ⟨z, hn⟩ := h n (by omega)
    refine ⟨zs ++ [z], by simp [hl], fun i y hy => ?_⟩
    rcases Nat.lt_or_ge i n with hi | hi
    · rw [List.getElem?_append_left (by omega)] at hy; exact hz i y hy
    · rw [List.getElem?_append_right (by omega)] at hy
      have h0 : i - zs.length = 0 := by
        rcases Nat.eq_zero_or_pos (i - zs.length) with e | e
        · exact e
        · rw [List.getElem?_eq_none (by simp; omega)] at hy; cases hy
      rw [h0] at hy
      simp at hy
      have : i = n := by omega
      rw [this, ← hy]; exact hn
theorem RNodes.of_at {w : World} {S : Nat → Prop} {b off n c : Nat} (zs : List (Nd × Value)) (hl : zs.length = n) (hn : n ≤ maxLen) (hc : n ≤ c) (hb : 0 < n → S b)
    (h : ∀ (j : Nat) (z : Nd × Value), zs[j]? = some z → RInts w S z.2 z.1.kids ∧ z.1.d.Ok ∧ ∀ (i : Nat) (u : Value), (nodeCells z.1 z.2)[i]? = some u → w.cell? ⟨b, off + (j * 9 + i), none⟩ = some u) : RNodes w S (.slice (some ⟨b, off, none⟩) n c) (zs.map (·.1)) := by
  have hl1 : (zs.map (·.1)).length = n := by simp [hl]
  have hlen9 : (nodesCells (zs.map (·.1)) (zs.map (·.2))).length = (zs.map (·.1)).length * 9 := by
    clear h hl1 hl hb
    unfold nodesCells
    induction zs with
    | nil => simp
    | cons z zs ih => simp only [List.map_cons, List.zipWith_cons_cons, List.flatten_cons, List.length_append, List.length_cons, ih, show (nodeCells z.1 z.2).length = 9 from rfl]; omega
  refine ⟨zs.map (·.2), by simp, ⟨hlen9, by omega, some ⟨b, off, none⟩, c, by rw [hl1], by omega, fun hp => ⟨b, off, rfl, hb (by omega), fun j u hu => ?_⟩⟩, fun j N kv h1 h2 => ?_⟩
  · have hjl := (List.getElem?_eq_some_iff.1 hu).1
    rw [hlen9, hl1] at hjl
    have hj9 : j / 9 < zs.length := by omega
    have hjd : j / 9 * 9 + j % 9 = j := by omega
    rw [← hjd] at hu ⊢
    have hz : zs[j / 9]? = some zs[j / 9] := List.getElem?_eq_getElem hj9
    rw [nodesCells, zip_cells nodeCells 9 (fun _ _ => rfl) _ _ (j / 9) zs[j / 9].1 zs[j / 9].2 (by simp [hz]) (by simp [hz]) (j % 9) (by omega)] at hu
    exact (h _ _ hz).2.2 _ u hu
  · rw [List.getElem?_map] at h1 h2
    cases hj : zs[j]? with
    | none => rw [hj] at h1; cases h1
    | some z =>
      rw [hj] at h1 h2
      injection h1 with h1; injection h2 with h2
      subst h1; subst h2
      exact ⟨(h j z hj).1, (h j z hj).2.1⟩
theorem RInts.spoilt {w w' : World} {S : Nat → Prop} {v : Value} {ks : List Int} (h : RInts w S v ks) (hs : Spoilt w w') (hS : ∀ b, S b → b < w.heap.size) : ∃ ks', ks'.length = ks.length ∧ RInts w' S v ks' := by
  obtain ⟨A, c, rfl, h1, h2, h3⟩ := h.at_
  rcases Nat.eq_zero_or_pos ks.length with h0 | h0
  · refine ⟨[], by simp [h0], ?_⟩
    rw [h0]
    exact ⟨by simp, by simp [maxLen], A, c, rfl, Nat.zero_le _, fun h => by simp at h⟩
  · obtain ⟨b, off, rfl, hb, hc⟩ := h3 h0
    obtain ⟨zs, hl, hz⟩ := list_of (P := fun i z => w'.cell? ⟨b, off + i, none⟩ = some (.int .i64 z)) ks.length fun i hi => by
      obtain ⟨z', h4, _⟩ := hs.i64 (p := ⟨b, off + i, none⟩) (hS b hb) (hc i _ (List.getElem?_eq_getElem hi))
      exact ⟨z', h4⟩
    refine ⟨zs, hl, ⟨by simp, by omega, some ⟨b, off, none⟩, c, by rw [hl], by omega, fun _ => ⟨b, off, rfl, hb, fun j u hu => ?_⟩⟩⟩
    rw [List.getElem?_map] at hu
    cases hj : zs[j]? with
    | none => rw [hj] at hu; cases hu
    | some z => rw [hj] at hu; injection hu with hu; subst hu; exact hz j z hj
theorem RNodes.spoilt {w w' : World} {S : Nat → Prop} {v : Value} {ns : List Nd} (h : RNodes w S v ns) (hs : Spoilt w w') (hS : ∀ b, S b → b < w.heap.size) : ∃ ns', ns'.length = ns.length ∧ RNodes w' S v ns' := by
  obtain ⟨A, c, rfl, h1, h2, h3⟩ := h.at_
  rcases Nat.eq_zero_or_pos ns.length with h0 | h0
  · refine ⟨[], by simp [h0], ?_⟩
    rw [h0]
    exact ⟨[], rfl, ⟨by simp [nodesCells], by simp [maxLen], A, c, rfl, Nat.zero_le _, fun h => by simp at h⟩, fun j n kv h => by simp at h⟩
  · obtain ⟨b, off, rfl, hb, hc⟩ := h3 h0
    obtain ⟨zs, hl, hz⟩ := list_of (P := fun i (z : Nd × Value) => RInts w' S z.2 z.1.kids ∧ z.1.d.Ok ∧ ∀ (j : Nat) (u : Value), (nodeCells z.1 z.2)[j]? = some u → w'.cell? ⟨b, off + (i * 9 + j), none⟩ = some u) ns.length fun i hi => by
      obtain ⟨kv, hk, hd, hcell⟩ := hc i _ (List.getElem?_eq_getElem hi)
      obtain ⟨ks', _, hk'⟩ := hk.spoilt hs hS
      obtain ⟨A', ck, rfl, _⟩ := hk.at_
      obtain ⟨⟨d0, d1⟩, ⟨s0, s1, s2, s3⟩, dt, dm, dx⟩ := hd
      have hB := hS b hb
      obtain ⟨z0, q0, e0⟩ := hs.u8 (p := ⟨b, off + (i * 9 + 0), none⟩) hB (hcell 0 _ rfl)
      have q1 := hs.same (p := ⟨b, off + (i * 9 + 1), none⟩) hB (hcell 1 _ rfl) (fun z e => by cases e) (fun z e => by cases e)
      have q2 := hs.same (p := ⟨b, off + (i * 9 + 2), none⟩) hB (hcell 2 _ rfl) (fun z e => by cases e) (fun z e => by cases e)
      have q3 := hs.same (p := ⟨b, off + (i * 9 + 3), none⟩) hB (hcell 3 _ rfl) (fun z e => by cases e) (fun z e => by cases e)
      have q4 := hs.same (p := ⟨b, off + (i * 9 + 4), none⟩) hB (hcell 4 _ rfl) (fun z e => by cases e) (fun z e => by cases e)
      have q5 := hs.same (p := ⟨b, off + (i * 9 + 5), none⟩) hB (hcell 5 _ rfl) (fun z e => by cases e) (fun z e => by cases e)
      obtain ⟨z6, q6, e6⟩ := hs.i64 (p := ⟨b, off + (i * 9 + 6), none⟩) hB (hcell 6 _ rfl)
      obtain ⟨z7, q7, e7⟩ := hs.i64 (p := ⟨b, off + (i * 9 + 7), none⟩) hB (hcell 7 _ rfl)
      have q8 := hs.same (p := ⟨b, off + (i * 9 + 8), none⟩) hB (hcell 8 _ rfl) (fun z e => by cases e) (fun z e => by cases e)
      refine ⟨(⟨⟨z0, ns[i].d.s0, ns[i].d.s1, ns[i].d.s2, ns[i].d.s3, ns[i].d.text, z6, z7⟩, ks'⟩, .slice A' ns[i].kids.length ck), hk', ⟨by simp only; omega, ⟨s0, s1, s2, s3⟩, dt, by simp only; omega, by simp only; omega⟩, fun j u hu => ?_⟩
      match j, hu with
      | 0, hu => simp [nodeCells] at hu; subst hu; exact q0
      | 1, hu => simp [nodeCells] at hu; subst hu; exact q1
      | 2, hu => simp [nodeCells] at hu; subst hu; exact q2
      | 3, hu => simp [nodeCells] at hu; subst hu; exact q3
      | 4, hu => simp [nodeCells] at hu; subst hu; exact q4
      | 5, hu => simp [nodeCells] at hu; subst hu; exact q5
      | 6, hu => simp [nodeCells] at hu; subst hu; exact q6
      | 7, hu => simp [nodeCells] at hu; subst hu; exact q7
      | 8, hu => simp [nodeCells] at hu; subst hu; exact q8
      | j + 9, hu => simp [nodeCells] at hu
    exact ⟨zs.map (·.1), by simp [hl], RNodes.of_at zs hl h2 h1 (fun _ => hb) hz⟩
theorem WTree.below {w w' : World} {lo : Nat} {v : Value} {t : Tr} (h : WTree w lo v t) (hb : Below w.heap.size w w') : WTree w' lo v t :=
  (RTree.below h hb fun _ h => h.2.1).more fun b h => ⟨h.1, Nat.lt_of_lt_of_le h.2.1 hb.size, h.2.2.below hb h.2.1⟩
theorem WTree.has {w : World} {lo : Nat} {v : Value} {t : Tr} (h : WTree w lo v t) : HasT w v t := h.more fun _ h => h.2.1
theorem WTree.agg {w : World} {lo : Nat} {v : Value} {t : Tr} (h : WTree w lo v t) : ∃ A c, v = .agg #[.slice A t.nodes.length c, .int .i64 t.root] := by
  obtain ⟨nv, rfl, hn, _⟩ := h
  obtain ⟨A, c, rfl, _⟩ := hn.at_
  exact ⟨A, c, rfl⟩
/-- From W to w' what lies from lo on was written over, and what is below is as it was. -/
structure SP (lo : Nat) (W w' : World) : Prop where
  below : Below lo W w'
  sp : Spoilt W w'
  soft : SoftKept W w'
theorem SP.of_below {lo : Nat} {W w' : World} (hb : Below W.heap.size W w') (hl : lo ≤ W.heap.size) : SP lo W w' := ⟨hb.mono hl, Spoilt.of_below hb, SoftKept.of_below hb⟩
theorem SP.trans {lo : Nat} {W w' w'' : World} (h : SP lo W w') (k : SP lo w' w'') : SP lo W w'' := ⟨h.below.trans k.below, h.sp.trans k.sp h.below.size, h.soft.trans k.soft h.below.size⟩
theorem SP.wtree {lo : Nat} {W w' : World} {nv : Value} {t : Tr} {z : Int} (h : SP lo W w') (hn : WTree W lo (.agg #[nv, .int .i64 t.root]) t) (hz : z = t.root ∨ z = -7) : ∃ t', WTree w' lo (.agg #[nv, .int .i64 z]) t' := by
  obtain ⟨nv', hv, h1, h2, h3⟩ := hn
  have e : nv = nv' := by simp at hv; exact hv
  subst e
  obtain ⟨ns', _, h5⟩ := h1.spoilt h.sp fun b hb => hb.2.1
  refine ⟨⟨ns', z⟩, nv, rfl, h5.more fun b hb => ⟨hb.1, Nat.lt_of_lt_of_le hb.2.1 h.below.size, h.soft b hb.2.1 hb.2.2⟩, ?_, ?_⟩ <;> rcases hz with rfl | rfl <;> simp only <;> omega
theorem OwnList.soft {w : World} {lo : Nat} {v : Value} {ts : List Tr} (h : OwnList w lo lo v ts) : RTrees w (fun b => lo ≤ b ∧ b < w.heap.size ∧ Soft w b) v ts := by
  obtain ⟨nvs, hl, hr, hn⟩ := h
  exact ⟨nvs, hl, Row.of_own hr (fun g hg => ⟨(own_blk_lt hr hg).1, (own_blk_lt hr hg).2, own_soft hr hg⟩) (own_small hr), fun j t nv h1 h2 => ⟨(hn j t nv h1 h2).1.more fun b h => ⟨h.1, h.2.1, h.2.2.2⟩, (hn j t nv h1 h2).2⟩⟩
/-- A box that holds a tree, written over. -/
theorem SP.cells {lo : Nat} {W w' : World} {p : Addr} {nv : Value} {z : Int} (h : SP lo W w') (hp : p.block < W.heap.size) (h0 : W.cell? p = some nv) (hnv : ∃ A n c, nv = .slice A n c) {q : Addr} (hq : q.block < W.heap.size) (h1 : W.cell? q = some (.int .i64 z)) :
    w'.cell? p = some nv ∧ ∃ z', w'.cell? q = some (.int .i64 z') ∧ (z' = z ∨ z' = -7) := by
  obtain ⟨A, n, c, rfl⟩ := hnv
  exact ⟨h.sp.same hp h0 (fun z e => by cases e) (fun z e => by cases e), h.sp.i64 hq h1⟩
end Go.Proofs.YtclfpjfjebheoaaDoor

/- The contract of tree.walk: the row of what stands at a node. -/
import Derived.Test.YtlmlbdmbgfclkaaDoorOwn
import Derived.Test.YtlmlbdmbgfclkaaDoorTrN
import Derived.Test.YtlmlbdmbgfclkaaDoorShelf
import Derived.Deep.RegionHeld3
import Derived.IntWalk
namespace Go.Proofs.YtlmlbdmbgfclkaaDoor
open Go.RowKit

def pushed (forth : Bool) (ns : List Nd) (i : Nat) : List Int := match ns[i]? with
  | none => []
  | some n => if forth then n.kids.reverse else n.kids
theorem pushed_of {forth : Bool} {ns : List Nd} {i : Nat} {N : Nd} (h : ns[i]? = some N) : pushed forth ns i = if forth then N.kids.reverse else N.kids := by unfold pushed; rw [h]
def gRow (forth : Bool) (ns : List Nd) (i : Nat) : List Int := if forth then pre ns i else (post ns i).reverse
def rest (forth : Bool) (ns : List Nd) (Td : List Int) : List Int := Td.reverse.flatMap fun k => gRow forth ns k.toNat
theorem rev_flatten_map {α : Type} (f : Int → List α) (l : List Int) : ((l.map f).flatten).reverse = l.reverse.flatMap fun k => (f k).reverse := by
  induction l with
  | nil => rfl
  | cons k l ih => simp [ih]
theorem gRow_eq {ns : List Nd} (h : Low ns) (forth : Bool) {i : Nat} {n : Nd} (hn : ns[i]? = some n) : gRow forth ns i = (i : Int) :: rest forth ns (pushed forth ns i) := by
  unfold gRow rest pushed
  simp only [hn]
  cases forth
  · simp only [Bool.false_eq_true, if_false, gRow]
    rw [post_eq h hn, List.reverse_append, rev_flatten_map]
    rfl
  · simp only [if_true, gRow]
    rw [pre_eq h hn, List.reverse_reverse, List.flatMap_def]
theorem rest_snoc {ns : List Nd} (h : Low ns) (forth : Bool) (Td : List Int) (k : Int) (h0 : 0 ≤ k) (hk : k.toNat < ns.length) : rest forth ns (Td ++ [k]) = k :: rest forth ns (Td ++ pushed forth ns k.toNat) := by
  have e := gRow_eq h forth (List.getElem?_eq_getElem hk)
  have hk2 : ((k.toNat : Nat) : Int) = k := by omega
  rw [hk2] at e
  show (Td ++ [k]).reverse.flatMap _ = _
  rw [List.reverse_append, List.reverse_singleton, List.singleton_append, List.flatMap_cons, e]
  show k :: rest forth ns (pushed forth ns k.toNat) ++ _ = _
  rw [List.cons_append]
  congr 1
  unfold rest
  rw [List.reverse_append, List.flatMap_append]
theorem rest_length {ns : List Nd} (forth : Bool) (Td : List Int) (h : ∀ k ∈ Td, 0 < (gRow forth ns k.toNat).length) : Td.length ≤ (rest forth ns Td).length := by
  have : ∀ l : List Int, (∀ k ∈ l, 0 < (gRow forth ns k.toNat).length) → l.length ≤ (l.flatMap fun k => gRow forth ns k.toNat).length := by
    intro l
    induction l with
    | nil => intro _; simp
    | cons k l ih =>
      intro hl
      have h1 := hl k (by simp)
      have h2 := ih fun k hk => hl k (by simp [hk])
      simp only [List.flatMap_cons, List.length_append, List.length_cons]
      omega
  have := this Td.reverse (fun k hk => h k (by simpa using hk))
  simpa [rest] using this
theorem gRow_pos {ns : List Nd} (h : Low ns) (forth : Bool) (i : Nat) (hi : i < ns.length) : 0 < (gRow forth ns i).length := by
  rw [gRow_eq h forth (List.getElem?_eq_getElem hi)]; simp
theorem pushed_ok {ns : List Nd} (h : Low ns) (forth : Bool) (i : Nat) (hi : i < ns.length) : ∀ k ∈ pushed forth ns i, 0 ≤ k ∧ k.toNat < ns.length := by
  intro k hk
  unfold pushed at hk
  rw [List.getElem?_eq_getElem hi] at hk
  have : k ∈ (ns[i]).kids := by cases forth <;> simpa using hk
  have := h i _ (List.getElem?_eq_getElem hi) k this
  omega

def lenOf : Value → Nat
  | .slice _ n _ => n
  | _ => 0

structure WalkRel (ns : List Nd) (forth : Bool) (B : Nat) (w : World) (nv : Value) (R O Td : List Int) (Ao : Option Addr) (co : Nat) (At : Option Addr) (ct : Nat) (wr : World) : Prop where
  out : wr.ownsRow (B + 1) 3 1 (.slice Ao O.length co) O.length (O.map (Value.int .i64))
  todo : wr.ownsRow (B + 1) 3 1 (.slice At Td.length ct) Td.length (Td.map (Value.int .i64))
  apart : Ao = none ∨ Ao ≠ At
  row : R = O ++ rest forth ns Td
  fine : ∀ k ∈ Td, 0 ≤ k ∧ k.toNat < ns.length
  box : wr.cell? ⟨B, 0, none⟩ = some nv
  below : Below B w wr

theorem int_info : (Tryd.prog.info? 3).map (fun i => (i.zero, i.size, i.bytes)) = some (some (.int .i64 0), 1, 8) := by kernel_rfl
theorem walk_step1 {t : Tr} {forth : Bool} {S : Nat → Prop} {w wr w2 : World} {nv : Value} {R O T : List Int} {Ao : Option Addr} {co : Nat} {g ct : Nat} {k : Int} {v1 : Value} (hns : RNodes w S nv t.nodes) (hS : ∀ b, S b → b < w.heap.size)
    (h : WalkRel t.nodes forth w.heap.size w nv R O (T ++ [k]) Ao co (some ⟨g, 0, none⟩) ct wr) (hown : w2.ownsRow (w.heap.size + 1) 3 1 v1 (O.length + 1) (O.map (Value.int .i64) ++ [.int .i64 k]))
    (hg : wr.grownBy w2 (Value.slice Ao O.length co).ownBlock) (hat : v1.ownBlock = (Value.slice Ao O.length co).ownBlock ∨ v1.ownBlock = some (wr.heap.size + 1)) :
    ∃ A1 c1, v1 = .slice A1 (O ++ [k]).length c1 ∧ w2.ownsRow (w.heap.size + 1) 3 1 (.slice A1 (O ++ [k]).length c1) (O ++ [k]).length ((O ++ [k]).map (Value.int .i64)) ∧
      w2.ownsRow (w.heap.size + 1) 3 1 (.slice (some ⟨g, 0, none⟩) (T ++ [k]).length ct) (T ++ [k]).length ((T ++ [k]).map (Value.int .i64)) ∧ (A1 = none ∨ A1 ≠ some ⟨g, 0, none⟩) ∧ w2.cell? ⟨w.heap.size, 0, none⟩ = some nv ∧ Below w.heap.size w w2 ∧ RNodes w2 S nv t.nodes := by
  have hblk : ∀ r, (Value.slice Ao O.length co).ownBlock = some r → w.heap.size + 1 ≤ r := fun r hr => (own_blk_lt h.out hr).1
  have hgT := own_blk_lt h.todo (g := g) rfl
  have hne : (Value.slice (some ⟨g, 0, none⟩) (T ++ [k]).length ct).ownBlock ≠ (Value.slice Ao O.length co).ownBlock := by
    intro e
    rcases Ao with _ | ⟨ab, ao, sp⟩
    · simp [Value.ownBlock] at e
    · have he : ab = g := by simpa [Value.ownBlock] using e.symm
      obtain ⟨A', c', hv, _, _, _⟩ := own_slice h.out
      rcases h.out.2 with ⟨h1, _⟩ | ⟨g', cap, cur, h1, _⟩
      · simp at h1
      · injection h1 with h1 _ _
        injection h1 with h1
        injection h1 with e1 e2 e3
        subst e1 e2 e3
        rcases h.apart with h2 | h2
        · cases h2
        · exact h2 (by rw [he])
  obtain ⟨A1, c1, rfl, _, _, _⟩ := own_slice hown
  have hlen : (O ++ [k]).length = O.length + 1 := by simp
  have hb2 : Below w.heap.size w w2 := h.below.trans (below_of_grown hg h.below.size (fun r hr => by have := hblk r hr; omega))
  refine ⟨A1, c1, by rw [hlen], by rw [hlen, List.map_append]; exact hown, h.todo.kept hg (.inr hne), ?_, ?_, hb2, hns.below hb2 hS⟩
  · rcases A1 with _ | a1
    · exact .inl rfl
    · refine .inr fun e => ?_
      injection e with e
      subst e
      rcases hat with e1 | e1
      · exact hne e1
      · have : g = wr.heap.size + 1 := by simpa [Value.ownBlock] using e1
        omega
  · refine hg.cell h.box (fun e => ?_)
    have h9 : w.heap.size + 1 ≤ w.heap.size := hblk _ e.symm
    omega

theorem walk_step2 {w w2 w3 : World} {O2 T K : List Int} {A1 : Option Addr} {c1 g ct : Nat} {v3 : Value} (hO : w2.ownsRow (w.heap.size + 1) 3 1 (.slice A1 O2.length c1) O2.length (O2.map (Value.int .i64)))
    (hgl : w.heap.size + 1 ≤ g) (hne : A1 = none ∨ A1 ≠ some ⟨g, 0, none⟩) (hown : w3.ownsRow (w.heap.size + 1) 3 1 v3 (T.length + K.length) (T.map (Value.int .i64) ++ K.map (Value.int .i64)))
    (hg' : w2.drew.grownBy w3 (Value.slice (some ⟨g, 0, none⟩) T.length ct).ownBlock) (hat : v3.ownBlock = (Value.slice (some ⟨g, 0, none⟩) T.length ct).ownBlock ∨ v3.ownBlock = some w2.drew.heap.size) (hb : Below w.heap.size w w2) :
    ∃ A3 c3, v3 = .slice A3 (T ++ K).length c3 ∧ w3.ownsRow (w.heap.size + 1) 3 1 (.slice A1 O2.length c1) O2.length (O2.map (Value.int .i64)) ∧
      w3.ownsRow (w.heap.size + 1) 3 1 (.slice A3 (T ++ K).length c3) (T ++ K).length ((T ++ K).map (Value.int .i64)) ∧ (A1 = none ∨ A1 ≠ A3) ∧ Below w.heap.size w w3 := by
  have hg := grown_undrew hg'
  have hlen : (T ++ K).length = T.length + K.length := by simp
  obtain ⟨A3, c3, rfl, _, _, _⟩ := own_slice hown
  have hb3 : Below w.heap.size w w3 := hb.trans (below_of_grown hg hb.size (fun r hr => by
    have : g = r := by simpa [Value.ownBlock] using hr
    omega))
  refine ⟨A3, c3, by rw [hlen], hO.kept hg ?_, by rw [hlen, List.map_append]; exact hown, ?_, hb3⟩
  · rcases A1 with _ | a1
    · exact .inl (by simp [Value.ownBlock])
    · refine .inr fun e => ?_
      obtain ⟨h1, h2, h3⟩ := own_blk_some hO
      rw [ownBlock_some _ _ _ h1] at e
      have : a1.block = g := by simpa [Value.ownBlock] using e
      rw [this] at h1
      rcases hne with h | h
      · cases h
      · exact h (by rw [h1])
  · rcases A1 with _ | a1
    · exact .inl rfl
    · refine .inr fun e => ?_
      subst e
      obtain ⟨h1, h2, h3⟩ := own_blk_some hO
      rw [ownBlock_some _ _ _ h1] at hat
      rcases hat with e | e
      · have : a1.block = g := by simpa [Value.ownBlock] using e
        rw [this] at h1
        rcases hne with h | h
        · cases h
        · exact h (by rw [h1])
      · have : a1.block = w2.heap.size := by simpa using e
        omega
theorem walk_row {t : Tr} {forth : Bool} {w wr : World} {nv : Value} {R O T : List Int} {Ao At : Option Addr} {co ct : Nat} {k : Int} (hlow : Low t.nodes) (h : WalkRel t.nodes forth w.heap.size w nv R O (T ++ [k]) Ao co At ct wr) :
    R = (O ++ [k]) ++ rest forth t.nodes (T ++ pushed forth t.nodes k.toNat) ∧ ∀ j ∈ T ++ pushed forth t.nodes k.toNat, 0 ≤ j ∧ j.toNat < t.nodes.length := by
  have hk := h.fine k (by simp)
  refine ⟨?_, fun j hj => ?_⟩
  · rw [h.row, rest_snoc hlow forth T k hk.1 hk.2]; simp
  · rcases List.mem_append.1 hj with hj | hj
    · exact h.fine j (by simp [hj])
    · exact pushed_ok hlow forth _ hk.2 j hj

set_option maxHeartbeats 1000000 in
theorem walk_any (t : Tr) (v : Value) (S : Nat → Prop) (node : Int) (forth : Bool) (w : World) (ht : RTree w S v t) (hS : ∀ b, S b → b < w.heap.size) (hlow : Low t.nodes) (h0 : 0 ≤ node) (hn : node.toNat < t.nodes.length)
    (hsz : (gRow forth t.nodes node.toNat).length ≤ 1000000000) :
    Calls Tryd.prog 41 #[v, .int .i64 node, .bool forth] w fun e w' => ∃ u, e = .returned u ∧
      w'.ownsRow w.heap.size 3 1 u (gRow forth t.nodes node.toNat).length ((gRow forth t.nodes node.toNat).map (Value.int .i64)) ∧ Below w.heap.size w w' := by
  obtain ⟨nv, rfl, hns, _⟩ := ht
  obtain ⟨A, c, rfl, hc, hs, hcells⟩ := hns.at_
  obtain ⟨b, off, rfl, hb1, hcell⟩ := hcells (by omega)
  have hbB := hS b hb1
  generalize hR : gRow forth t.nodes node.toNat = R at hsz ⊢
  obtain ⟨w1, hw1⟩ : ∃ w1, w1 = w.alloc (.cells #[.slice (some ⟨b, off, none⟩) t.nodes.length c, .int .i64 t.root] 24) := ⟨_, rfl⟩
  go_enter Tryd.func41, Tryd.ntmps41
  go_wp2
  go_loopw [7, 8] (fun vo vt wr => ∃ (O Td : List Int) (Ao : Option Addr) (co : Nat) (At : Option Addr) (ct : Nat), vo = .slice Ao O.length co ∧ vt = .slice At Td.length ct ∧ Hid (WalkRel t.nodes forth w.heap.size w (.slice (some ⟨b, off, none⟩) t.nodes.length c) R O Td Ao co At ct wr)) (fun vo _ _ => R.length - lenOf vo)
  case atStart =>
    refine ⟨[], [node], none, 0, some ⟨w.heap.size + 1, 0, none⟩, 1, rfl, rfl, Lib.hid ⟨World.ownsRow_nil _ _ _ _, ?_, .inl rfl, ?_, fun k hk => ?_, ?_, ?_⟩⟩
    · simpa using World.ownsRow_lit (base := w.heap.size + 1) (e := 3) (size := 1) (w.alloc (.cells #[.slice (some ⟨b, off, none⟩) t.nodes.length c, .int .i64 t.root] 24)) #[.int .i64 node] 1 (by simp) (by simp [maxLen]) rfl
    · rw [← hR]; simp [rest]
    · simp at hk; subst hk; exact ⟨h0, hn⟩
    · rw [World.cell?_alloc_lt _ _ _ (by simp)]
      simp [Blk.cell (Blk.new w _ _)]
    · exact ((Below.refl _ _).alloc (Nat.le_refl _) _).alloc (by simp) _
  case round =>
    obtain ⟨O, Td, Ao, co, At, ct, rfl, rfl, HR⟩ := hrel
    rcases nil_or_snoc Td with rfl | ⟨T, k, rfl⟩
    · go_wp2
      go_ret
      have hr : R = O := by have := HR.out.row; simpa [rest] using this
      subst hr
      exact ⟨_, rfl, own_more HR.out.out (by omega), HR.out.below⟩
    · obtain ⟨g, rfl, hg1, hg2, hg3⟩ := own_some HR.out.todo (by simp)
      have hTl : T.length + 1 ≤ 1000000000 := by
        have h1 := rest_length forth _ (fun k hk => gRow_pos hlow forth _ (HR.out.fine k hk).2)
        have h2 := HR.out.row
        rw [h2] at hsz
        simp only [List.length_append, List.length_cons, List.length_nil] at h1 hsz
        omega
      have hOl : O.length + 1 ≤ 1000000000 := by
        have h1 := rest_length forth _ (fun k hk => gRow_pos hlow forth _ (HR.out.fine k hk).2)
        have h2 := HR.out.row
        rw [h2] at hsz
        simp only [List.length_append, List.length_cons, List.length_nil] at h1 hsz
        omega
      have hk : wr.cell? ⟨g, T.length, none⟩ = some (.int .i64 k) := by
        have := HR.out.todo.cellAt T.length (by simp)
        rw [this]; simp
      simp only [List.length_append, List.length_cons, List.length_nil, Nat.zero_add] at hg3 ⊢
      obtain ⟨i0, hi0, hz0, hz1, hz2⟩ := info_parts int_info
      go_wp2_with (at_builtin; go_loud (refine wpList_append1 wr rfl (.tmp 21) (.tmp 23) _ rfl (w.heap.size + 1) 3 i0 _ 1 8 Tryd.underlying27 hi0 hz0 hz1 hz2 rfl (by omega) (.slice Ao O.length co) O.length (O.map (Value.int .i64)) rfl HR.out.out [.int .i64 k] rfl rfl (by simp [Value.oneCell']) (by unfold maxLen; omega) (by omega) (by omega) ?_); intro v1 w2 hown1 hg1 hat1)
      obtain ⟨A1, c1, rfl, hO2, hT2, hne2, hbox2, hb2, hns2⟩ := walk_step1 hns hS HR.out hown1 hg1 hat1
      have HO2 := Lib.hid hO2
      have HT2 := Lib.hid hT2
      have hkf := HR.out.fine k (by simp)
      have hsz2 : w.heap.size + 1 ≤ w2.heap.size := by have := (own_blk_lt HT2.out (g := g) rfl).2; omega
      obtain ⟨N, hN⟩ : ∃ N, t.nodes[k.toNat]? = some N := ⟨_, List.getElem?_eq_getElem hkf.2⟩
      obtain ⟨_, Ak, ck, hki, _, hck, hkc⟩ := hns2.known k.toNat N hN
      have hkc8 : w2.cell? ⟨b, off + k.toNat * 9 + 8, none⟩ = some (.slice Ak N.kids.length ck) := by rw [Nat.add_assoc]; exact hkc 8 _ rfl
      have hk0 : 0 ≤ k := hkf.1
      have hkl : k < (t.nodes.length : Int) := by omega
      have hwr : IntKind.i64.wrap (T.length : Int) = T.length := by
        exact IntWalk.i64_in _ (by omega)
      have hTi : (0 : Int) ≤ (T.length : Int) := by omega
      have hTc : (T.length : Int) ≤ (ct : Int) := by omega
      have hTs := own_shrink (m := T.length) HT2.out (by simp)
      have hTs2 : w2.ownsRow (w.heap.size + 1) 3 1 (.slice (some ⟨g, 0, none⟩) T.length ct) T.length (T.map (Value.int .i64)) := by
        have e : ((T ++ [k]).map (Value.int .i64)).take (T.length * 1) = T.map (Value.int .i64) := by simp
        rw [e] at hTs; exact hTs
      have HTs := Lib.hid hTs2
      have HKr := Lib.hid (Row.reads hki (B := w2.heap.size) (fun b hb => Nat.lt_of_lt_of_le (hS b hb) hb2.size))
      have hpl : (pushed forth t.nodes k.toNat).length = N.kids.length := by
        unfold pushed; rw [hN]; cases forth <;> simp
      have hKl : N.kids.length + T.length ≤ 1000000000 := by
        have h1 := rest_length forth (T ++ pushed forth t.nodes k.toNat) (fun j hj => gRow_pos hlow forth _ (by
          rcases List.mem_append.1 hj with hj | hj
          · exact (HR.out.fine j (by simp [hj])).2
          · exact (pushed_ok hlow forth _ hkf.2 j hj).2))
        have h2 := HR.out.row
        rw [rest_snoc hlow forth T k hkf.1 hkf.2] at h2
        rw [h2] at hsz
        simp only [List.length_append, List.length_cons, hpl] at h1 hsz
        omega
      clear hown1 hg1 hat1 hO2 hT2 hns2 hkc hkf hTs hTs2 hki hpl
      go_region_held3 (fun w' => w'.cell? ⟨w.heap.size, 0, none⟩ = some (.slice (some ⟨b, off, none⟩) t.nodes.length c) ∧ w'.cell? ⟨b, off + k.toNat * 9 + 8, none⟩ = some (.slice Ak N.kids.length ck)) (first | go_keep | (go_split_ands; refine ⟨hg4.cell (by assumption) (by simp [Value.ownBlock]; omega), hg4.cell (by assumption) (by simp [Value.ownBlock]; omega)⟩)) ((refine step_append_any _ (by rfl) (.tmp 29) (.tmp 35) _ (by rfl) (w.heap.size + 1) 3 i0 _ 1 8 Tryd.underlying27 hi0 hz0 hz1 hz2 (by rfl) (by omega) (.slice (some ⟨g, 0, none⟩) T.length ct) T.length (T.map (Value.int .i64)) (by rfl) HTs.out w2.heap.size Ak N.kids.length ck (N.kids.map (Value.int .i64)) (by rfl) HKr.out (by simp [Value.oneCell']) (by unfold maxLen; omega) (by omega) hsz2 ?_; intro v3 w3 hown3 hg4 hat3))
      obtain ⟨hbox3, hkc3⟩ := ‹w3.cell? ⟨w.heap.size, 0, none⟩ = _ ∧ _›
      obtain ⟨A3, c3, rfl, hO3, hT3, hne3, hb3⟩ := walk_step2 HO2.out hg1 hne2 hown3 hg4 hat3 hb2
      have HO3 := Lib.hid hO3
      have HT3 := Lib.hid hT3
      have HW := Lib.hid (walk_row hlow HR.out)
      have hmeas : R.length - (O ++ [k]).length < R.length - O.length := by
        have := HR.out.row
        rw [this]
        have h2 := rest_length forth _ (fun k hk => gRow_pos hlow forth _ (HR.out.fine k hk).2)
        simp only [List.length_append, List.length_cons, List.length_nil] at h2 ⊢
        omega
      clear hO3 hT3 hown3 hg4 hat3 HO2 HT2 HTs HKr hkc8 hbox2 hb2 hne2 hk hwr
      cases forth
      · go_wp2
        go_roundw
        case rel => 
          refine ⟨O ++ [k], T ++ N.kids, A1, c1, A3, c3, rfl, rfl, Lib.hid ?_⟩
          have hp : pushed false t.nodes k.toNat = N.kids := by rw [pushed_of hN]; rfl
          rw [hp] at HW
          exact ⟨HO3.out, HT3.out, hne3, HW.out.1, HW.out.2, hbox3, hb3⟩
        case measure => exact hmeas
      · rcases Nat.eq_zero_or_pos N.kids.length with hz | hz
        · go_wp2_with (go_at_call 53; refine (Tryd.slices_Reverse_int_empty _ _ _).mono ?_; rintro e w' ⟨rfl, rfl⟩)
          all_goals go_roundw
          all_goals try exact hmeas
          all_goals try exact (by simpa using hmeas : R.length - (O.length + 1) < R.length - O.length)
          all_goals
            have hK : N.kids = [] := List.eq_nil_of_length_eq_zero hz
            refine ⟨O ++ [k], T ++ N.kids, A1, c1, A3, c3, by simp, by simp [hK], Lib.hid ?_⟩
            have hp : pushed true t.nodes k.toNat = N.kids := by rw [pushed_of hN, hK]; rfl
            rw [hp] at HW
            exact ⟨HO3.out, HT3.out, hne3, HW.out.1, HW.out.2, hbox3, hb3⟩
        · obtain ⟨g3, rfl, hg31, hg32, hg33⟩ := own_some HT3.out (by simp; omega)
          have hc3 : ¬ c3 = T.length := by simp at hg33; omega
          have hcell3 : ∀ j, j < N.kids.length → w3.cell? ⟨g3, T.length + j, none⟩ = some (.int .i64 (N.kids.getD j 0)) := by
            intro j hj
            have := HT3.out.cellAt (T.length + j) (by simp; omega)
            rw [this]
            simp [hj]
          have hrev := Lib.hid (fun c => Tryd.slices_Reverse_int_cells g3 T.length N.kids.length c N.kids w3 (Nat.le_refl _) (by omega) hcell3 (fun j _ => HT3.out.frozenAt _))
          clear hcell3
          go_wp2_with (go_at_call 53; go_loud (refine (hrev.out _).mono ?_); rintro e w' ⟨rfl, q, rfl⟩)
          have hgr : w3.grownBy ((w3.drewN q).setCells g3 T.length (N.kids.map (Value.int .i64)).reverse) (some g3) := grown_setCells (only_drewN (grown_refl _ _) q) _ _
          have hp : pushed true t.nodes k.toNat = N.kids.reverse := by rw [pushed_of hN]; rfl
          rw [hp] at HW
          go_roundw
          case measure => simpa [lenOf] using hmeas
          case rel =>
            refine ⟨O ++ [k], T ++ N.kids.reverse, A1, c1, some ⟨g3, 0, none⟩, c3, by simp, by simp, Lib.hid ⟨HO3.out.kept hgr ?_, own_reversed HT3.out, hne3, HW.out.1, HW.out.2, hgr.cell hbox3 (by simp; omega), ?_⟩⟩
            · rcases A1 with _ | a1
              · exact .inl (by simp [Value.ownBlock])
              · refine .inr fun e => ?_
                obtain ⟨h1, h2, h3⟩ := own_blk_some HO3.out
                rw [ownBlock_some _ _ _ h1] at e
                have : a1.block = g3 := by simpa using e
                rw [this] at h1
                rcases hne3 with h | h
                · cases h
                · exact h (by rw [h1])
            · exact hb3.trans (below_of_grown hgr hb3.size (fun r hr => by
                have : g3 = r := by simpa using hr
                omega))
end Go.Proofs.YtlmlbdmbgfclkaaDoor

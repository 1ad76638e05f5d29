/- Plain mathematics of names and numbers, with no program in sight: what is taken of a text, what a number's text comes to. No conditions. -/
namespace Go.Proofs.YtlmlbdmbgfclkaaDoor.Nm

def isLet (c : UInt8) : Bool := c == 95 || (decide (97 ≤ c) && decide (c ≤ 122)) || (decide (65 ≤ c) && decide (c ≤ 90))
def isDig (c : UInt8) : Bool := decide (48 ≤ c) && decide (c ≤ 57)
/-- May the byte at place k stand in a name there? -/
def ok (l : List UInt8) (k : Nat) : Bool := isLet (l.getD k 0) || (decide (0 < k) && isDig (l.getD k 0))
def cnt (l : List UInt8) : Nat → Nat → Nat
  | 0, k => k
  | f + 1, k => if k < l.length ∧ ok l k = true then cnt l f (k + 1) else k
/-- How many bytes are taken. -/
def nmLen (l : List UInt8) : Nat := cnt l l.length 0
def may (l : List UInt8) : Bool := decide (l ≠ []) && decide (l.length ≤ 32) && decide (nmLen l = l.length)

def IsTake (l : List UInt8) (k : Nat) : Prop := k ≤ l.length ∧ (∀ j, j < k → ok l j = true) ∧ (k < l.length → ok l k = false)

theorem cnt_spec (l : List UInt8) : ∀ f k, k ≤ l.length → l.length ≤ f + k → (∀ j, j < k → ok l j = true) → IsTake l (cnt l f k)
  | 0, k, h, hf, hk => by unfold cnt; exact ⟨h, hk, fun hlt => by omega⟩
  | f + 1, k, h, hf, hk => by
    unfold cnt
    by_cases hc : k < l.length ∧ ok l k = true
    · rw [if_pos hc]
      refine cnt_spec l f (k + 1) (by omega) (by omega) fun j hj => ?_
      by_cases e : j = k
      · rw [e]; exact hc.2
      · exact hk j (by omega)
    · rw [if_neg hc]
      refine ⟨h, hk, fun hlt => ?_⟩
      cases ho : ok l k
      · rfl
      · exact absurd ⟨hlt, ho⟩ hc
theorem nmLen_spec (l : List UInt8) : IsTake l (nmLen l) := cnt_spec l l.length 0 (by omega) (by omega) (fun j hj => by omega)
theorem IsTake.unique {l : List UInt8} {k m : Nat} (hk : IsTake l k) (hm : IsTake l m) : k = m := by
  rcases Nat.lt_trichotomy k m with h | h | h
  · have := hk.2.2 (by have := hm.1; omega)
    rw [hm.2.1 k h] at this; cases this
  · exact h
  · have := hm.2.2 (by have := hk.1; omega)
    rw [hk.2.1 m h] at this; cases this
theorem IsTake.eq {l : List UInt8} {k : Nat} (hk : IsTake l k) : k = nmLen l := hk.unique (nmLen_spec l)
theorem nmLen_le (l : List UInt8) : nmLen l ≤ l.length := (nmLen_spec l).1

/-- The value of a text of digits. -/
def val (l : List UInt8) : Nat := l.foldl (fun n c => 10 * n + (c.toNat - 48)) 0
theorem val_snoc (l : List UInt8) (c : UInt8) : val (l ++ [c]) = 10 * val l + (c.toNat - 48) := by simp [val, List.foldl_append]
def allDig (l : List UInt8) : Bool := l.all isDig
/-- A text that is no number's. -/
def badNum (l : List UInt8) : Bool := l.isEmpty || (decide (1 < l.length) && l.getD 0 0 == 48) || !allDig l
/-- What Num tells: the number, the error's number. -/
def num (l : List UInt8) (most : Int) : Int × Int :=
  if badNum l = true then (0, 4) else if (val l : Int) ≤ most then (val l, 0) else (0, 40)

theorem val_take_le (l : List UInt8) (k : Nat) : val (l.take k) ≤ val l := by
  have h : ∀ (r : List UInt8) (n : Nat), n ≤ r.foldl (fun n c => 10 * n + (c.toNat - 48)) n := by
    intro r
    induction r with
    | nil => intro n; exact Nat.le_refl _
    | cons c r ih => intro n; simp only [List.foldl_cons]; exact Nat.le_trans (by omega) (ih _)
  have e : val l = (l.drop k).foldl (fun n c => 10 * n + (c.toNat - 48)) (val (l.take k)) := by
    unfold val
    rw [← List.foldl_append, List.take_append_drop]
  rw [e]; exact h _ _

theorem isLet_nat (c : UInt8) : isLet c = (decide (c.toNat = 95) || (decide (97 ≤ c.toNat) && decide (c.toNat ≤ 122)) || (decide (65 ≤ c.toNat) && decide (c.toNat ≤ 90))) := by
  unfold isLet
  congr 1
  · congr 1
    rw [Bool.eq_iff_iff]; simp [← UInt8.toNat_inj]
theorem isDig_nat (c : UInt8) : isDig c = (decide (48 ≤ c.toNat) && decide (c.toNat ≤ 57)) := rfl
theorem getD_lt (l : List UInt8) (k : Nat) (h : k < l.length) : l.getD k 0 = l[k] := by simp [h]
theorem isTake_take (l : List UInt8) : IsTake (l.take (nmLen l)) (nmLen l) := by
  have h := nmLen_spec l
  refine ⟨by simp [h.1], fun j hj => ?_, fun hl => by simp at hl; omega⟩
  have h2 := h.2.1 j hj
  unfold ok at h2 ⊢
  have e : (l.take (nmLen l)).getD j 0 = l.getD j 0 := by simp [hj]
  rw [e]; exact h2
theorem may_take (l : List UInt8) : may (l.take (nmLen l)) = (decide (0 < nmLen l) && decide (nmLen l ≤ 32)) := by
  have h := (isTake_take l).eq
  have hl : (l.take (nmLen l)).length = nmLen l := by simp [nmLen_le l]
  unfold may
  rw [← h, hl]
  have e : (l.take (nmLen l) ≠ []) ↔ 0 < nmLen l := by rw [← List.length_pos_iff, hl]
  rw [Bool.eq_iff_iff]
  simp only [Bool.and_eq_true, decide_eq_true_eq, e, and_true]
theorem nm_stop {l : List UInt8} (h : nmLen l < l.length) : isLet (l.getD (nmLen l) 0) = false ∧ (0 < nmLen l → isDig (l.getD (nmLen l) 0) = false) := by
  have h2 := (nmLen_spec l).2.2 h
  unfold ok at h2
  rw [Bool.or_eq_false_iff] at h2
  refine ⟨h2.1, fun hp => ?_⟩
  have := h2.2
  rw [decide_eq_true hp] at this
  simpa using this
end Go.Proofs.YtlmlbdmbgfclkaaDoor.Nm

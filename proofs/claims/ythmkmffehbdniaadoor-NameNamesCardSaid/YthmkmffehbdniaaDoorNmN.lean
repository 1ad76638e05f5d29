/- Plain mathematics: a number's text and its value, there and back. No conditions. -/
import Derived.Test.YthmkmffehbdniaaDoorNmM
import Derived.Lib.ItoaNum
import Derived.Lib.ItoaMem
namespace Go.Proofs.YthmkmffehbdniaaDoor.Nm
open Go.Lib

theorem dig_of (u : Nat) (h : u < 10) : isDig (UInt8.ofNat (48 + u)) = true ∧ (UInt8.ofNat (48 + u)).toNat = 48 + u := by
  have e : (UInt8.ofNat (48 + u)).toNat = 48 + u := by
    rw [UInt8.toNat_ofNat']; omega
  refine ⟨?_, e⟩
  rw [isDig_nat, e]; simp; omega
theorem dec_small {u : Nat} (h : u < 10) : decDigits u = [UInt8.ofNat (48 + u)] := by rw [decDigits, dif_pos h]
theorem dec_big {u : Nat} (h : ¬ u < 10) : decDigits u = decDigits (u / 10) ++ [UInt8.ofNat (48 + u % 10)] := by rw [decDigits, dif_neg h]
theorem allDig_append (a b : List UInt8) : allDig (a ++ b) = (allDig a && allDig b) := by simp [allDig]
theorem dec_ne (u : Nat) : decDigits u ≠ [] := by
  by_cases h : u < 10
  · rw [dec_small h]; simp
  · rw [dec_big h]; simp
theorem dec_facts (u : Nat) : val (decDigits u) = u ∧ allDig (decDigits u) = true ∧ (1 ≤ u → (decDigits u).getD 0 0 ≠ 48) ∧ (u < 10 → (decDigits u).length = 1) := by
  induction u using Nat.strongRecOn with
  | _ u ih =>
    by_cases h : u < 10
    · rw [dec_small h]
      have hd := dig_of u h
      refine ⟨?_, by unfold allDig; rw [List.all_cons, hd.1]; rfl, fun h1 e => ?_, fun _ => rfl⟩
      · simp only [val, List.foldl_cons, List.foldl_nil]; rw [hd.2]; omega
      · have e2 : UInt8.ofNat (48 + u) = 48 := e
        have := hd.2
        rw [e2] at this
        have h48 : (48 : UInt8).toNat = 48 := rfl
        omega
    · have hi := ih (u / 10) (by omega)
      have hd := dig_of (u % 10) (by omega)
      rw [dec_big h]
      refine ⟨?_, by rw [allDig_append, hi.2.1]; unfold allDig; rw [List.all_cons, hd.1]; rfl, fun _ => ?_, fun h1 => absurd h1 h⟩
      · rw [val_snoc, hi.1, hd.2]; omega
      · have hne := dec_ne (u / 10)
        have : (decDigits (u / 10) ++ [UInt8.ofNat (48 + u % 10)]).getD 0 0 = (decDigits (u / 10)).getD 0 0 := by
          cases hx : decDigits (u / 10) with
          | nil => exact absurd hx hne
          | cons a r => rfl
        rw [this]
        exact hi.2.2.1 (by omega)
theorem num_dec (u : Nat) (most : Int) : num (decDigits u) most = if (u : Int) ≤ most then ((u : Int), 0) else (0, 40) := by
  have h := dec_facts u
  have hb : badNum (decDigits u) = false := by
    unfold badNum
    rw [h.2.1]
    have h1 : (decDigits u).isEmpty = false := by simpa using dec_ne u
    rw [h1]
    by_cases hu : 1 ≤ u
    · have : ((decDigits u).getD 0 0 == 48) = false := by rw [beq_eq_false_iff_ne]; exact h.2.2.1 hu
      rw [this]; simp
    · have : (decDigits u).length = 1 := h.2.2.2 (by omega)
      rw [this]; simp
  unfold num
  rw [hb, h.1]; simp
theorem num_itoa_neg (n : Int) (h : n < 0) (most : Int) : num (itoa n) most = (0, 4) := by
  have hb : badNum (itoa n) = true := by
    unfold badNum itoa
    rw [if_pos h]
    have : allDig (45 :: decDigits n.natAbs) = false := by
      have h45 : isDig 45 = false := by decide
      simp [allDig, h45]
    rw [this]; simp
  unfold num
  rw [if_pos hb]
theorem itoa_pos (n : Int) (h : 0 ≤ n) : itoa n = decDigits n.toNat := by unfold itoa; rw [if_neg (by omega)]

def good (l : List UInt8) : Prop := l ≠ [] ∧ (1 < l.length → l.getD 0 0 ≠ 48) ∧ allDig l = true
theorem good_of {l : List UInt8} (h : badNum l = false) : good l := by
  unfold badNum at h
  simp only [Bool.or_eq_false_iff, Bool.and_eq_false_iff] at h
  refine ⟨by simpa using h.1.1, fun hl e => ?_, by simpa using h.2⟩
  rcases h.1.2 with h2 | h2
  · simp at h2; omega
  · rw [e] at h2; exact absurd h2 (by decide)
theorem dec_val : ∀ (n : Nat) (l : List UInt8), l.length = n + 1 → good l → decDigits (val l) = l
  | 0, l, hl, hg => by
    match l, hl with
    | [c], _ =>
      have hd : isDig c = true := by have := hg.2.2; simpa [allDig] using this
      rw [isDig_nat] at hd
      simp at hd
      have : val [c] = c.toNat - 48 := by simp [val]
      rw [this, dec_small (by omega)]
      congr 1
      apply UInt8.toNat_inj.1
      rw [(dig_of (c.toNat - 48) (by omega)).2]; omega
  | n + 1, l, hl, hg => by
    obtain ⟨r, c, rfl⟩ : ∃ r c, l = r ++ [c] := ⟨l.dropLast, l.getLast (by intro e; rw [e] at hl; simp at hl), (List.dropLast_concat_getLast _).symm⟩
    have hr : r.length = n + 1 := by simp at hl; omega
    have hall := hg.2.2
    rw [allDig_append, Bool.and_eq_true] at hall
    have hd : isDig c = true := by simpa [allDig] using hall.2
    rw [isDig_nat] at hd
    simp at hd
    have hne : r ≠ [] := by intro e; rw [e] at hr; simp at hr
    have h0 : (r ++ [c]).getD 0 0 = r.getD 0 0 := by
      cases r with
      | nil => exact absurd rfl hne
      | cons a t => rfl
    have hlead : r.getD 0 0 ≠ 48 := by rw [← h0]; exact hg.2.1 (by simp; omega)
    have ih := dec_val n r hr ⟨hne, fun _ => hlead, hall.1⟩
    have hpos : 1 ≤ val r := by
      rcases Nat.eq_zero_or_pos (val r) with h | h
      · rw [h, dec_small (by omega)] at ih
        rw [← ih] at hlead
        exact absurd rfl hlead
      · exact h
    rw [val_snoc, dec_big (by omega)]
    have e1 : (10 * val r + (c.toNat - 48)) / 10 = val r := by omega
    have e2 : (10 * val r + (c.toNat - 48)) % 10 = c.toNat - 48 := by omega
    rw [e1, e2, ih]
    congr 2
    apply UInt8.toNat_inj.1
    rw [(dig_of (c.toNat - 48) (by omega)).2]; omega
theorem num_ok {l : List UInt8} {most : Int} (h : (num l most).2 = 0) : (num l most).1 = val l ∧ (val l : Int) ≤ most ∧ decDigits (val l) = l := by
  unfold num at h ⊢
  split at h
  · cases h
  · rename_i hb
    split at h
    · rename_i hm
      have hb' : badNum l = false := by simpa using hb
      have hg := good_of hb'
      rw [if_neg hb, if_pos hm]
      refine ⟨rfl, hm, ?_⟩
      have : l.length ≠ 0 := by intro e; exact hg.1 (List.length_eq_zero_iff.1 e)
      exact dec_val (l.length - 1) l (by omega) hg
    · cases h
theorem num_err {l : List UInt8} {most : Int} : (num l most).2 = 0 ∨ (num l most).1 = 0 ∧ ((num l most).2 = 4 ∨ (num l most).2 = 40) := by
  unfold num
  split
  · exact .inr ⟨rfl, .inl rfl⟩
  · split
    · exact .inl rfl
    · exact .inr ⟨rfl, .inr rfl⟩
end Go.Proofs.YthmkmffehbdniaaDoor.Nm

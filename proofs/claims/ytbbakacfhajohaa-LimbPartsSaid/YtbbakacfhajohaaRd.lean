/- Plain mathematics: shifts, by the reference and by limb. -/
import Derived.Test.YtbbakacfhajohaaRwg
namespace Go.Proofs.Ytbbakacfhajohaa.Av
set_option linter.unusedVariables false
theorem fl_neg {a c : Int} (hc : 0 < c) (ha : a < 0) (hr : a.tmod c ≠ 0) : a.tdiv c - 1 = a / c := by
  have e := Int.tdiv_mul_add_tmod a c
  have h1 : a.tmod c ≤ 0 := by have h := Int.tmod_nonneg c (show 0 ≤ -a by omega); rw [Int.neg_tmod] at h; omega
  have h2 : -c < a.tmod c := by have := Int.natAbs_tmod a c; have := Nat.mod_lt a.natAbs (show 0 < c.natAbs by omega); omega
  have : a = (a.tdiv c - 1) * c + (a.tmod c + c) := by rw [Int.sub_mul]; omega
  rw [this, Int.add_comm, Int.add_mul_ediv_right _ _ (by omega), Int.ediv_eq_zero_of_lt (by omega) (by omega)]
  have e3 : ((a.tdiv c - 1) * c + (a.tmod c + c)) = a := this.symm
  rw [Int.add_comm (a.tmod c + c), e3]; omega
theorem fl_zero {a c : Int} (hc : 0 < c) (hr : a.tmod c = 0) : a.tdiv c = a / c := by
  have e := Int.tdiv_mul_add_tmod a c
  rw [hr, Int.add_zero] at e
  conv => rhs; rw [← e]
  rw [Int.mul_ediv_cancel _ (by omega)]
theorem fl_pos {a c : Int} (ha : ¬ a < 0) : a.tdiv c = a / c := Int.tdiv_eq_ediv_of_nonneg (by omega)
theorem len_pos {x : Nat} : decide (((dg x).length : Int) > (0 : Int)) = decide (x ≠ 0) := by
  rw [dg_len, decide_eq_decide]
  have := @nd_pos x
  omega
theorem pwi_pos (k : Nat) : (0 : Int) < 2 ^ k := Int.pow_pos (by decide)
/-- Far enough down is down to the end. -/
theorem shr_cut {a : Int} {k : Nat} (ha : a.natAbs < top) (hk : 600 < k) : a / 2 ^ 600 = a / 2 ^ k := by
  obtain ⟨e, he⟩ : ∃ e : Nat, e = 600 := ⟨_, rfl⟩
  have key : ∀ j, e ≤ j → a / 2 ^ j = if a < 0 then -1 else 0 := by
    intro j hj
    have h1 : a.natAbs < 2 ^ j := by
      refine Nat.lt_of_lt_of_le ha ?_
      obtain ⟨q, hq⟩ : ∃ q : Nat, q = 8 := ⟨_, rfl⟩
      rw [top_k hq]; exact Nat.pow_le_pow_right (by decide) (by omega)
    have h2 := pw_i j
    split
    · rename_i h
      have h3 : a = -((a.natAbs - 1 : Nat) : Int) - 1 := by omega
      have h4 : ((a.natAbs - 1 : Nat) : Int) / 2 ^ j = 0 := Int.ediv_eq_zero_of_lt (Int.natCast_nonneg _) (by omega)
      have h5 : a = (-1) * 2 ^ j + (2 ^ j + a) := by omega
      rw [h5, Int.add_comm, Int.add_mul_ediv_right _ _ (by have := pwi_pos j; omega), Int.ediv_eq_zero_of_lt (by omega) (by omega)]; rfl
    · exact Int.ediv_eq_zero_of_lt (by omega) (by omega)
  rw [← he, key e (Nat.le_refl _), key k (by omega)]
theorem shr_e {a : Int} {n e : Nat} (he : e = 600) (ha : a.natAbs < top) (hn : 600 < n) : a / 2 ^ e = a / 2 ^ n := by rw [he]; exact shr_cut ha hn
theorem shr_top {a : Int} {k : Nat} (ha : a.natAbs < top) : (a / 2 ^ k).natAbs < top := by
  have h0 := pwi_pos k
  refine Nat.lt_of_le_of_lt ?_ ha
  rcases Int.lt_or_le a 0 with h | h
  · have h1 : a ≤ a / 2 ^ k := by
      refine (Int.le_ediv_iff_mul_le h0).2 ?_
      have : a * 2 ^ k ≤ a * 1 := Int.mul_le_mul_of_nonpos_left (show a ≤ 0 by omega) (show (1 : Int) ≤ 2 ^ k by omega)
      omega
    have h2 : a / 2 ^ k < 0 := Int.ediv_neg_of_neg_of_pos h h0
    omega
  · have h1 := Int.ediv_nonneg h (Int.le_of_lt h0)
    have h2 := Int.ediv_le_self (2 ^ k) h
    omega
/-- Far enough up is over, but for 0. -/
theorem shl_cut {a : Int} {k : Nat} (hk : 600 < k) : clip (a * 2 ^ k) = clip (a * 2 ^ 600) ∧ ov (a * 2 ^ k) = ov (a * 2 ^ 600) := by
  obtain ⟨e, he⟩ : ∃ e : Nat, e = 600 := ⟨_, rfl⟩
  rw [← he]
  by_cases h0 : a = 0
  · subst h0; rw [Int.zero_mul, Int.zero_mul]; exact ⟨rfl, rfl⟩
  · have key : ∀ j, e ≤ j → ¬ (a * 2 ^ j).natAbs < top := by
      intro j hj hlt
      rw [Int.natAbs_mul, ← pw_i j, Int.natAbs_natCast] at hlt
      have h1 : 1 * 2 ^ j ≤ a.natAbs * 2 ^ j := Nat.mul_le_mul_right _ (by omega)
      have h2 : top ≤ 2 ^ j := by
        obtain ⟨q, hq⟩ : ∃ q : Nat, q = 8 := ⟨_, rfl⟩
        rw [top_k hq]; exact Nat.pow_le_pow_right (by decide) (by omega)
      omega
    rw [clip_no (key k (by omega)), clip_no (key e (Nat.le_refl _)), ov_no (key k (by omega)), ov_no (key e (Nat.le_refl _))]
    exact ⟨rfl, rfl⟩
theorem nd_pw (n : Nat) : nd (2 ^ n) ≤ n / 16 + 1 := nd_le.1 (pw_lt n)
theorem min_if (k : Nat) : (if (600 : Int) < ((k : Nat) : Int) then (600 : Int) else ((k : Nat) : Int)) = ((min k 600 : Nat) : Int) := by split <;> omega
theorem shl_min (a : Int) (k : Nat) : clip (a * 2 ^ k) = clip (a * 2 ^ min k 600) ∧ ov (a * 2 ^ k) = ov (a * 2 ^ min k 600) := by
  rcases Nat.lt_or_ge 600 k with h | h
  · rw [show min k 600 = 600 by omega]; exact shl_cut h
  · rw [show min k 600 = k by omega]; exact ⟨rfl, rfl⟩
end Go.Proofs.Ytbbakacfhajohaa.Av

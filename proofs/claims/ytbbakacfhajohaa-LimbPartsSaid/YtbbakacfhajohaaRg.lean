/- Plain mathematics: the greatest common divisor by taking off. -/
import Derived.Test.YtbbakacfhajohaaRwj
namespace Go.Proofs.Ytbbakacfhajohaa.Av
set_option linter.unusedVariables false
theorem bl_nd (x : Nat) : bl x ≤ 16 * nd x := bl_le_of_lt (by rw [← pB_pow]; exact nd_lt x)
theorem bl_mono {x y : Nat} (h : x ≤ y) : bl x ≤ bl y := bl_le_of_lt (Nat.lt_of_le_of_lt h (lt_bl (Nat.le_refl _)))
theorem bl_ge {x : Nat} (h : x ≠ 0) : 2 ^ (bl x - 1) ≤ x := Decidable.byContradiction fun hn => by
  have h1 := bl_le_of_lt (n := x) (b := bl x - 1) (by omega)
  have h2 := bl_pos h
  omega
theorem gc_k1 {x y : Nat} (hyx : y ≤ x) (h : x < y * 2 ^ (bl x - bl y)) : 1 ≤ bl x - bl y := Decidable.byContradiction fun hn => by
  rw [show bl x - bl y = 0 by omega, Nat.pow_zero, Nat.mul_one] at h; omega
theorem gc_le {x y : Nat} (hy : y ≠ 0) (hyx : y ≤ x) (hk : 1 ≤ bl x - bl y) : y * 2 ^ (bl x - bl y - 1) ≤ x := by
  have h1 := lt_bl (Nat.le_refl (bl y))
  have h2 := bl_ge (x := x) (by omega)
  have h3 : y * 2 ^ (bl x - bl y - 1) ≤ 2 ^ bl y * 2 ^ (bl x - bl y - 1) := Nat.mul_le_mul_right _ (Nat.le_of_lt h1)
  rw [← Nat.pow_add, show bl y + (bl x - bl y - 1) = bl x - 1 by omega] at h3
  omega
theorem gc_gcd {x y m : Nat} (h : y * m ≤ x) : Nat.gcd y (x - y * m) = Nat.gcd x y := by
  have e : x = (x - y * m) + y * m := by omega
  conv => rhs; rw [e]
  rw [Nat.gcd_comm, Nat.gcd_add_mul_left_left]
theorem gc_pos {y m : Nat} (hy : y ≠ 0) (k : Nat) : 1 ≤ y * 2 ^ k := Nat.mul_pos (Nat.pos_of_ne_zero hy) (Nat.pow_pos (by decide))
theorem len_t {y : Nat} (h : decide (((dg y).length : Int) > (0 : Int)) = true) : y ≠ 0 := by rw [len_pos] at h; exact of_decide_eq_true h
theorem len_f {y : Nat} (h : decide (((dg y).length : Int) > (0 : Int)) = false) : y = 0 := by rw [len_pos] at h; have := of_decide_eq_false h; omega
theorem sgl_t {x y : Nat} (h : decide ((sg (x : Int) (y : Int)) < (0 : Int)) = true) : x < y := by
  have h := of_decide_eq_true h
  refine Decidable.byContradiction fun hn => ?_
  have := (sg_ge (x : Int) (y : Int)).2 (by omega)
  omega
theorem sgl_f {x y : Nat} (h : decide ((sg (x : Int) (y : Int)) < (0 : Int)) = false) : y ≤ x := by
  have h := of_decide_eq_false h
  have := (sg_ge (x : Int) (y : Int)).1 (by omega)
  omega
theorem sgg_t {x y : Nat} (h : decide ((sg (x : Int) (y : Int)) > (0 : Int)) = true) : y < x := by
  have h := of_decide_eq_true h
  refine Decidable.byContradiction fun hn => ?_
  have := (sg_le (x : Int) (y : Int)).2 (by omega)
  omega
theorem sgg_f {x y : Nat} (h : decide ((sg (x : Int) (y : Int)) > (0 : Int)) = false) : x ≤ y := by
  have h := of_decide_eq_false h
  have := (sg_le (x : Int) (y : Int)).1 (by omega)
  omega
theorem len0_t {y : Nat} (h : y = 0) : (((dg y).length : Int) == (0 : Int)) = true := by rw [h, dg_zero]; rfl
theorem len0_f {y : Nat} (h : y ≠ 0) : (((dg y).length : Int) == (0 : Int)) = false := by
  rw [dg_len, beq_eq_false_iff_ne]; have := nd_pos.2 h; omega
theorem gcd_top {a b : Int} (ha : a.natAbs < top) (hb : b.natAbs < top) : (((Int.gcd a b : Nat) : Int)).natAbs < top := by
  show Nat.gcd a.natAbs b.natAbs < top
  rcases Nat.eq_zero_or_pos a.natAbs with h | h
  · rw [h, Nat.gcd_zero_left]; exact hb
  · exact Nat.lt_of_le_of_lt (Nat.gcd_le_left _ h) ha
end Go.Proofs.Ytbbakacfhajohaa.Av

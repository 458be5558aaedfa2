/- LimbLaws: the plain law. -/
import Derived.Test.YtbbakacfhajohaaWw
namespace Go.Proofs.Ytbbakacfhajohaa.Av
set_option linter.unusedVariables false
theorem laws_eq (a b : Int) : a.tdiv b * b + a.tmod b = a := Int.tdiv_mul_add_tmod a b
theorem laws_sum {a b : Int} (h : b ≠ 0) : ((sg (a.tdiv b * b + a.tmod b) a) != (0 : Int)) = false := sg_ne_f (laws_eq a b)
theorem laws_s {a b : Int} (h : a.natAbs < top) : (a.tdiv b * b + a.tmod b).natAbs < top := by rw [laws_eq]; exact h
theorem laws_qt {a b : Int} (h : a.natAbs < top) : (a.tdiv b).natAbs < top := by
  rw [Int.natAbs_tdiv]; exact Nat.lt_of_le_of_lt (Nat.div_le_self ..) h
theorem laws_rt {a b : Int} (h : a.natAbs < top) : (a.tmod b).natAbs < top := by
  rw [Int.natAbs_tmod]; exact Nat.lt_of_le_of_lt (Nat.mod_le ..) h
theorem laws_q {a b : Int} (h : a.natAbs < top) (h0 : b ≠ 0) : (a.tdiv b * b).natAbs < top := by
  rw [Int.natAbs_mul, Int.natAbs_tdiv]; exact Nat.lt_of_le_of_lt (Nat.div_mul_le_self ..) h
theorem laws_rem {m : Bool} {y : Nat} {a b : Int} (hb : iz m y = b) (h0 : b ≠ 0) : decide ((sg (iz false (a.tmod b).natAbs) (iz false y)) ≥ (0 : Int)) = false := by
  apply decide_eq_false
  rw [sg_ge, Int.natAbs_tmod, ← hb, iz_abs]
  have hy : y ≠ 0 := fun e => h0 (by rw [← hb]; exact iz_eq0.2 e)
  have := Nat.mod_lt a.natAbs (Nat.pos_of_ne_zero hy)
  show ¬ ((y : Int) ≤ ((a.natAbs % y : Nat) : Int))
  omega
end Go.Proofs.Ytbbakacfhajohaa.Av

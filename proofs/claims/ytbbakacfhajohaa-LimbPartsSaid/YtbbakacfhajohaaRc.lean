/- Plain mathematics: division bit by bit. -/
import Derived.Test.YtbbakacfhajohaaRwe
namespace Go.Proofs.Ytbbakacfhajohaa.Av
set_option linter.unusedVariables false
theorem le_rs {k : IntKind} {ws : List Int} (h : ws = []) : AV.le (.c (.sc (.v (.slice none 0 0)))) (.c (.sc (.rs k ws))) := by
  rintro E W u ⟨rfl, _⟩; exact .inl ⟨h, rfl⟩
def dvR (x y W : Nat) : Nat := x / W % y
def dvQ (x y W : Nat) : Nat := x / W / y * W
theorem dvR_lt {y : Nat} (x W : Nat) (hy : y ≠ 0) : dvR x y W < y := Nat.mod_lt _ (by omega)
theorem dv_nd {y : Nat} (x W : Nat) (hy : y ≠ 0) : nd (dvR x y W) ≤ nd y := nd_mono (Nat.le_of_lt (dvR_lt x W hy))
theorem nd_one : nd 1 = 1 := by rw [nd_succ (by decide), nd_zero]
theorem dg_one : dg 1 = [(1 : Int)] := by unfold dg; rw [nd_one]; rfl
theorem dv_in (m : Nat) : pB (m + 1) * 2 ^ 0 = pB m * 2 ^ 16 := by rw [pB_succ, Nat.pow_zero, Nat.mul_one, show (2 : Nat) ^ 16 = 65536 from rfl]
theorem dv_start {x y m : Nat} (h : x < pB m) : dvR x y (pB m * 2 ^ 0) = 0 ∧ dvQ x y (pB m * 2 ^ 0) = 0 := by
  unfold dvR dvQ; rw [Nat.pow_zero, Nat.mul_one, Nat.div_eq_of_lt h]; simp
theorem dv_end (x y : Nat) : dvR x y (pB 0 * 2 ^ 0) = x % y ∧ dvQ x y (pB 0 * 2 ^ 0) = x / y := by
  unfold dvR dvQ; rw [pB_zero]; simp
theorem dv_bit {x i k : Nat} (hk : k < 16) : x / (pB i * 2 ^ k) = 2 * (x / (pB i * 2 ^ (k + 1))) + dgt x i / 2 ^ k % 2 := by
  rw [← Nat.div_div_eq_div_mul, ← Nat.div_div_eq_div_mul, Nat.pow_succ, ← Nat.div_div_eq_div_mul]
  have e : x / pB i / 2 ^ k % 2 = dgt x i / 2 ^ k % 2 := by
    unfold dgt
    generalize x / pB i = N
    have h16 : (65536 : Nat) = 2 ^ k * (2 * 2 ^ (15 - k)) := by
      rw [show 2 * 2 ^ (15 - k) = 2 ^ (15 - k + 1) by rw [Nat.pow_succ, Nat.mul_comm], ← Nat.pow_add, show k + (15 - k + 1) = 16 by omega]
    rw [h16, Nat.mod_mul_right_div_self, Nat.mod_mul_right_mod]
  omega
theorem dv_bitI {x i k : Nat} (hk : k < 16) {v : Int} (hv : v = ((dgt x i : Nat) : Int)) : v / (2 ^ k : Int) % (2 : Int) = ((dgt x i / 2 ^ k % 2 : Nat) : Int) := by
  subst hv; push_cast; rfl
theorem dv_p {x y i k : Nat} (hk : k < 16) : x / (pB i * 2 ^ k) = y * (2 * (x / (pB i * 2 ^ (k + 1)) / y)) + (dvR x y (pB i * 2 ^ (k + 1)) + dvR x y (pB i * 2 ^ (k + 1)) + dgt x i / 2 ^ k % 2) := by
  rw [dv_bit hk]
  unfold dvR
  generalize x / (pB i * 2 ^ (k + 1)) = p
  have := Nat.div_add_mod p y
  have e : y * (2 * (p / y)) = 2 * (y * (p / y)) := by rw [Nat.mul_left_comm]
  omega
theorem dv_lt {x y i k : Nat} (hk : k < 16) (h0 : y ≠ 0) (h : dvR x y (pB i * 2 ^ (k + 1)) + dvR x y (pB i * 2 ^ (k + 1)) + dgt x i / 2 ^ k % 2 < y) :
    dvR x y (pB i * 2 ^ (k + 1)) + dvR x y (pB i * 2 ^ (k + 1)) + dgt x i / 2 ^ k % 2 = dvR x y (pB i * 2 ^ k) ∧ dvQ x y (pB i * 2 ^ (k + 1)) = dvQ x y (pB i * 2 ^ k) := by
  have e := dv_p (x := x) (y := y) (i := i) hk
  have hp : 0 < y := Nat.pos_of_ne_zero h0
  constructor
  · show _ = x / (pB i * 2 ^ k) % y
    rw [e, Nat.mul_add_mod, Nat.mod_eq_of_lt h]
  · show _ = x / (pB i * 2 ^ k) / y * (pB i * 2 ^ k)
    have q : x / (pB i * 2 ^ k) / y = 2 * (x / (pB i * 2 ^ (k + 1)) / y) := by rw [e, Nat.mul_add_div hp, Nat.div_eq_of_lt h]; rfl
    rw [q]
    unfold dvQ
    rw [Nat.pow_succ]
    rw [show pB i * (2 ^ k * 2) = 2 * (pB i * 2 ^ k) by rw [← Nat.mul_assoc, Nat.mul_comm], ← Nat.mul_assoc, Nat.mul_comm _ 2]
theorem dv_ge {x y i k : Nat} (hk : k < 16) (hy : y ≠ 0) (h : y ≤ dvR x y (pB i * 2 ^ (k + 1)) + dvR x y (pB i * 2 ^ (k + 1)) + dgt x i / 2 ^ k % 2) :
    dvR x y (pB i * 2 ^ (k + 1)) + dvR x y (pB i * 2 ^ (k + 1)) + dgt x i / 2 ^ k % 2 - y = dvR x y (pB i * 2 ^ k) ∧ dvQ x y (pB i * 2 ^ (k + 1)) + 2 ^ k * pB i = dvQ x y (pB i * 2 ^ k) := by
  have e := dv_p (x := x) (y := y) (i := i) hk
  have hr := dvR_lt x (pB i * 2 ^ (k + 1)) hy
  have hb : dgt x i / 2 ^ k % 2 < 2 := Nat.mod_lt _ (by decide)
  generalize hR : dvR x y (pB i * 2 ^ (k + 1)) + dvR x y (pB i * 2 ^ (k + 1)) + dgt x i / 2 ^ k % 2 = R at *
  have e2 : x / (pB i * 2 ^ k) = y * (2 * (x / (pB i * 2 ^ (k + 1)) / y) + 1) + (R - y) := by rw [e, Nat.mul_add, Nat.mul_one]; omega
  constructor
  · show _ = x / (pB i * 2 ^ k) % y
    rw [e2, Nat.mul_add_mod, Nat.mod_eq_of_lt (by omega)]
  · show _ = x / (pB i * 2 ^ k) / y * (pB i * 2 ^ k)
    have q : x / (pB i * 2 ^ k) / y = 2 * (x / (pB i * 2 ^ (k + 1)) / y) + 1 := by rw [e2, Nat.mul_add_div (by omega), Nat.div_eq_of_lt (show R - y < y by omega)]
    rw [q, Nat.add_mul, Nat.one_mul]
    unfold dvQ
    rw [Nat.pow_succ]
    rw [show pB i * (2 ^ k * 2) = 2 * (pB i * 2 ^ k) by rw [← Nat.mul_assoc, Nat.mul_comm], ← Nat.mul_assoc, Nat.mul_comm _ 2, Nat.mul_comm (2 ^ k) (pB i)]
/-- The digit that the bit is added to has room for it. -/
theorem dv_room {x y i k : Nat} (hk : k < 16) : dgt (dvQ x y (pB i * 2 ^ (k + 1))) i + 2 ^ k < 65536 := by
  have e : dgt (dvQ x y (pB i * 2 ^ (k + 1))) i = x / (pB i * 2 ^ (k + 1)) / y * 2 ^ (k + 1) % 65536 := by
    unfold dvQ dgt
    rw [Nat.mul_comm (pB i), ← Nat.mul_assoc, Nat.mul_div_cancel _ (pB_pos i)]
  rw [e]
  generalize x / (pB i * 2 ^ (k + 1)) / y = p
  have h16 : (65536 : Nat) = 2 ^ (15 - k) * 2 ^ (k + 1) := by rw [← Nat.pow_add, show 15 - k + (k + 1) = 16 by omega]
  rw [h16, Nat.mul_mod_mul_right]
  have h1 : p % 2 ^ (15 - k) < 2 ^ (15 - k) := Nat.mod_lt _ (Nat.pow_pos (by decide))
  have h2 : (p % 2 ^ (15 - k) + 1) * 2 ^ (k + 1) ≤ 2 ^ (15 - k) * 2 ^ (k + 1) := Nat.mul_le_mul_right _ h1
  rw [Nat.add_mul, Nat.one_mul] at h2
  have h3 : 2 ^ (k + 1) = 2 ^ k * 2 := Nat.pow_succ ..
  have h4 : 0 < 2 ^ k := Nat.pow_pos (by decide)
  omega
theorem dk_add_at {Q w i K : Nat} {v : Int} (hi : i < K) (hr : dgt Q i + w < 65536) (hv : v = ((dgt Q i + w : Nat) : Int)) : (dk Q K).set i v = dk (Q + w * pB i) K := by
  rw [hv, dk_set_of hi hr]
  congr 1
  have h1 := div_split Q i
  have h2 := div_dgt Q i
  have e : (dgt Q i + w + Q / pB (i + 1) * 65536) * pB i = pB i * (Q / pB i) + w * pB i := by
    rw [h2, Nat.mul_comm (pB i), ← Nat.add_mul]; congr 1; omega
  omega
theorem pw_i (k : Nat) : ((2 ^ k : Nat) : Int) = (2 : Int) ^ k := by push_cast; rfl
theorem pw16 {k : Nat} (h : k < 16) : 1 ≤ 2 ^ k ∧ 2 ^ k ≤ 32768 := ⟨Nat.pow_pos (by decide), (Nat.pow_le_pow_right (by decide) (show k ≤ 15 by omega) : 2 ^ k ≤ 2 ^ 15)⟩
theorem rd_q (a b : Int) : iz (!(decide (a < 0) == decide (b < 0))) (a.natAbs / b.natAbs) = a.tdiv b := by
  have e : (a.tdiv b).natAbs = a.natAbs / b.natAbs := Int.natAbs_tdiv ..
  rw [← e]
  by_cases h1 : a < 0 <;> by_cases h2 : b < 0
  · rw [decide_eq_true h1, decide_eq_true h2]
    have h := Int.tdiv_nonneg_of_nonpos_of_nonpos (Int.le_of_lt h1) (Int.le_of_lt h2)
    show ((a.tdiv b).natAbs : Int) = a.tdiv b; omega
  · rw [decide_eq_true h1, decide_eq_false h2]
    have h := Int.tdiv_nonneg (show 0 ≤ -a by omega) (show 0 ≤ b by omega)
    rw [Int.neg_tdiv] at h
    show -((a.tdiv b).natAbs : Int) = a.tdiv b; omega
  · rw [decide_eq_false h1, decide_eq_true h2]
    have h := Int.tdiv_nonneg (show 0 ≤ a by omega) (show 0 ≤ -b by omega)
    rw [Int.tdiv_neg] at h
    show -((a.tdiv b).natAbs : Int) = a.tdiv b; omega
  · rw [decide_eq_false h1, decide_eq_false h2]
    have h := Int.tdiv_nonneg (show 0 ≤ a by omega) (show 0 ≤ b by omega)
    show ((a.tdiv b).natAbs : Int) = a.tdiv b; omega
theorem rd_r (a b : Int) : iz (decide (a < 0)) (a.natAbs % b.natAbs) = a.tmod b := by
  have e : (a.tmod b).natAbs = a.natAbs % b.natAbs := Int.natAbs_tmod ..
  rw [← e, izd]
  split
  · have h := Int.tmod_nonneg b (show 0 ≤ -a by omega); rw [Int.neg_tmod] at h; omega
  · have := Int.tmod_nonneg b (show 0 ≤ a by omega); omega
end Go.Proofs.Ytbbakacfhajohaa.Av

/- Plain mathematics: numbers as bits, joined bit by bit, by the reference and by limb. -/
import Derived.Test.YtbbakacfhajohaaRwh
import Derived.Test.YtbbakacfhajohaaIl
namespace Go.Proofs.Ytbbakacfhajohaa.Av
set_option linter.unusedVariables false
theorem one_dk : [(1 : Int)] = dk 1 1 := by have h := dg_one; unfold dg at h; rw [nd_one] at h; exact h.symm
def bk (v k : Nat) : List Int := (List.range k).map fun j => ((v / 2 ^ j % 2 : Nat) : Int)
theorem bk_len (v k : Nat) : (bk v k).length = k := by simp [bk]
theorem bk_get {v k j : Nat} (h : j < k) : (bk v k).getD j 0 = ((v / 2 ^ j % 2 : Nat) : Int) := by
  unfold bk
  rw [List.getD_eq_getElem?_getD, List.getElem?_map, List.getElem?_range h]; rfl
theorem bk_snoc (v k : Nat) {w : Int} (h : w = ((v / 2 ^ k % 2 : Nat) : Int)) : bk v k ++ [w] = bk v (k + 1) := by rw [h]; simp [bk, List.range_succ]
theorem dk_pad {x L : Nat} (h : nd x ≤ L) : dk x L ++ [(0 : Int)] = dk x (L + 1) := minus_app (by rw [dgt_big (nd_le.2 h)]; rfl)
/-! ### All digits turned -/
def cm (v i : Nat) : Nat := (pB i - 1 - v % pB i) + v / pB i * pB i
theorem cm_zero (v : Nat) : cm v 0 = v := by unfold cm; rw [pB_zero]; simp [Nat.mod_one]
theorem cm_dgt (v i : Nat) : dgt (cm v i) i = dgt v i := by
  have h := Nat.mod_lt v (pB_pos i)
  have := dgt_high (w := v / pB i) (i := i) (j := 0) (show pB i - 1 - v % pB i < pB i by omega)
  rw [Nat.add_zero] at this
  unfold cm
  rw [this, dgt_zero]; rfl
theorem cm_set {v i K : Nat} {w : Int} (hi : i < K) (hw : w = ((65535 - dgt v i : Nat) : Int)) : (dk (cm v i) K).set i w = dk (cm v (i + 1)) K := by
  rw [hw, dk_set_of hi (by omega)]
  congr 1
  have h := Nat.mod_lt v (pB_pos i)
  have hp := pB_pos i
  have e1 : cm v i % pB i = pB i - 1 - v % pB i := by unfold cm; rw [Nat.add_mul_mod_self_right, Nat.mod_eq_of_lt (by omega)]
  have e2 : cm v i / pB (i + 1) = v / pB (i + 1) := by
    have : cm v i / pB i = v / pB i := by unfold cm; rw [Nat.add_mul_div_right _ _ hp, Nat.div_eq_of_lt (by omega), Nat.zero_add]
    rw [div_succ, this, ← div_succ]
  rw [e1, e2]
  unfold cm
  have hd := dgt_lt v i
  rw [mod_succ, pB_succ]
  generalize hq : v / (pB i * 65536) = q
  generalize pB i = P at *
  generalize dgt v i = d at *
  rw [Nat.add_mul, Nat.sub_mul, Nat.mul_assoc, Nat.mul_comm 65536 P, Nat.mul_comm P d]
  have : d * P ≤ 65535 * P := Nat.mul_le_mul_right _ (by omega)
  omega
theorem cm_end {v K : Nat} (h : v < pB K) : cm v K = pB K - 1 - v := by unfold cm; rw [Nat.mod_eq_of_lt h, Nat.div_eq_of_lt h]; omega
/-! ### Bits -/
theorem bit_dgt {v i j : Nat} (hj : j < 16) : dgt v i / 2 ^ j % 2 = v / 2 ^ (16 * i + j) % 2 := by
  have h := dv_bit (x := v) (i := i) hj
  have e : v / (pB i * 2 ^ j) = v / 2 ^ (16 * i + j) := by rw [pB_pow, ← Nat.pow_add]
  rw [e] at h
  omega
theorem bit_dgtI {v i j : Nat} (hj : j < 16) {w : Int} (hw : w = ((dgt v i : Nat) : Int)) : w / (2 ^ j : Int) % (2 : Int) = ((v / 2 ^ (16 * i + j) % 2 : Nat) : Int) := by
  rw [← bit_dgt hj]; exact dv_bitI hj hw
/-- A number below 0 by its bits: all of them but so many. -/
def eM (a : Int) : Nat := if a < 0 then pB 40 - a.natAbs else a.natAbs
def ng (F : Nat) : Nat → Bool
  | 0 => false
  | i + 1 => F / 2 ^ i % 2 == 1
theorem ng_next {F i : Nat} {b : Int} (h : b = ((F / 2 ^ i % 2 : Nat) : Int)) : (b == (1 : Int)) = ng F (i + 1) := by
  rw [h]
  show _ = (F / 2 ^ i % 2 == 1)
  rcases (show F / 2 ^ i % 2 = 0 ∨ F / 2 ^ i % 2 = 1 by omega) with h | h <;> rw [h] <;> rfl
theorem jo_mod (F i : Nat) : F % 2 ^ (i + 1) = F % 2 ^ i + F / 2 ^ i % 2 * 2 ^ i := by rw [Nat.pow_succ, Nat.mod_mul, Nat.mul_comm (2 ^ i)]
theorem jo_pos (i : Nat) : 2 ^ i = 2 ^ (i % 16) * pB (i / 16) := by rw [pB_pow, ← Nat.pow_add]; congr 1; omega
theorem jo_room (F i : Nat) : dgt (F % 2 ^ i) (i / 16) + F / 2 ^ i % 2 * 2 ^ (i % 16) < 65536 := by
  have h1 : F % 2 ^ i < 2 ^ i := Nat.mod_lt _ (Nat.pow_pos (by decide))
  have h2 : F % 2 ^ i / pB (i / 16) < 2 ^ (i % 16) := by
    refine (Nat.div_lt_iff_lt_mul (pB_pos _)).2 ?_
    rw [← jo_pos]; exact h1
  have h3 : dgt (F % 2 ^ i) (i / 16) ≤ F % 2 ^ i / pB (i / 16) := Nat.mod_le ..
  have h4 : F / 2 ^ i % 2 * 2 ^ (i % 16) ≤ 1 * 2 ^ (i % 16) := Nat.mul_le_mul_right _ (by omega)
  have h5 : 2 ^ (i % 16) ≤ 2 ^ 15 := Nat.pow_le_pow_right (by decide) (by omega)
  omega
theorem jo_set {F i : Nat} {w : Int} (hi : i < 640) (hw : w = ((dgt (F % 2 ^ i) (i / 16) + F / 2 ^ i % 2 * 2 ^ (i % 16) : Nat) : Int)) : (dk (F % 2 ^ i) 40).set (i / 16) w = dk (F % 2 ^ (i + 1)) 40 := by
  rw [dk_add_at (by omega) (jo_room F i) hw, jo_mod, Nat.mul_assoc, ← jo_pos]
theorem jo_start (F : Nat) : List.replicate (40 : Int).toNat (0 : Int) = dk (F % 2 ^ 0) 40 := by rw [Nat.pow_zero, Nat.mod_one]; exact dk_rep 40
end Go.Proofs.Ytbbakacfhajohaa.Av

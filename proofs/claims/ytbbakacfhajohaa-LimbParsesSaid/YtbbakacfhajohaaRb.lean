/- Plain mathematics: numbers by digits: From, To, Small, Power, Bits, Mul. -/
import Derived.Test.YtbbakacfhajohaaIs
namespace Go.Proofs.Ytbbakacfhajohaa.Av
set_option linter.unusedVariables false
theorem num0_le : AV.le (.c (.ag [.one (.v (.bool false)), .one (.v (.slice none 0 0))])) (.c (.ag (dS 0))) := by
  rintro E W u ⟨us, rfl, h⟩
  obtain ⟨a, b, rfl, ⟨u0, rfl, rfl, _⟩, c, d, rfl, ⟨u1, rfl, rfl, _⟩, rfl⟩ := h
  refine ⟨_, rfl, [.bool false], _, rfl, ⟨_, rfl, rfl, rfl⟩, [.slice none 0 0], [], rfl, ⟨_, rfl, ?_⟩, rfl⟩
  exact .inl ⟨dg_zero, rfl⟩
theorem pB_pow (i : Nat) : pB i = 2 ^ (16 * i) := by unfold pB; rw [show (65536 : Nat) = 2 ^ 16 by rfl, ← Nat.pow_mul]
theorem pB4 (i : Nat) : pB (4 * i) = 2 ^ (64 * i) := by rw [pB_pow]; exact congrArg (2 ^ ·) (by omega)
theorem pB_four : pB 4 = 18446744073709551616 := by rw [pB_pow]
/-! ### From -/
theorem wd_pB (x i : Nat) : wd x i = x / pB (4 * i) % pB 4 := by unfold wd; rw [pB4, pB_four]
theorem fr_dgt (x i : Nat) {k : Nat} (hk : k < 4) : wd x i / pB k % 65536 = dgt x (4 * i + k) := by
  have : wd x i / pB k % 65536 = dgt (x / pB (4 * i) % pB 4) k := by rw [← wd_pB]; rfl
  rw [this, dgt_mod hk]
  unfold dgt
  rw [pB_add, Nat.div_div_eq_div_mul]
theorem fr_next (x i k : Nat) : wd x i / pB k / 65536 = wd x i / pB (k + 1) := (div_succ ..).symm
theorem fr_zero (x i : Nat) : wd x i / pB 0 = wd x i := by rw [pB_zero, Nat.div_one]
theorem fr_lt (x i k : Nat) : wd x i / pB k < 18446744073709551616 := Nat.lt_of_le_of_lt (Nat.div_le_self ..) (wd_lt x i)
theorem fr_app {x i k : Nat} (hk : k < 4) : dk x (4 * i + k) ++ [((wd x i / pB k : Nat) : Int) % (65536 : Int)] = dk x (4 * i + (k + 1)) := by
  rw [show 4 * i + (k + 1) = 4 * i + k + 1 by omega]
  exact minus_app (by rw [← fr_dgt x i hk]; omega)
/-! ### To -/
def toF (n m j : Nat) : Nat := if 4 * j + 4 ≤ m then 0 else n / pB (max m (4 * j)) % pB (4 * j + 4 - max m (4 * j))
theorem toF_end {n : Nat} : tb (toF n 0) = ofN n := by
  refine tb_ofN (fun i hi => ?_)
  unfold toF
  rw [if_neg (by omega), show max 0 (4 * i) = 4 * i by omega, show 4 * i + 4 - 4 * i = 4 by omega, wd_pB]
theorem toF_start {n m : Nat} (hn : n < pB m) : tb (toF n m) = z8 := by
  have : ∀ i, i < 8 → toF n m i = wd 0 i := by
    intro i hi
    have h0 : wd 0 i = 0 := by unfold wd; simp
    rw [h0]
    unfold toF
    split
    · rfl
    · rw [Nat.div_eq_of_lt (Nat.lt_of_lt_of_le hn (pB_le (by omega)))]; simp
  rw [tb_ofN this, z8_eq]
theorem toF_other {n m j : Nat} (hj : j ≠ m / 4) : toF n (m + 1) j = toF n m j := by
  unfold toF
  by_cases h : 4 * j + 4 ≤ m
  · rw [if_pos (by omega), if_pos h]
  · rw [if_neg (by omega), if_neg h, show max (m + 1) (4 * j) = max m (4 * j) by omega]
theorem toF_same (n m : Nat) : toF n m (m / 4) = toF n (m + 1) (m / 4) * 65536 + dgt n m := by
  obtain ⟨r, hr⟩ : ∃ r, r = m % 4 := ⟨_, rfl⟩
  have hm : m = 4 * (m / 4) + r := by omega
  unfold toF
  rw [if_neg (by omega), show max m (4 * (m / 4)) = m by omega]
  split
  · rw [show 4 * (m / 4) + 4 - m = 1 by omega]
    unfold dgt; rw [pB_succ, pB_zero]; omega
  · rw [show max (m + 1) (4 * (m / 4)) = m + 1 by omega]
    obtain ⟨q, hq⟩ : ∃ q, 4 * (m / 4) + 4 - m = q + 1 ∧ 4 * (m / 4) + 4 - (m + 1) = q := ⟨4 * (m / 4) + 4 - (m + 1), by omega, rfl⟩
    rw [hq.1, hq.2, pB_succ, Nat.mul_comm (pB q), Nat.mod_mul, div_succ]
    unfold dgt
    omega
theorem toF_lt (n m j : Nat) (h : m ≤ 4 * j + 3) (h2 : 4 * j < m) : toF n m j < 281474976710656 := by
  unfold toF
  rw [if_neg (by omega)]
  refine Nat.lt_of_lt_of_le (Nat.mod_lt _ (pB_pos _)) ?_
  have := pB_le (show 4 * j + 4 - max m (4 * j) ≤ 3 by omega)
  have e : pB 3 = 281474976710656 := by rw [pB_pow]
  omega
theorem toF_bound (n m : Nat) : toF n (m + 1) (m / 4) < 281474976710656 := by
  unfold toF
  split
  · decide
  · refine Nat.lt_of_lt_of_le (Nat.mod_lt _ (pB_pos _)) ?_
    have := pB_le (show 4 * (m / 4) + 4 - max (m + 1) (4 * (m / 4)) ≤ 3 by omega)
    have e : pB 3 = 281474976710656 := by rw [pB_pow]
    omega
theorem to_set {n m : Nat} {v : Int} (hm : m < 32) (h : v = ((toF n (m + 1) (m / 4) * 65536 + dgt n m : Nat) : Int)) : (tb (toF n (m + 1))).set (m / 4) v = tb (toF n m) := by
  rw [h, tb_set _ (by omega)]
  refine tb_ext (fun i hi => ?_)
  show (if i = m / 4 then _ else _) = _
  split
  · rename_i hi2; rw [hi2]; exact (toF_same n m).symm
  · rename_i hi2; exact toF_other hi2
/-! ### Small -/
theorem sm_app {x j : Nat} : dk x j ++ [((x / pB j : Nat) : Int) % (65536 : Int)] = dk x (j + 1) := minus_app (by unfold dgt; omega)
theorem sm_next (x j : Nat) : ((x / pB j : Nat) : Int) / (65536 : Int) = ((x / pB (j + 1) : Nat) : Int) := by rw [div_succ]; omega
theorem sm_stop {x j : Nat} (h : ¬ 0 < x / pB j) : nd x ≤ j := nd_le.1 (Decidable.byContradiction fun hn => h (Nat.div_pos (by omega) (pB_pos j)))
theorem sm_go {x j : Nat} (h : 0 < x / pB j) : j < nd x := Decidable.byContradiction fun hn => by
  rw [Nat.div_eq_of_lt (nd_le.2 (by omega))] at h; omega
theorem sm_nd {x : Nat} (h : x < 18446744073709551616) : nd x ≤ 4 := nd_le.1 (by rw [pB_four]; exact h)
/-! ### Power -/
theorem dk_rep (k : Nat) : List.replicate k (0 : Int) = dk 0 k := by
  refine List.ext_getElem? (fun i => ?_)
  unfold dk
  rw [List.getElem?_map]
  rcases Nat.lt_or_ge i k with h | h
  · rw [List.getElem?_replicate, if_pos h, List.getElem?_range h]; simp [dgt]
  · rw [List.getElem?_eq_none (by simpa using h), List.getElem?_eq_none (by simpa using h)]; rfl
theorem pw_split (n : Nat) : 2 ^ n = 2 ^ (n % 16) * pB (n / 16) := by rw [pB_pow, ← Nat.pow_add]; congr 1; omega
theorem pw_lt (n : Nat) : 2 ^ n < pB (n / 16 + 1) := by rw [pB_pow]; exact Nat.pow_lt_pow_right (by decide) (by omega)
theorem pw_set {n : Nat} {v : Int} (h : v = ((2 ^ (n % 16) : Nat) : Int)) : (List.replicate (n / 16 + 1) (0 : Int)).set (n / 16) v = dk (2 ^ n) (n / 16 + 1) := by
  have hw : 2 ^ (n % 16) < 2 ^ 16 := Nat.pow_lt_pow_right (by decide) (by omega)
  rw [dk_rep, h, dk_set_of (by omega) hw]
  congr 1
  rw [pw_split n]; simp
theorem pw_row (n : Nat) : (List.replicate ((((n : Nat) : Int) / (16 : Int)) + (1 : Int)).toNat (0 : Int)).set (((n : Nat) : Int) / (16 : Int)).toNat ((1 : Int) * (2 ^ (((n : Nat) : Int) % (16 : Int)).toNat : Int)) = dk (2 ^ n) (n / 16 + 1) := by
  rw [show ((((n : Nat) : Int) / (16 : Int)) + (1 : Int)).toNat = n / 16 + 1 by omega, show (((n : Nat) : Int) / (16 : Int)).toNat = n / 16 by omega, show (((n : Nat) : Int) % (16 : Int)).toNat = n % 16 by omega]
  exact pw_set (by rw [Int.one_mul]; push_cast; rfl)
theorem pw_small (n : Nat) : 1 ≤ (1 : Int) * (2 ^ (((n : Nat) : Int) % (16 : Int)).toNat : Int) ∧ (1 : Int) * (2 ^ (((n : Nat) : Int) % (16 : Int)).toNat : Int) ≤ 32768 := by
  rw [show (((n : Nat) : Int) % (16 : Int)).toNat = n % 16 by omega]
  have h1 : 2 ^ (n % 16) ≤ 2 ^ 15 := Nat.pow_le_pow_right (by decide) (by omega)
  have h2 : 0 < 2 ^ (n % 16) := Nat.pow_pos (by decide)
  have h3 : ((2 ^ (n % 16) : Nat) : Int) = (2 : Int) ^ (n % 16) := by push_cast; rfl
  omega
/-! ### Bits -/
theorem rb_zero {x : Nat} (h : nd x = 0) : bl x = 0 := by
  have : x = 0 := Decidable.byContradiction fun hn => by have := nd_pos.2 hn; omega
  subst this; rfl
theorem bl_dg {x : Nat} (h : x ≠ 0) : bl x = 16 * (nd x - 1) + bl (dgt x (nd x - 1)) := by
  obtain ⟨m, hm⟩ : ∃ m, nd x = m + 1 := ⟨nd x - 1, by have := nd_pos.2 h; omega⟩
  have h1 := nd_lt x
  have h2 := nd_top (n := x) (by omega)
  rw [hm, Nat.add_sub_cancel] at *
  rw [pB_succ] at h1
  have ht : dgt x m = x / pB m := by
    unfold dgt; exact Nat.mod_eq_of_lt ((Nat.div_lt_iff_lt_mul (pB_pos m)).2 (by rw [Nat.mul_comm]; exact h1))
  have hp := bl_pos h2
  have g1 := lt_bl (Nat.le_refl (bl (dgt x m)))
  have hs := div_split x m
  have hr := Nat.mod_lt x (pB_pos m)
  refine Nat.le_antisymm (bl_le_of_lt ?_) (Decidable.byContradiction fun hn => ?_)
  · rw [Nat.pow_add, ← pB_pow]
    have : pB m * (dgt x m + 1) ≤ pB m * 2 ^ bl (dgt x m) := Nat.mul_le_mul_left _ g1
    rw [Nat.mul_add, ht] at this
    rw [ht]
    omega
  · have g2 := lt_bl (n := x) (b := 16 * m + (bl (dgt x m) - 1)) (by omega)
    rw [Nat.pow_add, ← pB_pow] at g2
    have g3 : dgt x m < 2 ^ (bl (dgt x m) - 1) := by
      rw [ht]; rw [ht] at g2; exact (Nat.div_lt_iff_lt_mul (pB_pos m)).2 (by rw [Nat.mul_comm]; exact g2)
    have := bl_le_of_lt g3
    omega
theorem bl_half (t j : Nat) : ((t / 2 ^ j : Nat) : Int) / (2 : Int) = ((t / 2 ^ (j + 1) : Nat) : Int) := by rw [Nat.pow_succ, ← Nat.div_div_eq_div_mul]; omega
theorem bl_stop {t j : Nat} (h : ¬ 0 < t / 2 ^ j) : bl t ≤ j := bl_le_of_lt (Decidable.byContradiction fun hn => h (Nat.div_pos (by omega) (Nat.pow_pos (by decide))))
theorem bl_go {t j : Nat} (h : 0 < t / 2 ^ j) : j < bl t := Decidable.byContradiction fun hn => by
  rw [Nat.div_eq_of_lt (lt_bl (by omega))] at h; omega
theorem bl_d16 (x i : Nat) : bl (dgt x i) ≤ 16 := bl_le_of_lt (dgt_lt x i)
/-! ### Mul -/
theorem mul_bound {d e c : Nat} (h1 : d < 65536) (h2 : e < 65536) (h3 : c < 65536) : d * e ≤ 4294836225 ∧ (65535 + d * e + c) / 65536 < 65536 := by
  have := Nat.mul_le_mul (show d ≤ 65535 by omega) (show e ≤ 65535 by omega)
  omega
/-- What stands between what is in the row, what is carried, and the product so far. -/
structure MuI (x y i k V c : Nat) : Prop where
  sum : V + c * pB (i + k) = x % pB i * y + pB i * dgt x i * (y % pB k)
  high : V / pB (i + k) = x % pB i * y / pB (i + k)
  carry : c < 65536
theorem mu_start (x y i : Nat) : MuI x y i 0 (x % pB i * y) 0 := ⟨by simp [pB_zero, Nat.mod_one], rfl, by decide⟩
def muS (x y i k V c : Nat) : Nat := dgt V (i + k) + dgt x i * dgt y k + c
def muV (x y i k V c : Nat) : Nat := V % pB (i + k) + (muS x y i k V c % 65536 + V / pB (i + k + 1) * 65536) * pB (i + k)
theorem mu_next {x y i k V c : Nat} (h : MuI x y i k V c) : MuI x y i (k + 1) (muV x y i k V c) (muS x y i k V c / 65536) := by
  obtain ⟨h1, h2, h3⟩ := h
  have hb := mul_bound (dgt_lt x i) (dgt_lt y k) h3
  have hd := dgt_lt V (i + k)
  have hP := pB_pos (i + k)
  generalize hS : muS x y i k V c = S
  have hS' : S = dgt V (i + k) + dgt x i * dgt y k + c := hS.symm
  refine ⟨?_, ?_, by omega⟩
  · unfold muV
    have e1 := div_split V (i + k)
    have e2 := div_dgt V (i + k)
    generalize hq : V / pB (i + k + 1) = q at *
    rw [hS, mod_succ, ← Nat.add_assoc i k 1, pB_succ]
    have e3 : pB i * dgt x i * (y % pB k + pB k * dgt y k) = pB i * dgt x i * (y % pB k) + pB (i + k) * (dgt x i * dgt y k) := by
      rw [Nat.mul_add, pB_add]; congr 1; ac_rfl
    rw [e3, ← Nat.add_assoc, ← h1]
    generalize pB (i + k) = P at *
    have e4 : (S % 65536 + q * 65536) * P + S / 65536 * (P * 65536) = P * (S + q * 65536) := by
      have : S = S % 65536 + S / 65536 * 65536 := by omega
      rw [Nat.mul_comm P 65536, ← Nat.mul_assoc, ← Nat.add_mul, Nat.mul_comm P]
      congr 1; omega
    have e5 : V = P * (q * 65536 + dgt V (i + k)) + V % P := by rw [← e2]; exact e1
    have e6 : P * (S + q * 65536) = P * (q * 65536 + dgt V (i + k)) + P * (dgt x i * dgt y k) + c * P := by
      rw [Nat.mul_comm c P, ← Nat.mul_add, ← Nat.mul_add, hS']
      congr 1; omega
    omega
  · unfold muV
    have g1 : (V % pB (i + k) + (S % 65536 + V / pB (i + k + 1) * 65536) * pB (i + k)) / pB (i + k) = S % 65536 + V / pB (i + k + 1) * 65536 := by
      rw [Nat.add_mul_div_right _ _ hP, Nat.div_eq_of_lt (Nat.mod_lt _ hP), Nat.zero_add]
    have g2 : x % pB i * y / pB (i + k + 1) = V / pB (i + k + 1) := by rw [div_succ, div_succ V, h2]
    rw [hS, ← Nat.add_assoc i k 1, g2, div_succ (V % pB (i + k) + _), g1]
    omega
theorem mu_lt {x y i k V c : Nat} (h : MuI x y i k V c) (hi : i < nd x) : V + c * pB (i + k) < pB (i + 1 + nd y) := by
  rw [h.sum]
  have e := mod_succ x i
  have h1 : pB i * dgt x i * (y % pB k) ≤ pB i * dgt x i * y := Nat.mul_le_mul_left _ (Nat.mod_le ..)
  have h2 : x % pB i * y + pB i * dgt x i * y = x % pB (i + 1) * y := by rw [e, Nat.add_mul]
  have h3 := Nat.mod_lt x (pB_pos (i + 1))
  have h4 := nd_lt y
  rcases Nat.eq_zero_or_pos y with hy | hy
  · subst hy; simp at *; exact pB_pos _
  · have h5 : x % pB (i + 1) * y < pB (i + 1) * pB (nd y) := Nat.mul_lt_mul'' h3 h4
    rw [pB_add]; omega
/-- A digit is carried only so far. -/
theorem mu_carry {x y i k V c : Nat} (h : MuI x y i k V c) (hi : i < nd x) (hk : nd y < k) : c = 0 := by
  refine Decidable.byContradiction fun hc => ?_
  have h1 := mu_lt h hi
  have h2 := pB_le (show i + 1 + nd y ≤ i + k by omega)
  have h3 : 1 * pB (i + k) ≤ c * pB (i + k) := Nat.mul_le_mul_right _ (by omega)
  omega
theorem mu_done {x y i k V c : Nat} (h : MuI x y i k V c) (hk : nd y ≤ k) (hc : c = 0) : V = x % pB (i + 1) * y := by
  have h1 := h.sum
  rw [hc, Nat.zero_mul, Nat.add_zero, Nat.mod_eq_of_lt (Nat.lt_of_lt_of_le (nd_lt y) (pB_le hk))] at h1
  rw [h1, mod_succ, Nat.add_mul]
theorem mu_row {x y i k V c K : Nat} {v : Int} (hj : i + k < K) (hv : v = ((muS x y i k V c % 65536 : Nat) : Int)) : (dk V K).set (i + k) v = dk (muV x y i k V c) K := by
  rw [hv, dk_set_of hj (Nat.mod_lt _ (by decide))]; rfl
theorem mu_fin {x y K : Nat} (hK : K = nd x + nd y + 1) : x * y < pB K := by
  have := nd_mul x y
  exact nd_le.2 (by omega)
theorem mul_start {x y : Nat} : List.replicate (((((dg x).length : Int) + ((dg y).length : Int)) + (1 : Int))).toNat (0 : Int) = dk (x % pB 0 * y) (nd x + nd y + 1) := by
  rw [dg_len, dg_len, dk_rep, pB_zero, Nat.mod_one, Nat.zero_mul]; congr 1
theorem rm_iz (a b : Int) : iz (!(decide (a < 0) == decide (b < 0))) (a.natAbs * b.natAbs) = a * b := by
  by_cases h1 : a < 0 <;> by_cases h2 : b < 0
  · rw [decide_eq_true h1, decide_eq_true h2, ← Int.natAbs_mul]
    have := Int.mul_pos_of_neg_of_neg h1 h2
    show ((a * b).natAbs : Int) = a * b; omega
  · rw [decide_eq_true h1, decide_eq_false h2, ← Int.natAbs_mul]
    have := Int.mul_nonpos_of_nonpos_of_nonneg (Int.le_of_lt h1) (show 0 ≤ b by omega)
    show -((a * b).natAbs : Int) = a * b; omega
  · rw [decide_eq_false h1, decide_eq_true h2, ← Int.natAbs_mul]
    have := Int.mul_nonpos_of_nonneg_of_nonpos (show 0 ≤ a by omega) (Int.le_of_lt h2)
    show -((a * b).natAbs : Int) = a * b; omega
  · rw [decide_eq_false h1, decide_eq_false h2, ← Int.natAbs_mul]
    have := Int.mul_nonneg (show 0 ≤ a by omega) (show 0 ≤ b by omega)
    show ((a * b).natAbs : Int) = a * b; omega
end Go.Proofs.Ytbbakacfhajohaa.Av

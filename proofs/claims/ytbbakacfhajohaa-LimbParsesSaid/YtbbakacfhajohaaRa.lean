/- Plain mathematics: digits by 65536. -/
import Derived.Test.YtbbakacfhajohaaUa
import Derived.Test.YtbbakacfhajohaaAvN
namespace Go.Proofs.Ytbbakacfhajohaa.Av
set_option linter.unusedVariables false
def pB (i : Nat) : Nat := 65536 ^ i
theorem pB_zero : pB 0 = 1 := rfl
theorem pB_succ (i : Nat) : pB (i + 1) = pB i * 65536 := Nat.pow_succ ..
theorem pB_pos (i : Nat) : 0 < pB i := Nat.pow_pos (by decide)
theorem pB_add (i j : Nat) : pB (i + j) = pB i * pB j := Nat.pow_add ..
theorem pB_le {i j : Nat} (h : i ≤ j) : pB i ≤ pB j := Nat.pow_le_pow_right (by decide) h
theorem pB_lt {i j : Nat} (h : i < j) : pB i < pB j := Nat.pow_lt_pow_right (by decide) h
def dgt (n i : Nat) : Nat := n / pB i % 65536
theorem dgt_lt (n i : Nat) : dgt n i < 65536 := Nat.mod_lt _ (by decide)
theorem dgt_zero (n : Nat) : dgt n 0 = n % 65536 := by unfold dgt; rw [pB_zero, Nat.div_one]
theorem dgt_succ (n i : Nat) : dgt n (i + 1) = dgt (n / 65536) i := by unfold dgt; rw [pB_succ, Nat.mul_comm, Nat.div_div_eq_div_mul]
theorem dgt_big {n i : Nat} (h : n < pB i) : dgt n i = 0 := by unfold dgt; rw [Nat.div_eq_of_lt h]
theorem dgt_big' {n i k : Nat} (h : n < pB k) (hi : k ≤ i) : dgt n i = 0 := dgt_big (Nat.lt_of_lt_of_le h (pB_le hi))
/-- A number by its lowest digits and the rest. -/
theorem mod_succ (n i : Nat) : n % pB (i + 1) = n % pB i + pB i * dgt n i := by unfold dgt; rw [pB_succ, Nat.mod_mul]
theorem div_split (n i : Nat) : n = pB i * (n / pB i) + n % pB i := (Nat.div_add_mod n (pB i)).symm
theorem div_succ (n i : Nat) : n / pB (i + 1) = n / pB i / 65536 := by rw [pB_succ, Nat.div_div_eq_div_mul]
theorem div_dgt (n i : Nat) : n / pB i = n / pB (i + 1) * 65536 + dgt n i := by rw [div_succ]; unfold dgt; omega
def dk (n k : Nat) : List Int := (List.range k).map fun i => ((dgt n i : Nat) : Int)
theorem dk_len (n k : Nat) : (dk n k).length = k := by simp [dk]
theorem dk_get {n k i : Nat} (h : i < k) : (dk n k).getD i 0 = ((dgt n i : Nat) : Int) := by
  unfold dk
  rw [List.getD_eq_getElem?_getD, List.getElem?_map, List.getElem?_range h]; rfl
theorem dk_get' {n k i : Nat} (h : n < pB k) : (dk n k).getD i 0 = ((dgt n i : Nat) : Int) := by
  rcases Nat.lt_or_ge i k with hi | hi
  · exact dk_get hi
  · rw [dgt_big' h hi, List.getD_eq_getElem?_getD, List.getElem?_eq_none (by rw [dk_len]; exact hi)]; rfl
theorem dk_getI {n k : Nat} {i : Int} (h0 : 0 ≤ i) (h : i < (k : Int)) : (dk n k).getD i.toNat 0 = ((dgt n i.toNat : Nat) : Int) := dk_get (by omega)
theorem dk_zero (n : Nat) : dk n 0 = [] := rfl
theorem dk_snoc (n k : Nat) : dk n k ++ [((dgt n k : Nat) : Int)] = dk n (k + 1) := by simp [dk, List.range_succ]
theorem dk_take {n k j : Nat} (h : j ≤ k) : (dk n k).take j = dk n j := by
  unfold dk; rw [← List.map_take, List.take_range, Nat.min_eq_left h]
theorem dk_congr {n m k : Nat} (h : ∀ i, i < k → dgt n i = dgt m i) : dk n k = dk m k := by
  unfold dk; exact List.map_congr_left fun i hi => by rw [h i (List.mem_range.1 hi)]
theorem dgt_mod {n i k : Nat} (h : i < k) : dgt (n % pB k) i = dgt n i := by
  have e : pB k = pB i * pB (k - i) := by rw [← pB_add]; congr 1; omega
  have e2 : pB (k - i) = 65536 * pB (k - i - 1) := by rw [Nat.mul_comm, ← pB_succ]; congr 1; omega
  unfold dgt
  rw [e, Nat.mod_mul_right_div_self, e2, Nat.mod_mul_right_mod]
theorem dk_mod (n k : Nat) : dk (n % pB k) k = dk n k := dk_congr fun i hi => dgt_mod hi
theorem mod_of_dgt {x y : Nat} : ∀ k, (∀ i, i < k → dgt x i = dgt y i) → x % pB k = y % pB k
  | 0, _ => by simp [pB_zero, Nat.mod_one]
  | k + 1, h => by rw [mod_succ, mod_succ, mod_of_dgt k (fun i hi => h i (by omega)), h k (by omega)]
/-- Digits of m + w B^i, m below B^i. -/
theorem dgt_low {m w i j : Nat} (hj : j < i) : dgt (m + w * pB i) j = dgt m j := by
  have : (m + w * pB i) % pB i = m % pB i := by rw [Nat.add_mul_mod_self_right]
  rw [← dgt_mod (n := m + w * pB i) hj, this, dgt_mod hj]
theorem dgt_high {m w i j : Nat} (hm : m < pB i) : dgt (m + w * pB i) (i + j) = dgt w j := by
  unfold dgt
  rw [pB_add, ← Nat.div_div_eq_div_mul, Nat.add_mul_div_right _ _ (pB_pos i), Nat.div_eq_of_lt hm, Nat.zero_add]
/-- One digit set: v = lo + B^i (d + B hi). -/
theorem dk_set {lo d w hi i k : Nat} (hk : i < k) (hlo : lo < pB i) (hd : d < 65536) (hw : w < 65536) :
    (dk (lo + (d + hi * 65536) * pB i) k).set i ((w : Nat) : Int) = dk (lo + (w + hi * 65536) * pB i) k := by
  refine List.ext_getElem? (fun j => ?_)
  unfold dk
  rw [List.getElem?_set, List.length_map, List.length_range]
  by_cases hij : i = j
  · subst hij
    rw [if_pos rfl, if_pos hk, List.getElem?_map, List.getElem?_range hk, Option.map_some]
    have := dgt_high (w := w + hi * 65536) (j := 0) hlo
    rw [Nat.add_zero] at this
    rw [this, dgt_zero]
    congr 2; omega
  · rw [if_neg hij]
    rcases Nat.lt_or_ge j k with hj | hj
    · rw [List.getElem?_map, List.getElem?_map, List.getElem?_range hj, Option.map_some, Option.map_some]
      rcases Nat.lt_or_ge j i with h | h
      · rw [dgt_low h, dgt_low h]
      · obtain ⟨q, rfl⟩ : ∃ q, j = i + (q + 1) := ⟨j - i - 1, by omega⟩
        rw [dgt_high hlo, dgt_high hlo, dgt_succ, dgt_succ]
        rw [show (d + hi * 65536) / 65536 = hi by omega, show (w + hi * 65536) / 65536 = hi by omega]
    · rw [List.getElem?_eq_none (by simpa using hj), List.getElem?_eq_none (by simpa using hj)]
/-- The same, said of any number. -/
theorem dk_set_of {v i k w : Nat} (hk : i < k) (hw : w < 65536) : (dk v k).set i ((w : Nat) : Int) = dk (v % pB i + (w + v / pB (i + 1) * 65536) * pB i) k := by
  have e : v = v % pB i + (dgt v i + v / pB (i + 1) * 65536) * pB i := by
    have h1 := div_split v i
    have h2 := div_dgt v i
    rw [Nat.add_comm (dgt v i), ← h2, Nat.mul_comm]
    omega
  have := dk_set (k := k) hk (Nat.mod_lt v (pB_pos i)) (dgt_lt v i) (hi := v / pB (i + 1)) hw
  rw [← e] at this
  exact this
/-- How many digits. -/
def nd (n : Nat) : Nat := if n = 0 then 0 else nd (n / 65536) + 1
termination_by n
decreasing_by omega
theorem nd_zero : nd 0 = 0 := by rw [nd]; rfl
theorem nd_succ {n : Nat} (h : n ≠ 0) : nd n = nd (n / 65536) + 1 := by rw [nd, if_neg h]
theorem nd_lt (n : Nat) : n < pB (nd n) := by
  induction n using Nat.strongRecOn with
  | ind n ih =>
    by_cases h : n = 0
    · subst h; rw [nd_zero]; decide
    · rw [nd_succ h, pB_succ]
      have := ih (n / 65536) (by omega)
      omega
theorem nd_ge {n : Nat} (h : n ≠ 0) : pB (nd n - 1) ≤ n := by
  induction n using Nat.strongRecOn with
  | ind n ih =>
    rw [nd_succ h, Nat.add_sub_cancel]
    by_cases h0 : n / 65536 = 0
    · rw [h0, nd_zero, pB_zero]; omega
    · have h1 := ih (n / 65536) (by omega) h0
      have h2 : nd (n / 65536) = nd (n / 65536) - 1 + 1 := by rw [nd_succ h0]; rfl
      rw [h2, pB_succ]
      omega
theorem nd_le {n k : Nat} : n < pB k ↔ nd n ≤ k := by
  constructor
  · intro h
    refine Decidable.byContradiction fun hn => ?_
    have h0 : n ≠ 0 := by intro e; subst e; rw [nd_zero] at hn; omega
    have h1 := nd_ge h0
    have h2 := pB_le (i := k) (j := nd n - 1) (by omega)
    omega
  · intro h; exact Nat.lt_of_lt_of_le (nd_lt n) (pB_le h)
theorem nd_eq {n k : Nat} (h1 : n < pB k) (h2 : k = 0 ∨ pB (k - 1) ≤ n) : nd n = k := by
  have h3 := nd_le.1 h1
  rcases h2 with h2 | h2
  · omega
  · refine Decidable.byContradiction fun hn => ?_
    have := nd_le.2 (show nd n ≤ k - 1 by omega)
    omega
theorem nd_pos {n : Nat} : 0 < nd n ↔ n ≠ 0 := by
  constructor
  · intro h e; subst e; rw [nd_zero] at h; omega
  · intro h; rw [nd_succ h]; omega
theorem nd_top {n : Nat} (h : 0 < nd n) : dgt n (nd n - 1) ≠ 0 := by
  have h0 := nd_pos.1 h
  have h1 := nd_ge h0
  have h2 := nd_lt n
  rw [show nd n = nd n - 1 + 1 by omega, pB_succ] at h2
  unfold dgt
  have h3 : n / pB (nd n - 1) < 65536 := (Nat.div_lt_iff_lt_mul (pB_pos _)).2 (by rw [Nat.mul_comm]; exact h2)
  have h4 : 0 < n / pB (nd n - 1) := Nat.div_pos h1 (pB_pos _)
  omega
theorem nd_mono {n m : Nat} (h : n ≤ m) : nd n ≤ nd m := nd_le.1 (Nat.lt_of_le_of_lt h (nd_lt m))
def dg (n : Nat) : List Int := dk n (nd n)
theorem dg_len (n : Nat) : (dg n).length = nd n := dk_len ..
theorem dg_zero : dg 0 = [] := by unfold dg; rw [nd_zero]; rfl
theorem dg_get (n i : Nat) : (dg n).getD i 0 = ((dgt n i : Nat) : Int) := dk_get' (nd_lt n)
/-- A number of the reference's. -/
def dS (z : Int) : List Seg := [.one (.v (.bool (decide (z < 0)))), .one (.rs .i64 (dg z.natAbs))]
theorem top_pB {k j : Nat} (h : k = 32) (hj : j = 8 := by rfl) : top = pB k := by
  rw [top_k hj]; unfold pB
  rw [show (65536 : Nat) = 2 ^ 16 by rfl, ← Nat.pow_mul, show 16 * k = 64 * j by omega]
/-! ### trim -/
theorem tr_bool {neg : Bool} {x : Nat} {z : Int} (hz : iz neg x = z) : (bif neg then decide (((nd x : Nat) : Int) > (0 : Int)) else false) = decide (z < 0) := by
  have h := @nd_pos x
  subst hz
  unfold iz
  cases neg
  · simp
  · simp only [cond_true, decide_eq_decide]; omega
theorem tr_bool' {neg : Bool} {x : Nat} {z : Int} {b : Bool} (c : neg = b) (hz : iz neg x = z) : (bif neg then decide (((nd x : Nat) : Int) > (0 : Int)) else false) = decide (z < 0) := tr_bool hz
theorem tr_len {neg : Bool} {x : Nat} {z : Int} (hz : iz neg x = z) : z.natAbs = x := by rw [← hz, iz_abs]
theorem tr_num {neg : Bool} {x : Nat} {z : Int} (hz : iz neg x = z) : [Seg.one (.v (.bool (decide (z < 0)))), Seg.one (.rs .i64 (dk x (nd x)))] = dS z := by unfold dS; rw [tr_len hz]; rfl
theorem tr_false {neg : Bool} {x : Nat} {z : Int} (c : neg = false) (hz : iz neg x = z) : decide (z < 0) = false := by subst hz; rw [c]; refine decide_eq_false ?_; show ¬ ((x : Int) < 0); omega
theorem tr_step {x k n : Nat} (hn : n + 1 ≤ k) (hx : x < pB (n + 1)) (h : ((dk x k).getD ((((n + 1 : Nat) : Int)) - 1).toNat 0 == (0 : Int)) = true) : x < pB n := by
  rw [show ((((n + 1 : Nat) : Int)) - 1).toNat = n by omega, dk_get (by omega)] at h
  have h : dgt x n = 0 := by have := eq_of_beq h; omega
  have h1 := mod_succ x n
  rw [h, Nat.mod_eq_of_lt hx] at h1
  have := Nat.mod_lt x (pB_pos n)
  omega
theorem tr_end {x k n : Nat} (hn : n + 1 ≤ k) (hx : x < pB (n + 1)) (h : ((dk x k).getD ((((n + 1 : Nat) : Int)) - 1).toNat 0 == (0 : Int)) = false) : n + 1 = nd x := by
  rw [show ((((n + 1 : Nat) : Int)) - 1).toNat = n by omega, dk_get (by omega)] at h
  refine (nd_eq hx (.inr ?_)).symm
  refine Decidable.byContradiction fun hlt => ?_
  rw [Nat.add_sub_cancel] at hlt
  rw [dgt_big (by omega)] at h
  simp at h
/-! ### plus -/
def pc (x y i : Nat) : Nat := (x % pB i + y % pB i) / pB i
theorem pc_zero (x y : Nat) : pc x y 0 = 0 := by simp [pc, pB_zero, Nat.mod_one]
theorem pc_le (x y i : Nat) : pc x y i ≤ 1 := by
  unfold pc
  have h1 := Nat.mod_lt x (pB_pos i)
  have h2 := Nat.mod_lt y (pB_pos i)
  have : (x % pB i + y % pB i) / pB i < 2 := (Nat.div_lt_iff_lt_mul (pB_pos i)).2 (by omega)
  omega
theorem pc_next (x y i : Nat) : (dgt x i + dgt y i + pc x y i) / 65536 = pc x y (i + 1) := by
  unfold pc
  rw [mod_succ, mod_succ, pB_succ, ← Nat.div_div_eq_div_mul]
  rw [show x % pB i + pB i * dgt x i + (y % pB i + pB i * dgt y i) = (x % pB i + y % pB i) + pB i * (dgt x i + dgt y i) by rw [Nat.mul_add]; omega, Nat.add_mul_div_left _ _ (pB_pos i), Nat.add_comm (dgt x i + dgt y i)]
theorem pc_dgt (x y i : Nat) : (dgt x i + dgt y i + pc x y i) % 65536 = dgt (x + y) i := by
  have e : (x + y) / pB i = x / pB i + y / pB i + pc x y i := by
    unfold pc
    have hx := div_split x i
    have hy := div_split y i
    have : x + y = (x % pB i + y % pB i) + pB i * (x / pB i + y / pB i) := by rw [Nat.mul_add]; omega
    rw [this, Nat.add_mul_div_left _ _ (pB_pos i), Nat.add_comm]
  have hd : ∀ n, dgt n i = n / pB i % 65536 := fun _ => rfl
  rw [hd (x + y), e, hd x, hd y]
  omega
theorem plus_app (x y i : Nat) : dk (x + y) i ++ [(((dgt x i : Nat) : Int) + ((dgt y i : Nat) : Int) + ((pc x y i : Nat) : Int)) % (65536 : Int)] = dk (x + y) (i + 1) := by
  rw [← dk_snoc, ← pc_dgt]; congr 2
theorem rplus_c (x y i : Nat) : (((dgt x i : Nat) : Int) + ((dgt y i : Nat) : Int) + ((pc x y i : Nat) : Int)) / (65536 : Int) = ((pc x y (i + 1) : Nat) : Int) := by
  rw [← pc_next]; omega
/-- How many digits 'plus' makes. -/
def pl (k l s : Nat) : Nat := if s < pB (max k l) then max k l else max k l + 1
theorem pl_le (k l s : Nat) : pl k l s ≤ max k l + 1 := by unfold pl; split <;> omega
theorem pl_ge (k l s : Nat) : max k l ≤ pl k l s := by unfold pl; split <;> omega
theorem pl_lt {x y k l : Nat} (hx : x < pB k) (hy : y < pB l) : x + y < pB (pl k l (x + y)) := by
  have h1 := pB_le (show k ≤ max k l by omega)
  have h2 := pB_le (show l ≤ max k l by omega)
  unfold pl
  split
  · assumption
  · rw [pB_succ]; omega
theorem pl_go {x y k l i : Nat} (hx : x < pB k) (hy : y < pB l) (hi : i < pl k l (x + y)) (h1 : ¬ i < k) (h2 : ¬ i < l) : 0 < pc x y i := by
  have e := pl_le k l (x + y)
  unfold pl at hi
  split at hi
  · omega
  · rename_i hs
    obtain rfl : i = max k l := by omega
    have g1 := Nat.lt_of_lt_of_le hx (pB_le (show k ≤ max k l by omega))
    have g2 := Nat.lt_of_lt_of_le hy (pB_le (show l ≤ max k l by omega))
    unfold pc
    rw [Nat.mod_eq_of_lt g1, Nat.mod_eq_of_lt g2]
    exact Nat.div_pos (by omega) (pB_pos _)
theorem pl_stop {x y k l : Nat} (hx : x < pB k) (hy : y < pB l) : pc x y (pl k l (x + y)) = 0 := by
  have h := pl_lt hx hy
  have g1 := Nat.lt_of_lt_of_le hx (pB_le (Nat.le_trans (show k ≤ max k l by omega) (pl_ge k l (x + y))))
  have g2 := Nat.lt_of_lt_of_le hy (pB_le (Nat.le_trans (show l ≤ max k l by omega) (pl_ge k l (x + y))))
  unfold pc
  rw [Nat.mod_eq_of_lt g1, Nat.mod_eq_of_lt g2, Nat.div_eq_of_lt h]
theorem pl_dg (x y : Nat) : pl (nd x) (nd y) (x + y) = nd (x + y) := by
  refine (nd_eq (pl_lt (nd_lt x) (nd_lt y)) ?_).symm
  have hm : max (nd x) (nd y) ≤ nd (x + y) := Nat.max_le.2 ⟨nd_mono (by omega), nd_mono (by omega)⟩
  unfold pl
  split
  · rcases Nat.eq_zero_or_pos (max (nd x) (nd y)) with h | h
    · exact .inl h
    · right
      have h0 : x + y ≠ 0 := nd_pos.1 (by omega)
      exact Nat.le_trans (pB_le (by omega)) (nd_ge h0)
  · right
    rw [Nat.add_sub_cancel]; omega
/-! ### minus, Order -/
theorem minus_app {d i : Nat} {w : Int} (h : w = ((dgt d i : Nat) : Int)) : dk d i ++ [w] = dk d (i + 1) := by rw [h, dk_snoc]
theorem minus_facts {x y : Nat} (h : y ≤ x) (i : Nat) : dgt x i = (dgt y i + dgt (x - y) i + pc y (x - y) i) % 65536 ∧ pc y (x - y) (i + 1) = (dgt y i + dgt (x - y) i + pc y (x - y) i) / 65536 := by
  have h1 := pc_dgt y (x - y) i
  rw [show y + (x - y) = x by omega] at h1
  exact ⟨h1.symm, (pc_next y (x - y) i).symm⟩
theorem ord_len {x y : Nat} (h : nd x < nd y) : x < y := Decidable.byContradiction fun hn => by have := nd_mono (show y ≤ x by omega); omega
theorem ord_start {x y : Nat} (h : nd x = nd y) : x / pB (nd x) = y / pB (nd x) := by
  rw [Nat.div_eq_of_lt (nd_lt x), h, Nat.div_eq_of_lt (nd_lt y)]
theorem ord_same {x y m : Nat} (h : x / pB (m + 1) = y / pB (m + 1)) (h2 : dgt x m = dgt y m) : x / pB m = y / pB m := by
  rw [div_dgt x m, div_dgt y m, h, h2]
theorem ord_less {x y m : Nat} (h : x / pB (m + 1) = y / pB (m + 1)) (h2 : dgt x m < dgt y m) : x < y := by
  have h3 : x / pB m < y / pB m := by rw [div_dgt x m, div_dgt y m, h]; omega
  exact Decidable.byContradiction fun hn => by have := Nat.div_le_div_right (c := pB m) (show y ≤ x by omega); omega
theorem ord_zero {x y : Nat} (h : x / pB 0 = y / pB 0) : x = y := by simpa [pB_zero] using h
theorem sg_lt' {a b : Int} (h : a < b) : sg a b = -1 := by unfold sg; rw [if_pos h]
theorem sg_gt' {a b : Int} (h : b < a) : sg a b = 1 := by unfold sg; rw [if_neg (by omega), if_pos h]
theorem ordl_lt {x y : Nat} (h : decide (((dg x).length : Int) < ((dg y).length : Int)) = true) : (x : Int) < (y : Int) := by
  have h := of_decide_eq_true h
  rw [dg_len, dg_len] at h
  have := ord_len (x := x) (y := y) (by omega)
  omega
theorem ordl_gt {x y : Nat} (h : (((dg x).length : Int) != ((dg y).length : Int)) = true) (h2 : decide (((dg x).length : Int) < ((dg y).length : Int)) = false) : (y : Int) < (x : Int) := by
  have h := bne_iff_ne.1 h
  have h2 := of_decide_eq_false h2
  rw [dg_len, dg_len] at h h2
  have := ord_len (x := y) (y := x) (by omega)
  omega
theorem ordl_eq {x y : Nat} (h : (((dg x).length : Int) != ((dg y).length : Int)) = false) : nd x = nd y := by
  have h : ((dg x).length : Int) = ((dg y).length : Int) := by simpa using h
  rw [dg_len, dg_len] at h; omega
theorem nat_i {x : Nat} {z : Int} (h : z.natAbs = x) (h0 : ¬ z < 0) : z = (x : Int) := by omega
/-! ### Cmp, Add -/
theorem rc1 {a b : Int} (c0 : (decide (a < 0) == decide (b < 0)) = false) (c1 : decide (a < 0) = true) : sg a b = -1 := by
  have h1 := of_decide_eq_true c1
  rw [c1] at c0
  have h2 : ¬ b < 0 := fun h => by rw [decide_eq_true h] at c0; cases c0
  exact sg_lt' (by omega)
theorem rc2 {a b : Int} (c0 : (decide (a < 0) == decide (b < 0)) = false) (c1 : decide (a < 0) = false) : sg a b = 1 := by
  have h1 := of_decide_eq_false c1
  rw [c1] at c0
  have h2 : b < 0 := Decidable.byContradiction fun h => by rw [decide_eq_false h] at c0; cases c0
  exact sg_gt' (by omega)
theorem rc3 {a b : Int} (c0 : (decide (a < 0) == decide (b < 0)) = true) (c1 : decide (a < 0) = true) : sg (b.natAbs : Int) (a.natAbs : Int) = sg a b := by
  have h1 := of_decide_eq_true c1
  rw [c1] at c0
  have h2 : b < 0 := Decidable.byContradiction fun h => by rw [decide_eq_false h] at c0; cases c0
  unfold sg
  split <;> split <;> (try split) <;> (try split) <;> omega
theorem rc4 {a b : Int} (c0 : (decide (a < 0) == decide (b < 0)) = true) (c1 : decide (a < 0) = false) : sg (a.natAbs : Int) (b.natAbs : Int) = sg a b := by
  have h1 := of_decide_eq_false c1
  rw [c1] at c0
  have h2 : ¬ b < 0 := fun h => by rw [decide_eq_true h] at c0; cases c0
  unfold sg
  split <;> split <;> (try split) <;> (try split) <;> omega
theorem izd {a : Int} {x : Nat} : iz (decide (a < 0)) x = if a < 0 then -(x : Int) else x := by
  unfold iz; by_cases h : a < 0 <;> simp [h]
theorem ra0 {a b : Int} (c0 : (decide (a < 0) == decide (b < 0)) = true) : (a < 0 ↔ b < 0) := by have := eq_of_beq c0; simpa using this
theorem ra0' {a b : Int} (c0 : (decide (a < 0) == decide (b < 0)) = false) : ¬ (a < 0 ↔ b < 0) := fun h => by
  have : decide (a < 0) = decide (b < 0) := by simpa using h
  rw [this, beq_self_eq_true] at c0; cases c0
theorem ra1 {a b : Int} (c0 : (decide (a < 0) == decide (b < 0)) = true) : iz (decide (a < 0)) (a.natAbs + b.natAbs) = a + b := by
  have := ra0 c0
  rw [izd]; split <;> omega
theorem ra2 {a b : Int} (c0 : (decide (a < 0) == decide (b < 0)) = false) (h : decide (sg (a.natAbs : Int) (b.natAbs : Int) ≥ (0 : Int)) = true) : iz (decide (a < 0)) (a.natAbs - b.natAbs) = a + b := by
  have := ra0' c0
  have := (sg_ge _ _).1 (of_decide_eq_true h)
  rw [izd]; split <;> omega
theorem ra3 {a b : Int} (c0 : (decide (a < 0) == decide (b < 0)) = false) (h : decide (sg (a.natAbs : Int) (b.natAbs : Int) ≥ (0 : Int)) = false) : iz (decide (b < 0)) (b.natAbs - a.natAbs) = a + b := by
  have := ra0' c0
  have := mt (sg_ge _ _).2 (of_decide_eq_false h)
  rw [izd]; split <;> omega
theorem ra_le {a b : Int} (h : decide (sg (a.natAbs : Int) (b.natAbs : Int) ≥ (0 : Int)) = true) : b.natAbs ≤ a.natAbs := by
  have := (sg_ge _ _).1 (of_decide_eq_true h); omega
theorem ra_ge {a b : Int} (h : decide (sg (a.natAbs : Int) (b.natAbs : Int) ≥ (0 : Int)) = false) : a.natAbs ≤ b.natAbs := by
  have := mt (sg_ge _ _).2 (of_decide_eq_false h); omega
/-! ### How many digits results have -/
theorem nd_add (x y : Nat) : nd (x + y) ≤ max (nd x) (nd y) + 1 := by rw [← pl_dg]; exact pl_le ..
theorem nd_mul (x y : Nat) : nd (x * y) ≤ nd x + nd y := by
  refine nd_le.1 ?_
  rw [pB_add]
  rcases Nat.eq_zero_or_pos (x * y) with h | h
  · rw [h]; exact Nat.mul_pos (pB_pos _) (pB_pos _)
  · exact Nat.mul_lt_mul'' (nd_lt x) (nd_lt y)
theorem ndi_add (a b : Int) : nd (a + b).natAbs ≤ max (nd a.natAbs) (nd b.natAbs) + 1 := Nat.le_trans (nd_mono (show (a + b).natAbs ≤ a.natAbs + b.natAbs by omega)) (nd_add ..)
theorem ndi_neg (a : Int) : nd (-a).natAbs = nd a.natAbs := by rw [Int.natAbs_neg]
theorem ndi_sub (a b : Int) : nd (a - b).natAbs ≤ max (nd a.natAbs) (nd b.natAbs) + 1 := Nat.le_trans (nd_mono (show (a - b).natAbs ≤ a.natAbs + b.natAbs by omega)) (nd_add ..)
theorem ndi_mul (a b : Int) : nd (a * b).natAbs ≤ nd a.natAbs + nd b.natAbs := by rw [Int.natAbs_mul]; exact nd_mul ..
theorem ndi_tdiv (a b : Int) : nd (a.tdiv b).natAbs ≤ nd a.natAbs := nd_mono (by rw [Int.natAbs_tdiv]; exact Nat.div_le_self ..)
theorem ndi_tmod (a b : Int) : nd (a.tmod b).natAbs ≤ nd a.natAbs := nd_mono (by rw [Int.natAbs_tmod]; exact Nat.mod_le ..)
theorem nd_of_top {x : Nat} (h : x < top) : nd x ≤ 32 := nd_le.1 (by rw [← top_pB rfl]; exact h)
theorem top_of_nd {x : Nat} (h : nd x ≤ 32) : x < top := by rw [top_pB rfl]; exact nd_le.2 h
end Go.Proofs.Ytbbakacfhajohaa.Av

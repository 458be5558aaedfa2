/- Plain mathematics: signs, order, differences. -/
import Derived.Test.YtbbakacfhajohaaMaA
namespace Go.Proofs.Ytbbakacfhajohaa.Av

def iz (n : Bool) (x : Nat) : Int := bif n then -(x : Int) else x
theorem iz_can (z : Int) : iz (decide (z < 0)) z.natAbs = z := by
  unfold iz
  by_cases h : z < 0
  · simp only [h, decide_true, cond_true]; omega
  · simp only [h, decide_false, cond_false]; omega
theorem iz_abs (n : Bool) (x : Nat) : (iz n x).natAbs = x := by
  unfold iz; cases n <;> simp
theorem iz_neg (n : Bool) (x : Nat) : decide (iz n x < 0) = (n && decide (x ≠ 0)) := by
  unfold iz
  cases n
  · simp
  · simp only [cond_true, Bool.true_and]
    congr 1
    apply propext
    omega
theorem made_t {n : Bool} {x : Nat} {z : Int} (hx : x < top) (hz : iz n x = z) : (bif n then (!((ofN x) == z8)) else false) = decide (z < 0) := by
  subst hz
  rw [iz_neg, ofN_beq_z8 hx]
  cases n <;> simp
theorem made_f {n : Bool} {x : Nat} {z : Int} (hn : n = false) (hz : iz n x = z) : false = decide (z < 0) := by
  subst hz; rw [iz_neg, hn]; rfl
theorem made_x {n : Bool} {x : Nat} {z : Int} (hz : iz n x = z) : x = z.natAbs := by
  subst hz; rw [iz_abs]
/-- The sign of a difference. -/
def sg (a b : Int) : Int := if a < b then -1 else if b < a then 1 else 0
theorem sg_ge (a b : Int) : sg a b ≥ 0 ↔ b ≤ a := by unfold sg; split <;> (try split) <;> omega
theorem sg_le (a b : Int) : sg a b ≤ 0 ↔ a ≤ b := by unfold sg; split <;> (try split) <;> omega
theorem sg_lt (a b : Int) : sg a b < 0 ↔ a < b := by unfold sg; split <;> (try split) <;> omega
theorem sg_gt (a b : Int) : sg a b > 0 ↔ b < a := by unfold sg; split <;> (try split) <;> omega
theorem sg_eq (a b : Int) : sg a b = 0 ↔ a = b := by unfold sg; split <;> (try split) <;> omega
theorem sg_self (a : Int) : sg a a = 0 := (sg_eq a a).2 rfl
theorem sg_neg (a b : Int) : sg (-b) (-a) = sg a b := by unfold sg; split <;> split <;> (try split) <;> (try split) <;> omega

/-! ### Order, from the highest word down -/
theorem div_step (x k : Nat) : x / 2 ^ (64 * k) = x / 2 ^ (64 * (k + 1)) * 18446744073709551616 + wd x k := by
  unfold wd
  rw [pow64, ← Nat.div_div_eq_div_mul]
  have := Nat.div_add_mod (x / 2 ^ (64 * k)) 18446744073709551616
  show x / 2 ^ (64 * k) = x / 2 ^ (64 * k) / 18446744073709551616 * 18446744073709551616 + x / 2 ^ (64 * k) % 18446744073709551616
  omega
theorem lt_of_div {x y k : Nat} (h : x / 2 ^ (64 * k) < y / 2 ^ (64 * k)) : x < y := by
  rcases Nat.lt_or_ge x y with h1 | h1
  · exact h1
  · have := Nat.div_le_div_right (c := 2 ^ (64 * k)) h1; omega
theorem ord_lt {x y k : Nat} (he : x / 2 ^ (64 * (k + 1)) = y / 2 ^ (64 * (k + 1))) (h : wd x k < wd y k) : x < y := by
  apply lt_of_div (k := k)
  rw [div_step x k, div_step y k, he]; omega
theorem ord_eq {x y k : Nat} (he : x / 2 ^ (64 * (k + 1)) = y / 2 ^ (64 * (k + 1))) (h : wd x k = wd y k) : x / 2 ^ (64 * k) = y / 2 ^ (64 * k) := by
  rw [div_step x k, div_step y k, he, h]
theorem div_top {x k : Nat} (hx : x < top) (hk : k = 8) : x / 2 ^ (64 * k) = 0 := by
  rw [top_k hk] at hx; exact Nat.div_eq_of_lt hx
theorem div_zero_eq {x y : Nat} (h : x / 2 ^ (64 * 0) = y / 2 ^ (64 * 0)) : x = y := by simpa using h

/-! ### The difference, word by word -/
def subI (x y k : Nat) : Int := ((x % 2 ^ (64 * k) : Nat) : Int) - ((y % 2 ^ (64 * k) : Nat) : Int)
def subC (x y k : Nat) : Int := if subI x y k < 0 then 1 else 0
def subS (x y k : Nat) : Nat := (subI x y k % ((2 ^ (64 * k) : Nat) : Int)).toNat
theorem subC_le (x y k : Nat) : 0 ≤ subC x y k ∧ subC x y k ≤ 1 := by unfold subC; split <;> omega
theorem subS_val (x y k : Nat) : ((subS x y k : Nat) : Int) = subI x y k + ((2 ^ (64 * k) : Nat) : Int) * subC x y k ∧ subS x y k < 2 ^ (64 * k) := by
  have hp := pow64_pos k
  have h1 := Nat.mod_lt x hp
  have h2 := Nat.mod_lt y hp
  unfold subS subC
  have b1 : -((2 ^ (64 * k) : Nat) : Int) < subI x y k := by unfold subI; omega
  have b2 : subI x y k < ((2 ^ (64 * k) : Nat) : Int) := by unfold subI; omega
  generalize subI x y k = d at *
  generalize 2 ^ (64 * k) = p at *
  have h0 := Int.emod_nonneg d (show (p : Int) ≠ 0 by omega)
  have h3 := Int.emod_lt_of_pos d (show (0 : Int) < p by omega)
  split
  · have : d % (p : Int) = d + p := by
      rw [← Int.add_emod_right, Int.emod_eq_of_lt (by omega) (by omega)]
    omega
  · have : d % (p : Int) = d := Int.emod_eq_of_lt (by omega) b2
    omega
theorem subI_next (x y k : Nat) : subI x y (k + 1) = (subS x y k : Int) + ((2 ^ (64 * k) : Nat) : Int) * ((wd x k : Int) - (wd y k : Int) - subC x y k) := by
  have h := (subS_val x y k).1
  have hx := mod_next x k
  have hy := mod_next y k
  unfold subI at h ⊢
  rw [hx, hy]
  simp only [Int.natCast_add, Int.natCast_mul]
  rw [Int.mul_sub, Int.mul_sub]
  omega
theorem emod_step {s p t : Int} (h0 : 0 ≤ s) (h1 : s < p) : (s + p * t) % (p * 18446744073709551616) = s + p * (t % 18446744073709551616) := by
  have hd := Int.mul_ediv_add_emod t 18446744073709551616
  have hr0 := Int.emod_nonneg t (show (18446744073709551616 : Int) ≠ 0 by decide)
  have hr1 := Int.emod_lt_of_pos t (show (0 : Int) < 18446744073709551616 by decide)
  generalize t % 18446744073709551616 = r at *
  generalize t / 18446744073709551616 = q at *
  subst hd
  have e : s + p * (18446744073709551616 * q + r) = (s + p * r) + (p * 18446744073709551616) * q := by
    rw [Int.mul_add, ← Int.mul_assoc]; omega
  have hb : p * r ≤ p * 18446744073709551615 := Int.mul_le_mul_of_nonneg_left (by omega) (by omega)
  have hc : 0 ≤ p * r := Int.mul_nonneg (by omega) hr0
  rw [e, Int.add_mul_emod_self_left, Int.emod_eq_of_lt (by omega) (by omega)]
theorem subS_next (x y k : Nat) : subS x y (k + 1) = subS x y k + (((wd x k : Int) - (wd y k : Int) - subC x y k) % 18446744073709551616).toNat * 2 ^ (64 * k) := by
  have hl := (subS_val x y k).2
  have hr0 := Int.emod_nonneg ((wd x k : Int) - (wd y k : Int) - subC x y k) (show (18446744073709551616 : Int) ≠ 0 by decide)
  conv => lhs; unfold subS
  rw [subI_next, pow64, Int.natCast_mul, show ((18446744073709551616 : Nat) : Int) = 18446744073709551616 from rfl, emod_step (by omega) (by omega)]
  generalize ((wd x k : Int) - (wd y k : Int) - subC x y k) % 18446744073709551616 = r at *
  obtain ⟨r, rfl⟩ := Int.eq_ofNat_of_zero_le hr0
  rw [← Int.natCast_mul, ← Int.natCast_add, Int.toNat_natCast, Int.toNat_natCast, Nat.mul_comm]
theorem subC_next (x y k : Nat) : subC x y (k + 1) = if (wd x k : Int) < (wd y k : Int) + subC x y k then 1 else 0 := by
  have hl := (subS_val x y k).2
  have hp := pow64_pos k
  conv => lhs; unfold subC
  rw [subI_next]
  generalize subS x y k = s at *
  generalize 2 ^ (64 * k) = p at *
  have key : (s : Int) + (p : Int) * ((wd x k : Int) - (wd y k : Int) - subC x y k) < 0 ↔ (wd x k : Int) < (wd y k : Int) + subC x y k := by
    generalize hd : (wd x k : Int) - (wd y k : Int) - subC x y k = d
    have h2 : d < 0 ↔ (wd x k : Int) < (wd y k : Int) + subC x y k := by omega
    rw [← h2]
    constructor
    · intro h
      rcases Int.lt_or_le d 0 with h3 | h3
      · exact h3
      · have := Int.mul_nonneg (show (0 : Int) ≤ p by omega) h3; omega
    · intro h
      have : (p : Int) * d ≤ (p : Int) * (-1) := Int.mul_le_mul_of_nonneg_left (by omega) (by omega)
      omega
  by_cases hk : (wd x k : Int) < (wd y k : Int) + subC x y k
  · rw [if_pos hk, if_pos (key.2 hk)]
  · rw [if_neg hk, if_neg (fun h => hk (key.1 h))]
theorem subS_zero (x y : Nat) : subS x y 0 = 0 := by simp [subS, subI, Nat.mod_one]
theorem subC_zero (x y : Nat) : subC x y 0 = 0 := by simp [subC, subI, Nat.mod_one]
theorem minus_c {x y k : Nat} (hk : k < 8) : (if (ofN x).getD (k : Int).toNat 0 < (ofN y).getD (k : Int).toNat 0 + subC x y k then 1 else 0) = subC x y (k + 1) := by
  rw [Int.toNat_natCast, get_ofW hk, get_ofW hk, subC_next]
theorem minus_s {x y k : Nat} (hk : k < 8) : (ofN (subS x y k)).set (k : Int).toNat (((ofN x).getD (k : Int).toNat 0 - (ofN y).getD (k : Int).toNat 0 - subC x y k) % 18446744073709551616) = ofN (subS x y (k + 1)) := by
  rw [Int.toNat_natCast, get_ofW hk, get_ofW hk, subS_next]
  have hr0 := Int.emod_nonneg ((wd x k : Int) - (wd y k : Int) - subC x y k) (show (18446744073709551616 : Int) ≠ 0 by decide)
  have hr1 := Int.emod_lt_of_pos ((wd x k : Int) - (wd y k : Int) - subC x y k) (show (0 : Int) < 18446744073709551616 by decide)
  refine Eq.trans ?_ (set_ofW (k := 8) hk (subS_val x y k).2 (by omega))
  congr 1
  omega
theorem subS_end {x y k : Nat} (hk : k = 8) (hx : x < top) (hy : y < top) (h : y ≤ x) : subS x y k = x - y := by
  rw [top_k hk] at hx hy
  have hv := subS_val x y k
  have h1 : subC x y k = 0 := by
    unfold subC subI
    rw [Nat.mod_eq_of_lt hx, Nat.mod_eq_of_lt hy, if_neg (by omega)]
  rw [h1] at hv
  have h2 : subI x y k = (x : Int) - y := by unfold subI; rw [Nat.mod_eq_of_lt hx, Nat.mod_eq_of_lt hy]
  rw [h2] at hv
  omega
theorem sumS_end {x y k : Nat} (hk : k = 8) (hx : x < top) (hy : y < top) : sumS x y k = (x + y) % top := by
  have h1 := hx; have h2 := hy
  rw [top_k hk] at h1 h2
  unfold sumS
  rw [Nat.mod_eq_of_lt h1, Nat.mod_eq_of_lt h2, ← top_k hk]
theorem sumC_end {x y k : Nat} (hk : k = 8) (hx : x < top) (hy : y < top) : ((sumC x y k : Int) == 0) = decide (x + y < top) := by
  have h1 := hx; have h2 := hy
  rw [top_k hk] at h1 h2
  have hp := pow64_pos k
  unfold sumC
  rw [Nat.mod_eq_of_lt h1, Nat.mod_eq_of_lt h2, top_k hk]
  by_cases h : x + y < 2 ^ (64 * k)
  · rw [Nat.div_eq_of_lt h]; simp [h]
  · have : 1 ≤ (x + y) / 2 ^ (64 * k) := (Nat.le_div_iff_mul_le hp).2 (by omega)
    rw [decide_eq_false h, beq_eq_false_iff_ne]
    omega
theorem iz_zero : iz false 0 = 0 := rfl
theorem iz_not {n : Bool} {x : Nat} {z : Int} (h : iz n x = z) : iz (!n) x = -z := by
  subst h; cases n <;> simp [iz]
theorem ofN_small {v : Nat} (h : v < 18446744073709551616) : z8.set 0 ((v : Nat) : Int) = ofN v := by
  rw [z8_eq]
  have := set_ofW (k := 8) (m := 0) (w := v) (i := 0) (by decide) (by decide) h
  simpa using this
theorem of_neg {z : Int} (h : z < 0) (h0 : -9223372036854775808 ≤ z) : Blk.sg 25 [.one (.v (.bool true)), .row .u64 8 (z8.set 0 (IntKind.u64.wrap (0 - IntKind.u64.wrap z)))] = Blk.sg 25 [.one (.v (.bool (decide (z < 0)))), .row .u64 8 (ofN z.natAbs)] := by
  have e : IntKind.u64.wrap (0 - IntKind.u64.wrap z) = ((z.natAbs : Nat) : Int) := by rw [u64_def, u64_def]; omega
  rw [e, ofN_small (by omega)]
  simp [h]
theorem of_pos {z : Int} (h : ¬ z < 0) (h1 : z ≤ 9223372036854775807) : Blk.sg 25 [.one (.v (.bool false)), .row .u64 8 (z8.set 0 (IntKind.u64.wrap z))] = Blk.sg 25 [.one (.v (.bool (decide (z < 0)))), .row .u64 8 (ofN z.natAbs)] := by
  have e : IntKind.u64.wrap z = ((z.natAbs : Nat) : Int) := by rw [u64_def]; omega
  rw [e, ofN_small (by omega)]
  simp [h]
/-- What a comparison from the highest word down knows at place i. -/
def ordInv (x y : Nat) (i : Int) : Prop := x / 2 ^ (64 * (i + 1).toNat) = y / 2 ^ (64 * (i + 1).toNat)
theorem ordInv_at {x y k : Nat} {i : Int} (hx : x < top) (hy : y < top) (hk : k = 8) (hi : (i + 1).toNat = k) : ordInv x y i := by
  unfold ordInv; rw [hi, div_top hx hk, div_top hy hk]
theorem ordInv_start {x y : Nat} (hx : x < top) (hy : y < top) : ordInv x y 7 := ordInv_at hx hy rfl rfl
theorem ordInv_end {x y : Nat} (h : ordInv x y (-1)) : x = y := by
  unfold ordInv at h; simpa using h
theorem ordInv_j {x y j : Nat} : ordInv x y j ↔ x / 2 ^ (64 * (j + 1)) = y / 2 ^ (64 * (j + 1)) := by
  unfold ordInv; rw [show ((j : Int) + 1).toNat = j + 1 by omega]
theorem ordInv_prev {x y j : Nat} : ordInv x y ((j : Int) - 1) ↔ x / 2 ^ (64 * j) = y / 2 ^ (64 * j) := by
  unfold ordInv; rw [show ((j : Int) - 1 + 1).toNat = j by omega]
/-! ### Lengths -/
/-- How many bits. -/
def bl (n : Nat) : Nat := if n = 0 then 0 else n.log2 + 1
theorem bl_eq (n : Nat) : bl n = bitLen n := rfl
theorem bl_word {x j : Nat} (hz : x / 2 ^ (64 * (j + 1)) = 0) (hw : wd x j ≠ 0) : bl x = 64 * j + bl (wd x j) := by
  have h := div_step x j
  rw [hz] at h
  have e : x / 2 ^ (64 * j) = wd x j := by omega
  have := bitLen_shift x (64 * j) (by rw [e]; exact hw)
  rw [bl_eq, bl_eq, this, e]
theorem bl_le64 {w : Nat} (h : w < 18446744073709551616) : bl w ≤ 64 := by
  unfold bl
  split
  · omega
  · rename_i h0
    have := (Nat.log2_lt h0).2 (show w < 2 ^ 64 from h)
    omega
theorem bl_zero : bl 0 = 0 := rfl
theorem len_fin {x j : Nat} (hj : j < 8) (he : x / 2 ^ (64 * (j + 1)) = 0) (hw : wd x j ≠ 0) :
    IntKind.i64.wrap (IntKind.i64.wrap ((64 : Int) * (j : Int)) + ((bl (wd x j) : Nat) : Int)) = ((bl x : Nat) : Int) := by
  have := bl_le64 (wd_lt x j)
  rw [w64_of (n := (64 : Int) * (j : Int)) (by omega) (by omega), w64_of (by omega) (by omega), bl_word he hw]
  omega
def lenInv (x : Nat) (i : Int) : Prop := x / 2 ^ (64 * (i + 1).toNat) = 0
theorem lenInv_at {x k : Nat} {i : Int} (hx : x < top) (hk : k = 8) (hi : (i + 1).toNat = k) : lenInv x i := by
  unfold lenInv; rw [hi, div_top hx hk]
theorem lenInv_start {x : Nat} (hx : x < top) : lenInv x 7 := lenInv_at hx rfl rfl
theorem lenInv_end {x : Nat} (h : lenInv x (-1)) : x = 0 := by
  unfold lenInv at h; simpa using h
theorem lenInv_j {x j : Nat} : lenInv x j ↔ x / 2 ^ (64 * (j + 1)) = 0 := by
  unfold lenInv; rw [show ((j : Int) + 1).toNat = j + 1 by omega]
theorem lenInv_prev {x j : Nat} : lenInv x ((j : Int) - 1) ↔ x / 2 ^ (64 * j) = 0 := by
  unfold lenInv; rw [show ((j : Int) - 1 + 1).toNat = j by omega]
theorem len_step {x j : Nat} (h : x / 2 ^ (64 * (j + 1)) = 0) (hw : wd x j = 0) : x / 2 ^ (64 * j) = 0 := by
  rw [div_step, h, hw]
theorem add_iz_same {n m : Bool} {x y : Nat} {a b : Int} (h : n = m) (ha : iz n x = a) (hb : iz m y = b) : iz n (x + y) = a + b := by
  subst h; subst ha; subst hb; cases n <;> simp [iz]; omega
theorem add_iz_ge {n m : Bool} {x y : Nat} {a b : Int} (h : n ≠ m) (ha : iz n x = a) (hb : iz m y = b) (hxy : y ≤ x) : iz n (x - y) = a + b := by
  subst ha; subst hb; cases n <;> cases m <;> simp [iz] at h ⊢ <;> omega
theorem add_iz_lt {n m : Bool} {x y : Nat} {a b : Int} (h : n ≠ m) (ha : iz n x = a) (hb : iz m y = b) (hxy : x < y) : iz m (y - x) = a + b := by
  subst ha; subst hb; cases n <;> cases m <;> simp [iz] at h ⊢ <;> omega
theorem iz_same_abs {n m : Bool} {x y : Nat} {a b : Int} (h : n = m) (ha : iz n x = a) (hb : iz m y = b) : (a + b).natAbs = x + y := by
  rw [← add_iz_same h ha hb, iz_abs]
theorem iz_ne_abs {n m : Bool} {x y : Nat} {a b : Int} (h : n ≠ m) (ha : iz n x = a) (hb : iz m y = b) : (a + b).natAbs ≤ max x y := by
  subst ha; subst hb; cases n <;> cases m <;> simp [iz] at h ⊢ <;> omega
theorem lt_tac {x : Nat} {z : Int} (hz : z.natAbs < top) (h : x = z.natAbs := by rfl) : x < top := by rw [h]; exact hz
theorem abs_lt {n : Bool} {x : Nat} {z : Int} (hx : x < top) (hz : iz n x = z) : z.natAbs < top := by rw [← hz, iz_abs]; exact hx
theorem sg_nat {a b : Int} (ha : ¬ a < 0) (hb : ¬ b < 0) : sg (a.natAbs : Int) (b.natAbs : Int) = sg a b := by
  rw [show (a.natAbs : Int) = a by omega, show (b.natAbs : Int) = b by omega]
theorem sg_nat' {a b : Int} (ha : a < 0) (hb : b < 0) : sg (b.natAbs : Int) (a.natAbs : Int) = sg a b := by
  rw [show (a.natAbs : Int) = -a by omega, show (b.natAbs : Int) = -b by omega, sg_neg]
theorem sg_m {a b : Int} (ha : a < 0) (hb : ¬ b < 0) : -1 = sg a b := by unfold sg; rw [if_pos (by omega)]
theorem sg_p {a b : Int} (ha : ¬ a < 0) (hb : b < 0) : 1 = sg a b := by unfold sg; rw [if_neg (by omega), if_pos (by omega)]
theorem ne_of_beqf {n m : Bool} (h : (n == m) = false) : n ≠ m := by simpa using h
theorem add_fits {n m : Bool} {x y : Nat} {a b : Int} (h : n = m) (ha : iz n x = a) (hb : iz m y = b) (hab : (a + b).natAbs < top) : x + y < top := by
  rwa [iz_same_abs h ha hb] at hab
theorem add_nofits {n m : Bool} {x y : Nat} {a b : Int} (h : n = m) (ha : iz n x = a) (hb : iz m y = b) (hab : ¬ (a + b).natAbs < top) : ¬ x + y < top := by
  rwa [iz_same_abs h ha hb] at hab
theorem add_iz_mod {n m : Bool} {x y : Nat} {a b : Int} (h : n = m) (ha : iz n x = a) (hb : iz m y = b) (hab : (a + b).natAbs < top) : iz n ((x + y) % top) = a + b := by
  rw [Nat.mod_eq_of_lt (add_fits h ha hb hab), add_iz_same h ha hb]
theorem add_ne_fits {n m : Bool} {x y : Nat} {a b : Int} (h : n ≠ m) (ha : iz n x = a) (hb : iz m y = b) (hx : x < top) (hy : y < top) : (a + b).natAbs < top :=
  Nat.lt_of_le_of_lt (iz_ne_abs h ha hb) (by omega)
/-! ### math/bits.Len64 and Mul64 -/
def strAt : Op → ByteArray
  | .index _ (.const (.string s)) _ => s
  | _ => ByteArray.empty
theorem len8_all : (strAt (opr Try.f135 10 3).op).size = 256 ∧ ∀ j : Fin 256, sbyte (strAt (opr Try.f135 10 3).op) (j.val : Int) = ((bl j.val : Nat) : Int) := by decide +kernel
theorem len8_size : (strAt (opr Try.f135 10 3).op).size = 256 := len8_all.1
theorem len8_get {j : Nat} (h : j < 256) : sbyte (strAt (opr Try.f135 10 3).op) (j : Int) = ((bl j : Nat) : Int) := len8_all.2 ⟨j, h⟩
theorem fd8 (x : Int) : x.fdiv 256 = x / 256 := Int.fdiv_eq_ediv_of_nonneg _ (by decide)
theorem fd16 (x : Int) : x.fdiv 65536 = x / 65536 := Int.fdiv_eq_ediv_of_nonneg _ (by decide)
theorem fd32 (x : Int) : x.fdiv 4294967296 = x / 4294967296 := Int.fdiv_eq_ediv_of_nonneg _ (by decide)
theorem fd63 (x : Int) : x.fdiv 9223372036854775808 = x / 9223372036854775808 := Int.fdiv_eq_ediv_of_nonneg _ (by decide)
theorem len64_fin {v X : Int} {s q : Nat} (h0 : 0 ≤ v) (hq : q = 2 ^ s) (hX : X = v / q) (h256 : X < 256) (hs : s = 0 ∨ 0 < X) (h56 : s ≤ 56) :
    IntKind.i64.wrap ((s : Int) + IntKind.i64.wrap (sbyte (strAt (opr Try.f135 10 3).op) (IntKind.u8.wrap X))) = ((bl v.toNat : Nat) : Int) := by
  obtain ⟨v, rfl⟩ := Int.eq_ofNat_of_zero_le h0
  subst hq
  obtain ⟨u, hu⟩ : ∃ u, u = v / 2 ^ s := ⟨_, rfl⟩
  have hX' : X = (u : Int) := by rw [hX, hu]; rfl
  subst hX'
  have h1 : u < 256 := by omega
  have e : IntKind.u8.wrap (u : Int) = (u : Int) := by rw [w8_def]; omega
  have hb := bl_le64 (show u < 18446744073709551616 by omega)
  rw [e, len8_get h1, Int.toNat_natCast]
  have f : bl v = s + bl u := by
    rcases hs with rfl | hs
    · rw [hu]; simp
    · have := bitLen_shift v s (by omega)
      rw [bl_eq, bl_eq, this, hu]
  rw [w64_of (n := ((bl u : Nat) : Int)) (by omega) (by omega), w64_of (by omega) (by omega), f]
  omega
theorem and_low {z : Int} (h0 : 0 ≤ z) (h1 : z < 18446744073709551616) : bits .and .u64 z 4294967295 = z % 4294967296 := and_low32 z h0 h1
theorem and_lowm (z : Int) : bits .and .u64 (z % 18446744073709551616) 4294967295 = (z % 18446744073709551616) % 4294967296 := and_low (by omega) (by omega)
end Go.Proofs.Ytbbakacfhajohaa.Av

/- Plain mathematics: shifts, long division, products of words. -/
import Derived.Test.YtbbakacfhajohaaMaB
import Derived.Laws.BitsLemmas
namespace Go.Proofs.Ytbbakacfhajohaa.Av

/-- Eight words told by a function. -/
def tb (f : Nat → Nat) : List Int := (List.range 8).map fun i => ((f i : Nat) : Int)
theorem tb_get (f : Nat → Nat) {j : Nat} (h : j < 8) : (tb f).getD j 0 = ((f j : Nat) : Int) := by
  simp [tb, List.getD, h]
theorem tb_ext {f g : Nat → Nat} (h : ∀ i, i < 8 → f i = g i) : tb f = tb g := by
  apply List.map_congr_left
  intro i hi
  rw [h i (List.mem_range.1 hi)]
theorem tb_set (f : Nat → Nat) {j v : Nat} (_ : j < 8) : (tb f).set j ((v : Nat) : Int) = tb (fun i => if i = j then v else f i) := by
  apply List.ext_getElem (by simp [tb])
  intro i h1 h2
  rw [List.getElem_set]
  simp only [tb, List.getElem_map, List.getElem_range]
  by_cases h : j = i
  · subst h; simp
  · rw [if_neg h, if_neg (fun e => h e.symm)]
theorem tb_ofN {f : Nat → Nat} {n : Nat} (h : ∀ i, i < 8 → f i = wd n i) : tb f = ofN n := tb_ext h
theorem ofN_tb (n : Nat) : ofN n = tb (wd n) := rfl
theorem ofN_ext {x y : Nat} (h : ∀ i, i < 8 → wd x i = wd y i) : ofN x = ofN y := tb_ext h
theorem split_at (S p : Nat) : S = S % 2 ^ (64 * p) + (wd S p + 18446744073709551616 * (S / 2 ^ (64 * (p + 1)))) * 2 ^ (64 * p) := by
  have h := div_step S p
  rw [show wd S p + 18446744073709551616 * (S / 2 ^ (64 * (p + 1))) = S / 2 ^ (64 * p) by omega, Nat.mul_comm (S / 2 ^ (64 * p))]
  exact (Nat.mod_add_div ..).symm
theorem wd_mod {n p i : Nat} (h : i < p) : wd (n % 2 ^ (64 * p)) i = wd n i := by
  have e : n = n % 2 ^ (64 * p) + n / 2 ^ (64 * p) * 2 ^ (64 * p) := by rw [Nat.mul_comm (n / 2 ^ (64 * p))]; exact (Nat.mod_add_div ..).symm
  rw [show wd n i = wd (n % 2 ^ (64 * p) + n / 2 ^ (64 * p) * 2 ^ (64 * p)) i by rw [← e], wd_add_low h]
theorem wd_high {a p v b i : Nat} (ha : a < 2 ^ (64 * p)) (hv : v < 18446744073709551616) (h : p < i) :
    wd (a + (v + 18446744073709551616 * b) * 2 ^ (64 * p)) i = wd b (i - (p + 1)) := by
  unfold wd
  have e : 2 ^ (64 * i) = 2 ^ (64 * (p + 1)) * 2 ^ (64 * (i - (p + 1))) := by rw [← Nat.pow_add]; congr 1; omega
  have f : (a + (v + 18446744073709551616 * b) * 2 ^ (64 * p)) / 2 ^ (64 * (p + 1)) = b := by
    rw [pow64, ← Nat.div_div_eq_div_mul, Nat.mul_comm (v + _), Nat.add_mul_div_left _ _ (pow64_pos p), Nat.div_eq_of_lt ha, Nat.zero_add, Nat.add_mul_div_left _ _ (by decide), Nat.div_eq_of_lt hv, Nat.zero_add]
  rw [e, ← Nat.div_div_eq_div_mul, f]
/-- One word told anew. -/
def put (S p v : Nat) : Nat := S % 2 ^ (64 * p) + (v + 18446744073709551616 * (S / 2 ^ (64 * (p + 1)))) * 2 ^ (64 * p)
theorem wd_put {S p v i : Nat} (hv : v < 18446744073709551616) : wd (put S p v) i = if i = p then v else wd S i := by
  have ha := Nat.mod_lt S (pow64_pos p)
  unfold put
  rcases Nat.lt_trichotomy i p with h | h | h
  · rw [wd_add_low h, wd_mod h, if_neg (by omega)]
  · subst h
    rw [if_pos rfl]
    unfold wd
    rw [Nat.mul_comm (v + _), Nat.add_mul_div_left _ _ (pow64_pos i), Nat.div_eq_of_lt ha, Nat.zero_add]
    exact (Nat.add_mul_mod_self_left ..).trans (Nat.mod_eq_of_lt hv)
  · rw [if_neg (by omega), wd_high ha hv h, split_at S p, wd_high ha (wd_lt S p) h]
    rw [← split_at S p]
theorem set_put {S p v : Nat} (hp : p < 8) (hv : v < 18446744073709551616) : (ofN S).set p ((v : Nat) : Int) = ofN (put S p v) := by
  rw [ofN_tb, tb_set _ hp]
  exact tb_ofN fun i _ => (wd_put hv).symm
theorem put_val (S p v : Nat) : put S p v + wd S p * 2 ^ (64 * p) = S + v * 2 ^ (64 * p) := by
  have h := split_at S p
  unfold put
  rw [Nat.add_mul]
  rw [Nat.add_mul] at h
  omega
theorem put_lt' {S p v e : Nat} (hp : p < e) (hS : S < 2 ^ (64 * e)) (hv : v < 18446744073709551616) : put S p v < 2 ^ (64 * e) := by
  have h0 := Nat.mod_lt S (pow64_pos p)
  obtain ⟨d, rfl⟩ : ∃ d, e = p + 1 + d := ⟨e - p - 1, by omega⟩
  have hb : S / 2 ^ (64 * (p + 1)) < 2 ^ (64 * d) := by
    rw [Nat.div_lt_iff_lt_mul (pow64_pos _), ← Nat.pow_add]
    rwa [show 64 * d + 64 * (p + 1) = 64 * (p + 1 + d) by omega]
  unfold put
  generalize S / 2 ^ (64 * (p + 1)) = b at *
  have e : 2 ^ (64 * (p + 1 + d)) = 18446744073709551616 * 2 ^ (64 * d) * 2 ^ (64 * p) := by
    rw [show 64 * (p + 1 + d) = 64 + 64 * d + 64 * p by omega, Nat.pow_add, Nat.pow_add]
  rw [e]
  generalize 2 ^ (64 * d) = D at *
  have h1 : v + 18446744073709551616 * b + 1 ≤ 18446744073709551616 * D := by omega
  have h2 := Nat.mul_le_mul_right (2 ^ (64 * p)) h1
  rw [Nat.add_mul _ 1, Nat.one_mul] at h2
  omega
theorem put_lt {S p v e : Nat} (he : e = 8) (hp : p < 8) (hS : S < top) (hv : v < 18446744073709551616) : put S p v < top := by
  rw [top_k he] at hS ⊢
  exact put_lt' (by omega) hS hv
/-! ### Shifts -/
theorem funnel (u : Nat) {s : Nat} (hs : s ≤ 64) : u / 2 ^ s % 18446744073709551616 = (u / 18446744073709551616 % 18446744073709551616) * 2 ^ (64 - s) % 18446744073709551616 + u % 18446744073709551616 / 2 ^ s := by
  have e : 18446744073709551616 = 2 ^ (64 - s) * 2 ^ s := by rw [← Nat.pow_add, Nat.sub_add_cancel hs]
  have hp : 0 < 2 ^ s := Nat.pow_pos (by decide)
  have hd : u % 18446744073709551616 / 2 ^ s < 2 ^ (64 - s) := by
    rw [Nat.div_lt_iff_lt_mul hp, ← e]; exact Nat.mod_lt _ (by decide)
  have h1 : u / 2 ^ s = u % 18446744073709551616 / 2 ^ s + 2 ^ (64 - s) * (u / 18446744073709551616) := by
    have h := Nat.div_add_mod u 18446744073709551616
    have h' : u = u % 18446744073709551616 + 2 ^ s * (2 ^ (64 - s) * (u / 18446744073709551616)) := by
      rw [← Nat.mul_assoc, Nat.mul_comm (2 ^ s), ← e]; omega
    rw [show u / 2 ^ s = (u % 18446744073709551616 + 2 ^ s * (2 ^ (64 - s) * (u / 18446744073709551616))) / 2 ^ s by rw [← h'], Nat.add_mul_div_left _ _ hp]
  have h2 : (u / 18446744073709551616 % 18446744073709551616) * 2 ^ (64 - s) % 18446744073709551616 = 2 ^ (64 - s) * (u / 18446744073709551616 % 2 ^ s) := by
    rw [Nat.mod_mul_mod, Nat.mul_comm]
    conv => lhs; rw [e]
    rw [Nat.mul_mod_mul_left, ← e]
  rw [h2, h1]
  generalize u % 18446744073709551616 / 2 ^ s = d at *
  generalize u / 18446744073709551616 = t at *
  rw [e, Nat.mod_mul, Nat.add_mul_mod_self_left, Nat.mod_eq_of_lt hd, Nat.add_mul_div_left _ _ (Nat.pow_pos (by decide)), Nat.div_eq_of_lt hd, Nat.zero_add]
  omega
theorem wd_div (x n i : Nat) : wd (x / 2 ^ n) i = x / 2 ^ (64 * i + n) % 18446744073709551616 := by
  unfold wd; rw [Nat.div_div_eq_div_mul, ← Nat.pow_add, Nat.add_comm]
/-- A word of a number shifted down. -/
theorem down_word {x n i q r : Nat} (hn : n = 64 * q + r) (hr : r ≤ 64) : wd (x / 2 ^ n) i = wd x (i + q + 1) * 2 ^ (64 - r) % 18446744073709551616 + wd x (i + q) / 2 ^ r := by
  subst hn
  rw [wd_div, show 64 * i + (64 * q + r) = 64 * (i + q) + r by omega, Nat.pow_add, ← Nat.div_div_eq_div_mul, funnel _ hr]
  unfold wd
  rw [pow64 (i + q), Nat.div_div_eq_div_mul]
theorem wd_mul_low {x n i : Nat} (h : 64 * (i + 1) ≤ n) : wd (x * 2 ^ n) i = 0 := by
  unfold wd
  obtain ⟨d, rfl⟩ : ∃ d, n = 64 * i + (64 + d) := ⟨n - 64 * i - 64, by omega⟩
  rw [Nat.pow_add, Nat.mul_comm x, Nat.mul_assoc, Nat.mul_div_cancel_left _ (pow64_pos i), Nat.pow_add, Nat.mul_assoc]
  exact Nat.mul_mod_right _ _
/-- A word of a number shifted up. -/
theorem up_word {x n i q r : Nat} (hn : n = 64 * q + r) (hr : r < 64) (hi : q < i) : wd (x * 2 ^ n) i = wd x (i - q) * 2 ^ r % 18446744073709551616 + wd x (i - q - 1) / 2 ^ (64 - r) := by
  obtain ⟨d, rfl⟩ : ∃ d, i = q + d + 1 := ⟨i - q - 1, by omega⟩
  have e : wd (x * 2 ^ n) (q + d + 1) = wd (x / 2 ^ (64 - r)) d := by
    rw [wd_div]
    unfold wd
    have : 2 ^ (64 * (q + d + 1)) = 2 ^ (64 * d + (64 - r)) * 2 ^ n := by rw [← Nat.pow_add]; congr 1; omega
    rw [this, Nat.mul_div_mul_right _ _ (Nat.pow_pos (by decide))]
  rw [e, down_word (q := 0) (r := 64 - r) (by omega) (by omega), show 64 - (64 - r) = r by omega, show q + d + 1 - q = d + 1 by omega, Nat.add_sub_cancel]
  rfl
theorem up_word_at {x n q r : Nat} (hn : n = 64 * q + r) : wd (x * 2 ^ n) q = wd x 0 * 2 ^ r % 18446744073709551616 := by
  subst hn
  unfold wd
  rw [Nat.pow_add, Nat.mul_comm (2 ^ (64 * q)), ← Nat.mul_assoc, Nat.mul_div_cancel _ (pow64_pos q)]
  simp only [Nat.mul_zero, Nat.pow_zero, Nat.div_one]
  rw [show 2 ^ 64 = 18446744073709551616 from rfl, Nat.mod_mul_mod]
def upF (x n k : Nat) (i : Nat) : Nat := if k ≤ i then wd (x * 2 ^ n) i else 0
def downF (x n k : Nat) (i : Nat) : Nat := if i < k then wd (x / 2 ^ n) i else 0
theorem upF_start (x n : Nat) : z8 = tb (upF x n 8) := by
  rw [z8_eq, ofN_tb]
  exact tb_ext fun i hi => by unfold upF; rw [if_neg (by omega)]; simp [wd]
theorem upF_end {x n q e : Nat} (he : e = 8) (hq : q = n / 64) : tb (upF x n q) = ofN (x * 2 ^ n % top) := by
  refine tb_ofN fun i hi => ?_
  rw [top_k he, wd_mod (by omega)]
  unfold upF
  split
  · rfl
  · rw [wd_mul_low (by omega)]
theorem downF_start (x n : Nat) : z8 = tb (downF x n 0) := by
  rw [z8_eq, ofN_tb]
  exact tb_ext fun i hi => by unfold downF; rw [if_neg (by omega)]; simp [wd]
theorem downF_end {x n k e : Nat} (he : e = 8) (hx : x < top) (hk : 8 ≤ k + n / 64) : tb (downF x n k) = ofN (x / 2 ^ n) := by
  refine tb_ofN fun i hi => ?_
  unfold downF
  split
  · rfl
  · rw [wd_div]
    have : x / 2 ^ (64 * i + n) = 0 := by
      apply Nat.div_eq_of_lt
      rw [top_k he] at hx
      exact Nat.lt_of_lt_of_le hx (Nat.pow_le_pow_right (by decide) (by omega))
    rw [this]
theorem td_n (n : Nat) : (n : Int).tdiv 64 = ((n / 64 : Nat) : Int) := rfl
theorem tm_n (n : Nat) : (n : Int).tmod 64 = ((n % 64 : Nat) : Int) := rfl
theorem wq {n : Nat} (h : n < 9223372036854775808) : IntKind.i64.wrap ((n : Int).tdiv 64) = ((n / 64 : Nat) : Int) := by rw [td_n, w64_of] <;> omega
theorem wsub {a b : Nat} (h : b ≤ a) (ha : a < 9223372036854775808) : IntKind.i64.wrap ((a : Int) - (b : Int)) = ((a - b : Nat) : Int) := by rw [w64_of] <;> omega
theorem wadd {a b : Nat} (h : a + b < 9223372036854775808) : IntKind.i64.wrap ((a : Int) + (b : Int)) = ((a + b : Nat) : Int) := by rw [w64_of] <;> omega
theorem shl_n {w r : Nat} (hr : r < 64) : IntKind.u64.wrap ((w : Int) * (2 ^ (min ((r : Nat) : Int).toNat IntKind.u64.bits))) = ((w * 2 ^ r % 18446744073709551616 : Nat) : Int) := by
  rw [Int.toNat_natCast, show min r IntKind.u64.bits = r from Nat.min_eq_left (by show r ≤ 64; omega), u64_def, Int.natCast_emod, Int.natCast_mul, Int.natCast_pow]
  rfl
theorem shr_n {w r : Nat} (hr : r ≤ 64) : (w : Int).fdiv (2 ^ (min ((r : Nat) : Int).toNat IntKind.u64.bits)) = ((w / 2 ^ r : Nat) : Int) := by
  rw [Int.toNat_natCast, show min r IntKind.u64.bits = r from Nat.min_eq_left (by show r ≤ 64; omega), Int.fdiv_eq_ediv_of_nonneg _ (Int.le_of_lt (Int.pow_pos (by decide)))]
  exact_mod_cast rfl
theorem or_n {a b r : Nat} (hr : r ≤ 64) (ha : a < 18446744073709551616) (hd : a % 2 ^ r = 0) (hb : b < 2 ^ r) : bits .or .u64 (a : Int) (b : Int) = ((a + b : Nat) : Int) := by
  have hbb : b < 18446744073709551616 := Nat.lt_of_lt_of_le hb (Nat.pow_le_pow_right (by decide) hr)
  have := bits_join .u64 64 (by decide) (fun n h0 h1 => by rw [u64_def]; simp at h1; omega) r (a : Int) (b : Int) (by omega) (by exact_mod_cast hd) (by simp; omega) (by omega) (by exact_mod_cast hb) (by simp; omega)
  rw [this]; simp
theorem or_comm64 (a b : Int) : bits .or .u64 a b = bits .or .u64 b a := by simp only [bits, BitVec.or_comm]
theorem mul_mod_pow {w r : Nat} (hr : r ≤ 64) : w * 2 ^ r % 18446744073709551616 % 2 ^ r = 0 := by
  rw [show 18446744073709551616 = 2 ^ r * 2 ^ (64 - r) by rw [← Nat.pow_add, Nat.add_sub_cancel' hr], Nat.mod_mul_right_mod]
  exact Nat.mul_mod_left _ _
theorem div_lt_pow {w r : Nat} (hr : r ≤ 64) (hw : w < 18446744073709551616) : w / 2 ^ (64 - r) < 2 ^ r := by
  rw [Nat.div_lt_iff_lt_mul (Nat.pow_pos (by decide)), ← Nat.pow_add, Nat.add_sub_cancel' hr]; exact hw
theorem geq_q {j n : Nat} (hn : n < 512) (h : n / 64 ≤ j) : decide ((j : Int) ≥ IntKind.i64.wrap ((n : Int).tdiv 64)) = true := by
  rw [wq (by omega)]; simp; omega
theorem ngeq_q {j n : Nat} (hn : n < 512) (h : j = n / 64) : decide ((j : Int) - 1 ≥ IntKind.i64.wrap ((n : Int).tdiv 64)) = false := by
  rw [wq (by omega)]; simp; omega
theorem rem_pos {n : Nat} (h : decide ((n : Int).tmod 64 > (0 : Int)) = true) : 0 < n % 64 := by
  have := of_decide_eq_true h; rw [tm_n] at this; omega
theorem rem_zero {n : Nat} (h : decide ((n : Int).tmod 64 > (0 : Int)) = false) : n % 64 = 0 := by
  have := of_decide_eq_false h; rw [tm_n] at this; omega
theorem gtr_q {j n : Nat} (hn : n < 512) (h : decide ((j : Int) > IntKind.i64.wrap ((n : Int).tdiv 64)) = true) : n / 64 < j := by
  have := of_decide_eq_true h; rw [wq (by omega)] at this; omega
theorem ngtr_q {j n : Nat} (hn : n < 512) (h : decide ((j : Int) > IntKind.i64.wrap ((n : Int).tdiv 64)) = false) : j ≤ n / 64 := by
  have := of_decide_eq_false h; rw [wq (by omega)] at this; omega
theorem up_idx {j n : Nat} (hj : j < 8) (hn : n < 512) (h : n / 64 ≤ j) : IntKind.i64.wrap ((j : Int) - IntKind.i64.wrap ((n : Int).tdiv 64)) = ((j - n / 64 : Nat) : Int) := by
  rw [wq (by omega), wsub h (by omega)]
theorem up_idx2 {j n : Nat} (hj : j < 8) (hn : n < 512) (h : n / 64 < j) : IntKind.i64.wrap (IntKind.i64.wrap ((j : Int) - IntKind.i64.wrap ((n : Int).tdiv 64)) - (1 : Int)) = ((j - n / 64 - 1 : Nat) : Int) := by
  rw [up_idx hj hn (by omega), show (1 : Int) = ((1 : Nat) : Int) from rfl, wsub (by omega) (by omega)]
theorem up_rem {n : Nat} : IntKind.i64.wrap ((64 : Int) - (n : Int).tmod 64) = ((64 - n % 64 : Nat) : Int) := by
  rw [tm_n, show (64 : Int) = ((64 : Nat) : Int) from rfl, wsub (by omega) (by omega)]
theorem down_idx {j n : Nat} (hj : j + n / 64 < 8) (hn : n < 512) : IntKind.i64.wrap ((j : Int) + IntKind.i64.wrap ((n : Int).tdiv 64)) = ((j + n / 64 : Nat) : Int) := by
  rw [wq (by omega), wadd (by omega)]
theorem down_idx2 {j n : Nat} (hj : j + n / 64 < 8) (hn : n < 512) : IntKind.i64.wrap (IntKind.i64.wrap ((j : Int) + IntKind.i64.wrap ((n : Int).tdiv 64)) + (1 : Int)) = ((j + n / 64 + 1 : Nat) : Int) := by
  rw [down_idx hj hn, show (1 : Int) = ((1 : Nat) : Int) from rfl, wadd (by omega)]
theorem down_lss {k n : Nat} (hn : n < 512) (h : k + n / 64 < 8) : decide ((k : Int) < IntKind.i64.wrap ((8 : Int) - IntKind.i64.wrap ((n : Int).tdiv 64))) = true := by
  rw [wq (by omega), show (8 : Int) = ((8 : Nat) : Int) from rfl, wsub (by omega) (by omega)]; simp; omega
theorem down_nlss {k n : Nat} (hn : n < 512) (h : 8 ≤ k + n / 64) : decide ((k : Int) < IntKind.i64.wrap ((8 : Int) - IntKind.i64.wrap ((n : Int).tdiv 64))) = false := by
  rw [wq (by omega), show (8 : Int) = ((8 : Nat) : Int) from rfl, wsub (by omega) (by omega)]; simp; omega
theorem down_next {j n : Nat} (hn : n < 512) (hj : j + n / 64 < 8) {b : Bool} (h : decide (IntKind.i64.wrap (IntKind.i64.wrap ((j : Int) + IntKind.i64.wrap ((n : Int).tdiv 64)) + (1 : Int)) < (8 : Int)) = b) : decide (j + n / 64 + 1 < 8) = b := by
  rw [down_idx2 hj hn] at h; rw [← h]; simp; omega
/-- One word of the number shifted up, without the part from below. -/
theorem up_set1 {x n j : Nat} (hn : n < 512) (hj : j < 8) (hq : n / 64 ≤ j) (h : n % 64 = 0 ∨ j = n / 64) :
    (tb (upF x n (j + 1))).set (j : Int).toNat (IntKind.u64.wrap ((ofN x).getD (IntKind.i64.wrap ((j : Int) - IntKind.i64.wrap ((n : Int).tdiv 64))).toNat 0 * (2 ^ (min ((n : Int).tmod 64).toNat IntKind.u64.bits)))) = tb (upF x n j) := by
  rw [up_idx hj hn hq, tm_n, Int.toNat_natCast j, Int.toNat_natCast (j - n / 64), get_ofW (by omega), shl_n (by omega), tb_set _ hj]
  refine tb_ext fun i hi => ?_
  unfold upF
  by_cases hij : i = j
  · subst hij
    rw [if_pos rfl, if_pos (Nat.le_refl _)]
    rcases Nat.lt_or_ge (n / 64) i with hl | hl
    · rw [up_word (q := n / 64) (r := n % 64) (by omega) (by omega) hl]
      have h0 : n % 64 = 0 := by omega
      rw [h0, Nat.div_eq_of_lt (wd_lt x _)]; rfl
    · have : i = n / 64 := by omega
      subst this
      rw [up_word_at (r := n % 64) (by omega), Nat.sub_self]
  · rw [if_neg hij]
    by_cases hji : j ≤ i
    · rw [if_pos (by omega), if_pos hji]
    · rw [if_neg (by omega), if_neg hji]
theorem up_set2 {x n j : Nat} (hn : n < 512) (hj : j < 8) (hr : 0 < n % 64) (hq : n / 64 < j) :
    ((tb (upF x n (j + 1))).set (j : Int).toNat (IntKind.u64.wrap ((ofN x).getD (IntKind.i64.wrap ((j : Int) - IntKind.i64.wrap ((n : Int).tdiv 64))).toNat 0 * (2 ^ (min ((n : Int).tmod 64).toNat IntKind.u64.bits))))).set (j : Int).toNat
      (bits .or .u64 (((tb (upF x n (j + 1))).set (j : Int).toNat (IntKind.u64.wrap ((ofN x).getD (IntKind.i64.wrap ((j : Int) - IntKind.i64.wrap ((n : Int).tdiv 64))).toNat 0 * (2 ^ (min ((n : Int).tmod 64).toNat IntKind.u64.bits))))).getD (j : Int).toNat 0)
        (((ofN x).getD (IntKind.i64.wrap (IntKind.i64.wrap ((j : Int) - IntKind.i64.wrap ((n : Int).tdiv 64)) - (1 : Int))).toNat 0).fdiv (2 ^ (min (IntKind.i64.wrap ((64 : Int) - (n : Int).tmod 64)).toNat IntKind.u64.bits)))) = tb (upF x n j) := by
  rw [up_idx2 hj hn hq, up_idx hj hn (by omega), up_rem, tm_n, Int.toNat_natCast (j - n / 64), Int.toNat_natCast j, Int.toNat_natCast (j - n / 64 - 1), get_ofW (by omega), get_ofW (by omega), shl_n (by omega), tb_set _ hj, tb_get _ hj, if_pos rfl, shr_n (by omega),
    or_n (r := n % 64) (by omega) (Nat.mod_lt _ (by decide)) (mul_mod_pow (by omega)) (div_lt_pow (by omega) (wd_lt x _)), tb_set _ hj]
  refine tb_ext fun i hi => ?_
  unfold upF
  by_cases hij : i = j
  · subst hij
    rw [if_pos rfl, if_pos (Nat.le_refl _), up_word (q := n / 64) (r := n % 64) (by omega) (by omega) hq]
  · rw [if_neg hij, if_neg hij]
    by_cases hji : j ≤ i
    · rw [if_pos (by omega), if_pos hji]
    · rw [if_neg (by omega), if_neg hji]
theorem down_set1 {x n j : Nat} (hx : ∀ i, 8 ≤ i → wd x i = 0) (hn : n < 512) (hj : j + n / 64 < 8) (h : n % 64 = 0 ∨ ¬ j + n / 64 + 1 < 8) :
    (tb (downF x n j)).set (j : Int).toNat (((ofN x).getD (IntKind.i64.wrap ((j : Int) + IntKind.i64.wrap ((n : Int).tdiv 64))).toNat 0).fdiv (2 ^ (min ((n : Int).tmod 64).toNat IntKind.u64.bits))) = tb (downF x n (j + 1)) := by
  rw [down_idx hj hn, tm_n, Int.toNat_natCast j, Int.toNat_natCast (j + n / 64), get_ofW hj, shr_n (by omega), tb_set _ (by omega)]
  refine tb_ext fun i hi => ?_
  unfold downF
  by_cases hij : i = j
  · subst hij
    rw [if_pos rfl, if_pos (by omega), down_word (q := n / 64) (r := n % 64) (by omega) (by omega)]
    rcases h with h | h
    · rw [h, Nat.sub_zero, show 2 ^ 64 = 18446744073709551616 from rfl, Nat.mul_mod_left, Nat.zero_add]
    · rw [hx (i + n / 64 + 1) (by omega), Nat.zero_mul, Nat.zero_mod, Nat.zero_add]
  · rw [if_neg hij]
    by_cases hji : i < j
    · rw [if_pos hji, if_pos (by omega)]
    · rw [if_neg hji, if_neg (by omega)]
theorem down_set2 {x n j : Nat} (hn : n < 512) (hr : 0 < n % 64) (hj : j + n / 64 + 1 < 8) :
    ((tb (downF x n j)).set (j : Int).toNat (((ofN x).getD (IntKind.i64.wrap ((j : Int) + IntKind.i64.wrap ((n : Int).tdiv 64))).toNat 0).fdiv (2 ^ (min ((n : Int).tmod 64).toNat IntKind.u64.bits)))).set (j : Int).toNat
      (bits .or .u64 (((tb (downF x n j)).set (j : Int).toNat (((ofN x).getD (IntKind.i64.wrap ((j : Int) + IntKind.i64.wrap ((n : Int).tdiv 64))).toNat 0).fdiv (2 ^ (min ((n : Int).tmod 64).toNat IntKind.u64.bits)))).getD (j : Int).toNat 0)
        (IntKind.u64.wrap ((ofN x).getD (IntKind.i64.wrap (IntKind.i64.wrap ((j : Int) + IntKind.i64.wrap ((n : Int).tdiv 64)) + (1 : Int))).toNat 0 * (2 ^ (min (IntKind.i64.wrap ((64 : Int) - (n : Int).tmod 64)).toNat IntKind.u64.bits))))) = tb (downF x n (j + 1)) := by
  rw [down_idx2 (by omega) hn, down_idx (by omega) hn, up_rem, tm_n, Int.toNat_natCast (j + n / 64), Int.toNat_natCast j, Int.toNat_natCast (j + n / 64 + 1), get_ofW (by omega), get_ofW hj, shr_n (by omega), tb_set _ (by omega), tb_get _ (by omega), if_pos rfl, shl_n (by omega),
    or_comm64, or_n (r := 64 - n % 64) (by omega) (Nat.mod_lt _ (by decide)) (mul_mod_pow (by omega)) (by have := div_lt_pow (w := wd x (j + n / 64)) (r := 64 - n % 64) (by omega) (wd_lt x _); rwa [show 64 - (64 - n % 64) = n % 64 by omega] at this), tb_set _ (by omega)]
  refine tb_ext fun i hi => ?_
  unfold downF
  by_cases hij : i = j
  · subst hij
    rw [if_pos rfl, if_pos (by omega), down_word (q := n / 64) (r := n % 64) (by omega) (by omega)]
  · rw [if_neg hij, if_neg hij]
    by_cases hji : i < j
    · rw [if_pos hji, if_pos (by omega)]
    · rw [if_neg hji, if_neg (by omega)]
theorem wd_top {x e : Nat} (he : e = 8) (hx : x < top) : ∀ i, 8 ≤ i → wd x i = 0 := by
  intro i hi
  rw [top_k he] at hx
  exact wd_zero_of_lt (Nat.lt_of_lt_of_le hx (Nat.pow_le_pow_right (by decide) (by omega)))
/-! ### Small numbers -/
theorem wabs (n : Int) : (IntKind.i64.wrap n).natAbs < top := by
  have h : (IntKind.i64.wrap n).natAbs < 18446744073709551616 := by rw [w64_def]; omega
  have : 18446744073709551616 ≤ top := by
    obtain ⟨e, he⟩ : ∃ e, e = 8 := ⟨_, rfl⟩
    have h2 : 2 ^ 64 ≤ 2 ^ (64 * e) := Nat.pow_le_pow_right (by decide) (by omega)
    rw [top_k he]
    exact h2
  omega
theorem w64_lo (n : Int) : -9223372036854775808 ≤ IntKind.i64.wrap n := by rw [w64_def]; omega
theorem w64_hi (n : Int) : IntKind.i64.wrap n ≤ 9223372036854775807 := by rw [w64_def]; omega
theorem get0 (x : Nat) : (ofN x).getD (0 : Int).toNat 0 = ((x % 18446744073709551616 : Nat) : Int) := by
  rw [show (0 : Int).toNat = 0 from rfl, get_ofW (by decide)]
  unfold wd
  rw [Nat.mul_zero, Nat.pow_zero, Nat.div_one]
theorem small_p {z : Int} (h0 : ¬ z < 0) (h1 : z ≤ 9223372036854775807) : IntKind.i64.wrap ((ofN z.natAbs).getD (0 : Int).toNat 0) = z := by
  rw [get0, w64_def]; omega
theorem small_m {z : Int} (h0 : z < 0) (h1 : -9223372036854775808 ≤ z) : IntKind.i64.wrap ((0 : Int) - IntKind.i64.wrap ((ofN z.natAbs).getD (0 : Int).toNat 0)) = z := by
  rw [get0, w64_def, w64_def]; omega
theorem sg_ne_f {a b : Int} (h : a = b) : (sg a b != (0 : Int)) = false := by rw [h, sg_self]; rfl
theorem sg_ne_t {a b : Int} (h : a ≠ b) : (sg a b != (0 : Int)) = true := by
  rw [bne_iff_ne]; exact fun e => h ((sg_eq a b).1 e)
theorem out_p {z n : Int} (h : ¬ (-9223372036854775808 ≤ z ∧ z ≤ 9223372036854775807)) : IntKind.i64.wrap n ≠ z := by
  intro e; apply h; rw [← e]; exact ⟨w64_lo n, w64_hi n⟩
/-! ### Long division -/
theorem div_step2 (x z : Nat) (hz : 0 < z) : x % z = (if z ≤ x % (z * 2) then x % (z * 2) - z else x % (z * 2)) ∧ x / z = x / (z * 2) * 2 + (if z ≤ x % (z * 2) then 1 else 0) := by
  have h0 := Nat.div_add_mod x (z * 2)
  have h1 := Nat.mod_lt x (show 0 < z * 2 by omega)
  generalize x % (z * 2) = m at *
  generalize x / (z * 2) = d at *
  have e : z * 2 * d = z * (d * 2) := by rw [Nat.mul_assoc, Nat.mul_comm 2 d]
  rw [e] at h0
  subst h0
  rw [Nat.add_comm, Nat.add_mul_mod_self_left, Nat.add_mul_div_left _ _ hz]
  split
  · rename_i h
    have : m = m - z + z * 1 := by omega
    refine ⟨?_, ?_⟩
    · rw [this, Nat.add_mul_mod_self_left, Nat.mod_eq_of_lt (by omega)]; omega
    · rw [this, Nat.add_mul_div_left _ _ hz, Nat.div_eq_of_lt (by omega)]; omega
  · rename_i h
    rw [Nat.mod_eq_of_lt (by omega), Nat.div_eq_of_lt (by omega)]; simp
theorem lt_bl {n b : Nat} (h : bl n ≤ b) : n < 2 ^ b := by
  unfold bl at h
  split at h
  · subst n; exact Nat.pow_pos (by decide)
  · rename_i h0
    exact Nat.lt_of_lt_of_le (Nat.lt_log2_self (n := n)) (Nat.pow_le_pow_right (by decide) h)
theorem bl_le_of_lt {n b : Nat} (h : n < 2 ^ b) : bl n ≤ b := by
  unfold bl
  split
  · omega
  · rename_i h0
    exact (Nat.log2_lt h0).2 h
theorem pow_le_bl {n : Nat} (h : n ≠ 0) : 2 ^ (bl n - 1) ≤ n := by
  unfold bl; rw [if_neg h, Nat.add_sub_cancel]; exact Nat.log2_self_le h
theorem bl_pos {n : Nat} (h : n ≠ 0) : 0 < bl n := by unfold bl; rw [if_neg h]; omega
theorem bl_top {x e : Nat} (he : e = 8) (hx : x < top) : bl x ≤ 512 := by
  rw [top_k he] at hx
  have := bl_le_of_lt hx
  omega
def partR (x y : Nat) (i : Int) : Nat := x % (y * 2 ^ (i + 1).toNat)
def partQ (x y : Nat) (i : Int) : Nat := x / (y * 2 ^ (i + 1).toNat) * 2 ^ (i + 1).toNat
theorem partR_lt {x y : Nat} {i : Int} (hx : x < top) : partR x y i < top := Nat.lt_of_le_of_lt (Nat.mod_le ..) hx
theorem partQ_le {x y : Nat} {i : Int} (hy : y ≠ 0) : partQ x y i ≤ x := by
  unfold partQ
  have h1 := Nat.div_mul_le_self x (y * 2 ^ (i + 1).toNat)
  generalize x / (y * 2 ^ (i + 1).toNat) = d at *
  generalize 2 ^ (i + 1).toNat = P at *
  refine Nat.le_trans (Nat.mul_le_mul_left d ?_) h1
  exact Nat.le_mul_of_pos_left P (Nat.pos_of_ne_zero hy)
theorem part_small {x y : Nat} {i : Int} (hy : y ≠ 0) (hi : i = (bl x : Int) - (bl y : Int)) : x < y * 2 ^ (i + 1).toNat ∨ (i + 1).toNat = 0 := by
  rcases Int.lt_or_le (i + 1) 0 with h | h
  · right; omega
  · left
    have h1 : x < 2 ^ bl x := lt_bl (Nat.le_refl _)
    have h2 := pow_le_bl hy
    have h3 := bl_pos hy
    have e : bl x = (bl y - 1) + (i + 1).toNat := by omega
    rw [e, Nat.pow_add] at h1
    exact Nat.lt_of_lt_of_le h1 (Nat.mul_le_mul_right _ h2)
theorem part_lt {x y : Nat} {i : Int} (h : i = (bl x : Int) - (bl y : Int)) (hi : i < 0) : x < y := by
  rcases Nat.lt_or_ge x y with h' | h'
  · exact h'
  · have h1 : bl y ≤ bl x := bl_le_of_lt (Nat.lt_of_le_of_lt h' (lt_bl (Nat.le_refl _)))
    omega
theorem partR_start {x y : Nat} {i : Int} (hy : y ≠ 0) (hi : i = (bl x : Int) - (bl y : Int)) : partR x y i = x := by
  unfold partR
  rcases part_small hy hi with h | h
  · exact Nat.mod_eq_of_lt h
  · rw [h, Nat.pow_zero, Nat.mul_one]
    rcases Int.lt_or_le i 0 with h0 | h0
    · exact Nat.mod_eq_of_lt (part_lt hi h0)
    · omega
theorem partQ_start {x y : Nat} {i : Int} (hy : y ≠ 0) (hi : i = (bl x : Int) - (bl y : Int)) : partQ x y i = 0 := by
  unfold partQ
  rcases part_small hy hi with h | h
  · rw [Nat.div_eq_of_lt h, Nat.zero_mul]
  · rw [h, Nat.pow_zero, Nat.mul_one, Nat.mul_one]
    rcases Int.lt_or_le i 0 with h0 | h0
    · exact Nat.div_eq_of_lt (part_lt hi h0)
    · omega
theorem partR_end {x y : Nat} {i : Int} (h : i < 0) : partR x y i = x % y := by
  unfold partR; rw [show (i + 1).toNat = 0 by omega, Nat.pow_zero, Nat.mul_one]
theorem partQ_end {x y : Nat} {i : Int} (h : i < 0) : partQ x y i = x / y := by
  unfold partQ; rw [show (i + 1).toNat = 0 by omega, Nat.pow_zero, Nat.mul_one, Nat.mul_one]
theorem partR_j {x y j : Nat} : partR x y (j : Int) = x % (y * 2 ^ j * 2) := by
  unfold partR; rw [show ((j : Int) + 1).toNat = j + 1 by omega, Nat.pow_succ, Nat.mul_assoc]
theorem partR_p {x y j : Nat} : partR x y ((j : Int) - 1) = x % (y * 2 ^ j) := by
  unfold partR; rw [show ((j : Int) - 1 + 1).toNat = j by omega]
theorem partQ_j {x y j : Nat} : partQ x y (j : Int) = x / (y * 2 ^ j * 2) * (2 ^ j * 2) := by
  unfold partQ; rw [show ((j : Int) + 1).toNat = j + 1 by omega, Nat.pow_succ, Nat.mul_assoc]
theorem partQ_p {x y j : Nat} : partQ x y ((j : Int) - 1) = x / (y * 2 ^ j) * 2 ^ j := by
  unfold partQ; rw [show ((j : Int) - 1 + 1).toNat = j by omega]
theorem part_up {x y j : Nat} (hx : x < top) (hy : y ≠ 0) (h : (j : Int) ≤ (bl x : Int) - (bl y : Int)) : y * 2 ^ j < top := by
  have hx0 : x ≠ 0 := by
    intro h0
    have := bl_pos hy
    rw [h0, bl_zero] at h; omega
  have h1 : y < 2 ^ bl y := lt_bl (Nat.le_refl _)
  have h2 : 2 ^ (bl y + j) ≤ 2 ^ bl x := Nat.pow_le_pow_right (by decide) (by omega)
  have h3 := pow_le_bl hx0
  have h4 := bl_pos hx0
  rcases Nat.lt_or_ge (y * 2 ^ j) top with h5 | h5
  · exact h5
  · exfalso
    -- y 2^j < 2^(bl x), and 2^(bl x) is at most top
    have h6 : y * 2 ^ j < 2 ^ bl x := Nat.lt_of_lt_of_le (by rw [Nat.pow_add]; exact Nat.mul_lt_mul_of_pos_right h1 (Nat.pow_pos (by decide))) h2
    have h7 : 2 ^ bl x ≤ top := by
      obtain ⟨e, he⟩ : ∃ e, e = 8 := ⟨_, rfl⟩
      have h8 := bl_top he hx
      rw [top_k he]
      exact Nat.pow_le_pow_right (by decide) (by omega)
    omega
theorem part_r1 {x y j : Nat} (hy : y ≠ 0) (hu : y * 2 ^ j < top) (h : y * 2 ^ j % top ≤ partR x y (j : Int)) : partR x y (j : Int) - y * 2 ^ j % top = partR x y ((j : Int) - 1) := by
  rw [Nat.mod_eq_of_lt hu, partR_j] at h
  rw [Nat.mod_eq_of_lt hu, partR_j, partR_p, (div_step2 x (y * 2 ^ j) (Nat.mul_pos (Nat.pos_of_ne_zero hy) (Nat.pow_pos (by decide)))).1, if_pos h]
theorem part_r0 {x y j : Nat} (hy : y ≠ 0) (hu : y * 2 ^ j < top) (h : ¬ y * 2 ^ j % top ≤ partR x y (j : Int)) : partR x y (j : Int) = partR x y ((j : Int) - 1) := by
  rw [Nat.mod_eq_of_lt hu, partR_j] at h
  rw [partR_j, partR_p, (div_step2 x (y * 2 ^ j) (Nat.mul_pos (Nat.pos_of_ne_zero hy) (Nat.pow_pos (by decide)))).1, if_neg h]
theorem part_q0 {x y j : Nat} (hy : y ≠ 0) (hu : y * 2 ^ j < top) (h : ¬ y * 2 ^ j % top ≤ partR x y (j : Int)) : partQ x y (j : Int) = partQ x y ((j : Int) - 1) := by
  rw [Nat.mod_eq_of_lt hu, partR_j] at h
  rw [partQ_j, partQ_p, (div_step2 x (y * 2 ^ j) (Nat.mul_pos (Nat.pos_of_ne_zero hy) (Nat.pow_pos (by decide)))).2, if_neg h, Nat.add_zero, Nat.mul_comm (2 ^ j) 2, ← Nat.mul_assoc (x / _)]
theorem part_q1' {x y j : Nat} (hy : y ≠ 0) (hu : y * 2 ^ j < top) (h : y * 2 ^ j % top ≤ partR x y (j : Int)) : partQ x y (j : Int) + 2 ^ j = partQ x y ((j : Int) - 1) := by
  rw [Nat.mod_eq_of_lt hu, partR_j] at h
  rw [partQ_j, partQ_p, (div_step2 x (y * 2 ^ j) (Nat.mul_pos (Nat.pos_of_ne_zero hy) (Nat.pow_pos (by decide)))).2, if_pos h, Nat.add_mul, Nat.one_mul, Nat.mul_comm (2 ^ j) 2, ← Nat.mul_assoc (x / _)]
/-- The word at the place of bit j ends in noughts up to that bit. -/
theorem wd_mul_pow {c j : Nat} : wd (c * (2 ^ j * 2)) (j / 64) % 2 ^ (j % 64 + 1) = 0 := by
  unfold wd
  have e : 2 ^ j * 2 = 2 ^ (64 * (j / 64)) * 2 ^ (j % 64 + 1) := by
    rw [← Nat.pow_succ, ← Nat.pow_add]; congr 1; omega
  rw [e, Nat.mul_comm c, Nat.mul_assoc, Nat.mul_div_cancel_left _ (pow64_pos _)]
  have e2 : 2 ^ 64 = 2 ^ (j % 64 + 1) * 2 ^ (64 - (j % 64 + 1)) := by rw [← Nat.pow_add]; congr 1; omega
  rw [e2, Nat.mod_mul_right_mod]
  exact Nat.mul_mod_right _ _
theorem shl_one {r : Nat} (hr : r < 64) : IntKind.u64.wrap ((1 : Int) * (2 ^ (min ((r : Nat) : Int).toNat IntKind.u64.bits))) = ((2 ^ r : Nat) : Int) := by
  have := shl_n (w := 1) hr
  rw [show ((1 : Nat) : Int) = (1 : Int) from rfl] at this
  rw [this, Nat.one_mul, Nat.mod_eq_of_lt]
  exact Nat.pow_lt_pow_right (by decide) hr
theorem part_bit {Q c j : Nat} (hj : j < 512) (hQ : Q = c * (2 ^ j * 2)) :
    (ofN Q).set (IntKind.i64.wrap ((j : Int).tdiv 64)).toNat (bits .or .u64 ((ofN Q).getD (IntKind.i64.wrap ((j : Int).tdiv 64)).toNat 0) (IntKind.u64.wrap ((1 : Int) * (2 ^ (min ((j : Int).tmod 64).toNat IntKind.u64.bits))))) = ofN (Q + 2 ^ j) := by
  have hz := wd_mul_pow (c := c) (j := j)
  rw [← hQ] at hz
  have hw := wd_lt Q (j / 64)
  have hlt : 2 ^ (j % 64) < 2 ^ (j % 64 + 1) := Nat.pow_lt_pow_right (by decide) (by omega)
  have hs : wd Q (j / 64) + 2 ^ (j % 64) < 18446744073709551616 := by
    have e2 : 18446744073709551616 = 2 ^ (j % 64 + 1) * 2 ^ (64 - (j % 64 + 1)) := by
      rw [← Nat.pow_add, show j % 64 + 1 + (64 - (j % 64 + 1)) = 64 by omega]
    obtain ⟨d, hd⟩ := Nat.dvd_of_mod_eq_zero hz
    rw [hd] at hw ⊢
    generalize 2 ^ (j % 64 + 1) = P at *
    rw [e2] at hw ⊢
    have := Nat.lt_of_mul_lt_mul_left hw
    have := Nat.mul_le_mul_left P this
    rw [Nat.mul_succ] at this
    omega
  rw [wq (by omega), tm_n, Int.toNat_natCast (j / 64), get_ofW (by omega), shl_one (by omega), or_n (r := j % 64 + 1) (by omega) hw hz hlt, set_put (by omega) hs]
  congr 1
  have := put_val Q (j / 64) (wd Q (j / 64) + 2 ^ (j % 64))
  have e : 2 ^ (j % 64) * 2 ^ (64 * (j / 64)) = 2 ^ j := by rw [← Nat.pow_add]; congr 1; omega
  rw [Nat.add_mul, e] at this
  omega
theorem part_q1 {x y j : Nat} (hj : j < 512) (hy : y ≠ 0) (hu : y * 2 ^ j < top) (h : y * 2 ^ j % top ≤ partR x y (j : Int)) :
    (ofN (partQ x y (j : Int))).set (IntKind.i64.wrap ((j : Int).tdiv 64)).toNat (bits .or .u64 ((ofN (partQ x y (j : Int))).getD (IntKind.i64.wrap ((j : Int).tdiv 64)).toNat 0) (IntKind.u64.wrap ((1 : Int) * (2 ^ (min ((j : Int).tmod 64).toNat IntKind.u64.bits))))) = ofN (partQ x y ((j : Int) - 1)) := by
  rw [part_bit hj partQ_j, part_q1' hy hu h]
theorem iz_eq0 {m : Bool} {y : Nat} : iz m y = 0 ↔ y = 0 := by cases m <;> simp [iz] 
theorem y_ne0 {m : Bool} {y : Nat} {b : Int} (hb : iz m y = b) (h : b ≠ 0) : y ≠ 0 := fun e => h (by rw [← hb]; exact iz_eq0.2 e)
theorem div_y0 {m : Bool} {y : Nat} {b : Int} (hy : y < top) (hb : iz m y = b) (h : b ≠ 0) : (ofN y == z8) = false := by
  rw [ofN_beq_z8 hy]; simpa using y_ne0 hb h
theorem div_y1 {m : Bool} {y : Nat} {b : Int} (hb : iz m y = b) (h : b = 0) : (ofN y == z8) = true := by
  have : y = 0 := iz_eq0.1 (hb.trans h)
  subst this
  rw [ofN_beq_z8 top_pos]; rfl
theorem div_iz {n m : Bool} {x y : Nat} {a b : Int} (ha : iz n x = a) (hb : iz m y = b) : iz (!(n == m)) (x / y) = a.tdiv b := by
  subst ha; subst hb
  cases n <;> cases m <;> simp [iz, Int.neg_tdiv, Int.tdiv_neg] <;> rfl
theorem mod_iz {n m : Bool} {x y : Nat} {a b : Int} (ha : iz n x = a) (hb : iz m y = b) : iz n (x % y) = a.tmod b := by
  subst ha; subst hb
  cases n <;> cases m <;> simp [iz, Int.neg_tmod, Int.tmod_neg] <;> rfl
theorem gcd_iz {n m : Bool} {x y : Nat} {a b : Int} (ha : iz n x = a) (hb : iz m y = b) : iz false (Nat.gcd x y) = ((Int.gcd a b : Nat) : Int) := by
  subst ha; subst hb
  show ((Nat.gcd x y : Nat) : Int) = ((Nat.gcd (iz n x).natAbs (iz m y).natAbs : Nat) : Int)
  rw [iz_abs, iz_abs]
theorem gcd_lt {x y : Nat} (hx : x < top) (hy : y < top) : Nat.gcd x y < top := by
  rcases Nat.eq_zero_or_pos x with h | h
  · rw [h, Nat.gcd_zero_left]; exact hy
  · exact Nat.lt_of_le_of_lt (Nat.gcd_le_left _ h) hx
/-! ### Products -/
def mIn (xi y i S0 D0 : Nat) : Nat → Nat × Nat × Nat
  | 0 => (S0, 0, D0)
  | k + 1 =>
    let s := mIn xi y i S0 D0 k
    let t := xi * wd y k + s.2.1
    if i + k < 8 then (put s.1 (i + k) ((t + wd s.1 (i + k)) % 18446744073709551616), (t + wd s.1 (i + k)) / 18446744073709551616, s.2.2)
    else (s.1, 0, s.2.2 + t * 2 ^ (64 * (i + k - 8)))
theorem mul_stepA {m c w B v d P S' S X R M : Nat} (hdm : m + c + w = v + B * d) (hpv : S' + w * P = S + v * P) (h4 : S + c * P + X = R + M) : S' + d * (P * B) + X = R + (M + m * P) := by
  have h : (m + c + w) * P = (v + B * d) * P := by rw [hdm]
  have e : d * (P * B) = P * d * B := by rw [Nat.mul_comm P d, Nat.mul_assoc]
  have e2 : B * d * P = P * d * B := by rw [Nat.mul_comm B d, Nat.mul_comm P d, Nat.mul_right_comm]
  have h' : m * P + c * P + w * P = v * P + B * d * P := by rw [← Nat.add_mul, ← Nat.add_mul, ← Nat.add_mul, hdm]
  omega
theorem mul_stepB {m c Q T D S R M X : Nat} (h4 : S + c * (Q * T) + D * T = R + M) : S + 0 * X + (D + (m + c) * Q) * T = R + (M + m * (Q * T)) := by
  rw [Nat.zero_mul, Nat.add_mul D, Nat.mul_assoc (m + c), Nat.add_mul m c]
  omega
theorem mIn_inv' {T xi y i S0 D0 e : Nat} (he : e = 8) (hT : T = 2 ^ (64 * e)) (hxi : xi < 18446744073709551616) (hS0 : S0 < T) (hi : i < 8) : ∀ k, k ≤ 8 →
    (mIn xi y i S0 D0 k).1 < T ∧ (mIn xi y i S0 D0 k).2.1 < 18446744073709551616 ∧ (8 < i + k → (mIn xi y i S0 D0 k).2.1 = 0) ∧
      (mIn xi y i S0 D0 k).1 + (mIn xi y i S0 D0 k).2.1 * 2 ^ (64 * (i + k)) + (mIn xi y i S0 D0 k).2.2 * T = S0 + D0 * T + xi * (y % 2 ^ (64 * k)) * 2 ^ (64 * i)
  | 0, _ => by
    refine ⟨hS0, by show 0 < _; omega, fun _ => rfl, ?_⟩
    simp [mIn, Nat.mod_one]
  | k + 1, hk => by
    obtain ⟨h1, h2, h3, h4⟩ := mIn_inv' (y := y) (D0 := D0) he hT hxi hS0 hi k (by omega)
    generalize hs : mIn xi y i S0 D0 k = s at h1 h2 h3 h4
    obtain ⟨S, c, D⟩ := s
    dsimp only at h1 h2 h3 h4
    have hm := mod_next y k
    have hw := wd_lt y k
    have hp : 2 ^ (64 * (i + k)) = 2 ^ (64 * k) * 2 ^ (64 * i) := by rw [← Nat.pow_add]; congr 1; omega
    have e1 : xi * (y % 2 ^ (64 * (k + 1))) * 2 ^ (64 * i) = xi * (y % 2 ^ (64 * k)) * 2 ^ (64 * i) + xi * wd y k * 2 ^ (64 * (i + k)) := by
      rw [hm, Nat.mul_add, Nat.add_mul, hp, Nat.mul_comm (2 ^ (64 * k)) (wd y k)]
      simp only [Nat.mul_assoc]
    have hxw : xi * wd y k ≤ 18446744073709551615 * 18446744073709551615 := Nat.mul_le_mul (by omega) (by omega)
    have hsw := wd_lt S (i + k)
    have hq : 2 ^ (64 * (i + (k + 1))) = 2 ^ (64 * (i + k)) * 18446744073709551616 := pow64 (i + k)
    rw [e1, hq]
    by_cases hik : i + k < 8
    · have hst : mIn xi y i S0 D0 (k + 1) = (put S (i + k) ((xi * wd y k + c + wd S (i + k)) % 18446744073709551616), (xi * wd y k + c + wd S (i + k)) / 18446744073709551616, D) := by
        simp only [mIn, hs, hik, if_true]
      rw [hst]
      have hpl : put S (i + k) ((xi * wd y k + c + wd S (i + k)) % 18446744073709551616) < T := by
        rw [hT]; rw [hT] at h1; exact put_lt' (by omega) h1 (Nat.mod_lt _ (by decide))
      have hc : (xi * wd y k + c + wd S (i + k)) / 18446744073709551616 < 18446744073709551616 := by
        generalize xi * wd y k = m at *
        omega
      exact ⟨hpl, hc, fun h => by omega, mul_stepA (Nat.mod_add_div ..).symm (put_val ..) h4⟩
    · have hst : mIn xi y i S0 D0 (k + 1) = (S, 0, D + (xi * wd y k + c) * 2 ^ (64 * (i + k - 8))) := by
        simp only [mIn, hs, hik, if_false]
      rw [hst]
      have hP : 2 ^ (64 * (i + k)) = 2 ^ (64 * (i + k - 8)) * T := by
        rw [hT, show 64 * (i + k) = 64 * (i + k - 8) + 64 * e by omega, Nat.pow_add]
      rw [hP] at h4 ⊢
      exact ⟨h1, Nat.zero_lt_succ _, fun _ => rfl, mul_stepB h4⟩
def mOut (x y : Nat) : Nat → Nat × Nat
  | 0 => (0, 0)
  | i + 1 => ((mIn (wd x i) y i (mOut x y i).1 (mOut x y i).2 8).1, (mIn (wd x i) y i (mOut x y i).1 (mOut x y i).2 8).2.2 + (mIn (wd x i) y i (mOut x y i).1 (mOut x y i).2 8).2.1 * 2 ^ (64 * i))
theorem mOut_inv' {T x y e : Nat} (he : e = 8) (hT : T = 2 ^ (64 * e)) (hy : y < T) : ∀ i, i ≤ 8 → (mOut x y i).1 < T ∧ (mOut x y i).1 + (mOut x y i).2 * T = x % 2 ^ (64 * i) * y
  | 0, _ => ⟨by show 0 < T; omega, by simp [mOut, Nat.mod_one]⟩
  | i + 1, hi => by
    obtain ⟨h1, h2⟩ := mOut_inv' (x := x) he hT hy i (by omega)
    obtain ⟨g1, g2, g3, g4⟩ := mIn_inv' (y := y) (D0 := (mOut x y i).2) he hT (wd_lt x i) h1 (show i < 8 by omega) 8 (by omega)
    show (mIn (wd x i) y i (mOut x y i).1 (mOut x y i).2 8).1 < T ∧ (mIn (wd x i) y i (mOut x y i).1 (mOut x y i).2 8).1 + ((mIn (wd x i) y i (mOut x y i).1 (mOut x y i).2 8).2.2 + (mIn (wd x i) y i (mOut x y i).1 (mOut x y i).2 8).2.1 * 2 ^ (64 * i)) * T = x % 2 ^ (64 * (i + 1)) * y
    generalize mIn (wd x i) y i (mOut x y i).1 (mOut x y i).2 8 = s at *
    refine ⟨g1, ?_⟩
    have hP : 2 ^ (64 * (i + e)) = 2 ^ (64 * i) * T := by rw [hT, ← Nat.pow_add]; congr 1; omega
    rw [← he, hP, ← hT, Nat.mod_eq_of_lt hy, h2] at g4
    have e3 : (x % 2 ^ (64 * i) + 2 ^ (64 * i) * wd x i) * y = x % 2 ^ (64 * i) * y + wd x i * y * 2 ^ (64 * i) := by
      rw [Nat.add_mul, Nat.mul_comm (2 ^ (64 * i)), Nat.mul_right_comm]
    rw [mod_next, Nat.add_mul s.2.2, Nat.mul_assoc s.2.1, e3]
    omega
theorem mOut_inv {x y e : Nat} (he : e = 8) (hx : x < top) (hy : y < top) : (mOut x y e).1 = x * y % top ∧ ((mOut x y e).2 = 0 ↔ x * y < top) := by
  have hT : top = 2 ^ (64 * e) := top_k he
  obtain ⟨h1, h2⟩ := mOut_inv' (x := x) he hT hy e (by omega)
  rw [← hT, Nat.mod_eq_of_lt hx] at h2
  generalize mOut x y e = s at *
  have hp := top_pos
  generalize top = T at *
  rw [← h2]
  constructor
  · rw [Nat.mul_comm s.2, Nat.add_mul_mod_self_left, Nat.mod_eq_of_lt h1]
  · constructor
    · intro h; rw [h]; omega
    · intro h
      rcases Nat.eq_zero_or_pos s.2 with h0 | h0
      · exact h0
      · have := Nat.mul_le_mul_right T h0; omega
theorem mul_lo {m c w : Nat} : ((w : Int) + (((m : Int) % 18446744073709551616 + (c : Int) + 0) % 18446744073709551616) + 0) % 18446744073709551616 = (((m + c + w) % 18446744073709551616 : Nat) : Int) := by omega
theorem mul_hi {m c w : Nat} (hm : m ≤ 18446744073709551615 * 18446744073709551615) (hc : c < 18446744073709551616) (hw : w < 18446744073709551616) :
    IntKind.u64.wrap (IntKind.u64.wrap ((m : Int) / 18446744073709551616 + ((m : Int) % 18446744073709551616 + (c : Int) + 0) / 18446744073709551616) + ((w : Int) + (((m : Int) % 18446744073709551616 + (c : Int) + 0) % 18446744073709551616) + 0) / 18446744073709551616) = (((m + c + w) / 18446744073709551616 : Nat) : Int) := by
  rw [u64_def, u64_def]; omega
def mI (x y i k : Nat) : Nat × Nat × Nat := mIn (wd x i) y i (mOut x y i).1 (mOut x y i).2 k
theorem mI_inv {x y i k e : Nat} (he : e = 8) (hy : y < top) (hi : i < 8) (hk : k ≤ 8) : (mI x y i k).1 < top ∧ (mI x y i k).2.1 < 18446744073709551616 ∧ (8 < i + k → (mI x y i k).2.1 = 0) := by
  have hT : top = 2 ^ (64 * e) := top_k he
  have h1 := (mOut_inv' (x := x) he hT hy i (by omega)).1
  have h2 := mIn_inv' (y := y) (D0 := (mOut x y i).2) he hT (wd_lt x i) h1 hi k hk
  exact ⟨h2.1, h2.2.1, h2.2.2.1⟩
theorem mI_zero (x y i : Nat) : mI x y i 0 = ((mOut x y i).1, 0, (mOut x y i).2) := rfl
theorem mI_lo {x y i k : Nat} (h : i + k < 8) : mI x y i (k + 1) = (put (mI x y i k).1 (i + k) ((wd x i * wd y k + (mI x y i k).2.1 + wd (mI x y i k).1 (i + k)) % 18446744073709551616), (wd x i * wd y k + (mI x y i k).2.1 + wd (mI x y i k).1 (i + k)) / 18446744073709551616, (mI x y i k).2.2) := by
  simp only [mI, mIn, h, if_true]
theorem mI_hi {x y i k : Nat} (h : ¬ i + k < 8) : mI x y i (k + 1) = ((mI x y i k).1, 0, (mI x y i k).2.2 + (wd x i * wd y k + (mI x y i k).2.1) * 2 ^ (64 * (i + k - 8))) := by
  simp only [mI, mIn, h, if_false]
theorem mI_lo_S {x y i k : Nat} (h : i + k < 8) : (mI x y i (k + 1)).1 = put (mI x y i k).1 (i + k) ((wd x i * wd y k + (mI x y i k).2.1 + wd (mI x y i k).1 (i + k)) % 18446744073709551616) := by rw [mI_lo h]
theorem mI_lo_c {x y i k : Nat} (h : i + k < 8) : (mI x y i (k + 1)).2.1 = (wd x i * wd y k + (mI x y i k).2.1 + wd (mI x y i k).1 (i + k)) / 18446744073709551616 := by rw [mI_lo h]
theorem mI_lo_D {x y i k : Nat} (h : i + k < 8) : (mI x y i (k + 1)).2.2 = (mI x y i k).2.2 := by rw [mI_lo h]
theorem mI_hi_S {x y i k : Nat} (h : ¬ i + k < 8) : (mI x y i (k + 1)).1 = (mI x y i k).1 := by rw [mI_hi h]
theorem mI_hi_c {x y i k : Nat} (h : ¬ i + k < 8) : (mI x y i (k + 1)).2.1 = 0 := by rw [mI_hi h]
theorem mOut_succ (x y i : Nat) : mOut x y (i + 1) = ((mI x y i 8).1, (mI x y i 8).2.2 + (mI x y i 8).2.1 * 2 ^ (64 * i)) := rfl
theorem mul_abs {n m : Bool} {x y : Nat} {a b : Int} (ha : iz n x = a) (hb : iz m y = b) : (a * b).natAbs = x * y := by
  rw [← ha, ← hb, Int.natAbs_mul, iz_abs, iz_abs]
theorem mul_izv {n m : Bool} {x y : Nat} {a b : Int} (ha : iz n x = a) (hb : iz m y = b) : iz (!(n == m)) (x * y) = a * b := by
  subst ha; subst hb
  cases n <;> cases m <;> simp [iz, Int.neg_mul, Int.mul_neg]
theorem mul_fits {n m : Bool} {x y : Nat} {a b : Int} {e : Nat} (ha : iz n x = a) (hb : iz m y = b) (hx : x < top) (hy : y < top) (hab : (a * b).natAbs < top) (he : e = 8 := by rfl) : (mOut x y e).2 = 0 := by
  rw [mul_abs ha hb] at hab; exact (mOut_inv he hx hy).2.2 hab
theorem mul_fits_no {n m : Bool} {x y : Nat} {a b : Int} {e : Nat} (ha : iz n x = a) (hb : iz m y = b) (hx : x < top) (hy : y < top) (hab : ¬ (a * b).natAbs < top) (he : e = 8 := by rfl) : ¬ (mOut x y e).2 = 0 := by
  rw [mul_abs ha hb] at hab; exact fun h => hab ((mOut_inv he hx hy).2.1 h)
theorem mul_iz {n m : Bool} {x y : Nat} {a b : Int} {e : Nat} (ha : iz n x = a) (hb : iz m y = b) (hx : x < top) (hy : y < top) (hab : (a * b).natAbs < top) (he : e = 8 := by rfl) : iz (!(n == m)) (mOut x y e).1 = a * b := by
  rw [(mOut_inv he hx hy).1]
  rw [mul_abs ha hb] at hab
  rw [Nat.mod_eq_of_lt hab, mul_izv ha hb]
theorem zero_iff_pow {a D e : Nat} : D + a * 2 ^ e = 0 ↔ D = 0 ∧ a = 0 := by
  have hp : 0 < 2 ^ e := Nat.pow_pos (by decide)
  constructor
  · intro h
    have h1 : a * 2 ^ e = 0 := by omega
    rcases Nat.mul_eq_zero.1 h1 with h2 | h2
    · exact ⟨by omega, h2⟩
    · omega
  · rintro ⟨h1, h2⟩; rw [h1, h2, Nat.zero_mul]
theorem mul_okhi {x y i k : Nat} (h : ¬ i + k < 8) : decide ((mI x y i (k + 1)).2.2 = 0) = (decide ((mI x y i k).2.2 = 0) && (((wd x i * wd y k : Nat) : Int) / 18446744073709551616 == 0) && (((wd x i * wd y k : Nat) : Int) % 18446744073709551616 == 0) && (((mI x y i k).2.1 : Int) == 0)) := by
  rw [mI_hi h]
  generalize wd x i * wd y k = m
  generalize mI x y i k = s
  rw [Bool.eq_iff_iff]
  simp only [zero_iff_pow, Bool.and_eq_true, decide_eq_true_eq, beq_iff_eq]
  omega
theorem mul_okout {x y i : Nat} : decide ((mOut x y (i + 1)).2 = 0) = (decide ((mI x y i 8).2.2 = 0) && (((mI x y i 8).2.1 : Int) == 0)) := by
  rw [mOut_succ]
  generalize mI x y i 8 = s
  rw [Bool.eq_iff_iff]
  simp only [zero_iff_pow, Bool.and_eq_true, decide_eq_true_eq, beq_iff_eq]
  omega
end Go.Proofs.Ytbbakacfhajohaa.Av

/- Plain mathematics: two's complement, shifts of numbers, decimal digits. -/
import Derived.Test.YtbbakacfhajohaaMaC
import Derived.Laws.BitsAllLaws
namespace Go.Proofs.Ytbbakacfhajohaa.Av
set_option linter.unusedVariables false

/-! ### Nine words -/
theorem get_ofW9 (n : Nat) {k : Nat} (h : k < 9) : (ofW 9 n).getD (k : Int).toNat 0 = ((wd n k : Nat) : Int) := by rw [Int.toNat_natCast, get_ofW h]
theorem get9_nonneg (n j : Nat) : 0 ≤ (ofW 9 n).getD j 0 := by
  rw [List.getD_eq_getElem?_getD]
  cases h : (ofW 9 n)[j]? with
  | none => simp
  | some x =>
    simp only [ofW, List.getElem?_map, Option.map_eq_some_iff] at h
    obtain ⟨i, _, rfl⟩ := h
    simp
theorem get9_lt (n j : Nat) : (ofW 9 n).getD j 0 < 18446744073709551616 := by
  rw [List.getD_eq_getElem?_getD]
  cases h : (ofW 9 n)[j]? with
  | none => simp
  | some x =>
    simp only [ofW, List.getElem?_map, Option.map_eq_some_iff] at h
    obtain ⟨i, _, rfl⟩ := h
    have := wd_lt n i
    simp; omega
theorem ext9 {x e : Nat} (he : e = 8) (hx : x < top) : ofN x ++ z9.drop 8 = ofW 9 x := by
  have h8 : wd x 8 = 0 := wd_top he hx 8 (Nat.le_refl _)
  show (List.range 8).map (fun i => ((wd x i : Nat) : Int)) ++ [0] = (List.range (8 + 1)).map (fun i => ((wd x i : Nat) : Int))
  rw [List.range_succ (n := 8), List.map_append, List.map_singleton, h8]; rfl
theorem take8 (v : Nat) : (ofW 9 v).take 8 = ofN v := by
  show ((List.range (8 + 1)).map (fun i => ((wd v i : Nat) : Int))).take 8 = (List.range 8).map (fun i => ((wd v i : Nat) : Int))
  rw [List.range_succ (n := 8), List.map_append, List.take_left' (by simp)]
def p9 : Nat := pw 9
theorem p9_k {k : Nat} (h : k = 9) : p9 = 2 ^ (64 * k) := by rw [← pw_def, h]; rfl
theorem p9_pos : 0 < p9 := pw_pos 9
theorem top_le_p9 : 2 * top ≤ p9 := by
  obtain ⟨e, he⟩ : ∃ e, e = 8 := ⟨_, rfl⟩
  rw [top_k he, p9_k (k := e + 1) (by omega), pow64]
  have := pow64_pos e
  generalize 2 ^ (64 * e) = P at *
  omega
theorem compl_n {w : Nat} (h : w < 18446744073709551616) : bits .xor .u64 (if IntKind.u64.signed then -1 else IntKind.u64.max) ((w : Nat) : Int) = ((18446744073709551615 - w : Nat) : Int) := by
  rw [show (if IntKind.u64.signed then (-1 : Int) else IntKind.u64.max) = ((18446744073709551615 : Nat) : Int) from rfl, u64_xor_nat _ _ (by decide) h]
  congr 1
  have := BitVec.toNat_not (x := BitVec.ofNat 64 w)
  rw [← BitVec.allOnes_xor, BitVec.toNat_xor, BitVec.toNat_allOnes, BitVec.toNat_ofNat, Nat.mod_eq_of_lt (by omega)] at this
  omega
/-! ### The other sign -/
def tuT (v k : Nat) : Nat := (2 ^ (64 * k) - v % 2 ^ (64 * k)) % 2 ^ (64 * k)
def tuC (v k : Nat) : Nat := if v % 2 ^ (64 * k) = 0 then 1 else 0
theorem tuC_le (v k : Nat) : tuC v k ≤ 1 := by unfold tuC; split <;> omega
theorem tuT_lt (v k : Nat) : tuT v k < 2 ^ (64 * k) := Nat.mod_lt _ (pow64_pos k)
theorem tu_step (P m w B : Nat) (hP : 0 < P) (hm : m < P) (hw : w < B) (hB : 0 < B) :
    let c := if m = 0 then 1 else 0
    (P * B - (m + P * w)) % (P * B) = (P - m) % P + (B - 1 - w + c) % B * P ∧ (if m + P * w = 0 then 1 else 0) = (B - 1 - w + c) / B := by
  intro c
  have hPw : P * w + P ≤ P * B := by rw [← Nat.mul_succ]; exact Nat.mul_le_mul_left P hw
  by_cases h0 : m = 0
  · subst h0
    have hc : c = 1 := rfl
    rw [hc, Nat.sub_zero, Nat.mod_self, Nat.zero_add, Nat.zero_add]
    rcases Nat.eq_zero_or_pos w with hw0 | hw0
    · subst hw0
      rw [Nat.mul_zero, Nat.sub_zero, Nat.mod_self, Nat.sub_zero, Nat.sub_add_cancel hB, Nat.mod_self, Nat.div_self hB]; simp
    · have e : B - 1 - w + 1 = B - w := by omega
      have hne : ¬ P * w = 0 := by
        have := Nat.mul_pos hP hw0; omega
      rw [e, Nat.mod_eq_of_lt (show B - w < B by omega), Nat.div_eq_of_lt (by omega), if_neg hne, ← Nat.mul_sub, Nat.mod_eq_of_lt, Nat.mul_comm]
      · exact ⟨rfl, rfl⟩
      · exact Nat.mul_lt_mul_of_pos_left (by omega) hP
  · have hc : c = 0 := if_neg h0
    have hne : ¬ m + P * w = 0 := by omega
    rw [hc, Nat.add_zero, Nat.mod_eq_of_lt (show P - m < P by omega), Nat.mod_eq_of_lt (show B - 1 - w < B by omega), Nat.div_eq_of_lt (by omega), if_neg hne, Nat.mod_eq_of_lt (by omega)]
    refine ⟨?_, rfl⟩
    have e : (B - 1 - w) * P = P * B - P * w - P := by
      rw [Nat.sub_mul, Nat.sub_mul, Nat.one_mul, Nat.mul_comm B, Nat.mul_comm w]; omega
    rw [e]; omega
theorem tu_next (v k : Nat) : tuT v (k + 1) = tuT v k + (18446744073709551615 - wd v k + tuC v k) % 18446744073709551616 * 2 ^ (64 * k) ∧ tuC v (k + 1) = (18446744073709551615 - wd v k + tuC v k) / 18446744073709551616 := by
  have h := tu_step (2 ^ (64 * k)) (v % 2 ^ (64 * k)) (wd v k) 18446744073709551616 (pow64_pos k) (Nat.mod_lt _ (pow64_pos k)) (wd_lt v k) (by decide)
  have e := mod_next v k
  unfold tuT tuC
  rw [e, pow64]
  exact h
theorem turn_c {v k : Nat} (hk : k < 9) : (bits .xor .u64 (if IntKind.u64.signed then -1 else IntKind.u64.max) ((ofW 9 v).getD (k : Int).toNat 0) + (0 : Int) + ((tuC v k : Nat) : Int)) / 18446744073709551616 = ((tuC v (k + 1) : Nat) : Int) := by
  rw [get_ofW9 v hk, compl_n (wd_lt v k), (tu_next v k).2]; omega
theorem turn_s {v k : Nat} (hk : k < 9) : (ofW 9 (tuT v k)).set (k : Int).toNat ((bits .xor .u64 (if IntKind.u64.signed then -1 else IntKind.u64.max) ((ofW 9 v).getD (k : Int).toNat 0) + (0 : Int) + ((tuC v k : Nat) : Int)) % 18446744073709551616) = ofW 9 (tuT v (k + 1)) := by
  rw [get_ofW9 v hk, compl_n (wd_lt v k), (tu_next v k).1, Int.toNat_natCast]
  rw [← set_ofW hk (tuT_lt v k) (Nat.mod_lt _ (by decide))]
  congr 1
theorem compl_nonneg {v k : Nat} (hk : k < 9) : 0 ≤ bits .xor .u64 (if IntKind.u64.signed then -1 else IntKind.u64.max) ((ofW 9 v).getD (k : Int).toNat 0) := by
  rw [get_ofW9 v hk, compl_n (wd_lt v k)]; omega
theorem turn_start (v : Nat) : z9 = ofW 9 (tuT v 0) := by rw [z9_eq]; simp [tuT, Nat.mod_one]
theorem turn_start_c (v : Nat) : tuC v 0 = 1 := by simp [tuC, Nat.mod_one]
/-- A nine-word number with the other sign. -/
def tn (v : Nat) : Nat := (p9 - v) % p9
theorem turn_end {v k : Nat} (hk : k = 9) (hv : v < p9) : tuT v k = tn v := by
  unfold tuT tn
  rw [p9_k hk] at hv ⊢
  rw [Nat.mod_eq_of_lt hv]
theorem tn_lt (v : Nat) : tn v < p9 := Nat.mod_lt _ p9_pos
/-- A number in nine words. -/
def e9 (n : Bool) (x : Nat) : Nat := bif n then tn x else x
theorem e9_lt {n : Bool} {x : Nat} (hx : x < top) : e9 n x < p9 := by
  have := top_le_p9
  cases n
  · show x < p9; omega
  · exact tn_lt x
/-- What nine words stand for. -/
def jz (v : Nat) : Int := if p9 ≤ 2 * v then (v : Int) - (p9 : Int) else v
theorem high_bit {v : Nat} (hv : v < p9) : (((ofW 9 v).getD (8 : Int).toNat 0).fdiv (9223372036854775808 : Int) == (1 : Int)) = decide (p9 ≤ 2 * v) := by
  obtain ⟨k, hk⟩ : ∃ k, k = 8 := ⟨_, rfl⟩
  have h9 : p9 = 2 ^ (64 * k) * 18446744073709551616 := by rw [p9_k (k := k + 1) (by omega), pow64]
  have hg : (ofW 9 v).getD (8 : Int).toNat 0 = ((wd v k : Nat) : Int) := by rw [hk]; exact get_ofW9 v (by decide)
  rw [hg, fd63]
  have hw : wd v k = v / 2 ^ (64 * k) := by
    unfold wd
    apply Nat.mod_eq_of_lt
    rw [Nat.div_lt_iff_lt_mul (pow64_pos k), Nat.mul_comm]; rw [h9] at hv; exact hv
  rw [hw, h9]
  have hlt : v / 2 ^ (64 * k) < 18446744073709551616 := by rw [← hw]; exact wd_lt v k
  have hiff : 9223372036854775808 ≤ v / 2 ^ (64 * k) ↔ 2 ^ (64 * k) * 18446744073709551616 ≤ 2 * v := by
    rw [Nat.le_div_iff_mul_le (pow64_pos k)]
    generalize 2 ^ (64 * k) = P
    omega
  rw [Bool.eq_iff_iff, decide_eq_true_eq, ← hiff, beq_iff_eq]
  generalize v / 2 ^ (64 * k) = w at *
  omega
theorem word8 {v : Nat} (hv : v < p9) : ((ofW 9 v).getD (8 : Int).toNat 0 == (0 : Int)) = decide (v < top) := by
  obtain ⟨k, hk⟩ : ∃ k, k = 8 := ⟨_, rfl⟩
  have h9 : p9 = 2 ^ (64 * k) * 18446744073709551616 := by rw [p9_k (k := k + 1) (by omega), pow64]
  have hg : (ofW 9 v).getD (8 : Int).toNat 0 = ((wd v k : Nat) : Int) := by rw [hk]; exact get_ofW9 v (by decide)
  have hw : wd v k = v / 2 ^ (64 * k) := by
    unfold wd
    apply Nat.mod_eq_of_lt
    rw [Nat.div_lt_iff_lt_mul (pow64_pos k), Nat.mul_comm]; rw [h9] at hv; exact hv
  rw [hg, hw, top_k hk, Bool.eq_iff_iff, decide_eq_true_eq, beq_iff_eq]
  constructor
  · intro h
    rcases Nat.lt_or_ge v (2 ^ (64 * k)) with h' | h'
    · exact h'
    · have : 1 ≤ v / 2 ^ (64 * k) := (Nat.le_div_iff_mul_le (pow64_pos k)).2 (by omega)
      omega
  · intro h; rw [Nat.div_eq_of_lt h]; rfl
theorem tn_val {v : Nat} (hv : v < p9) (h0 : 0 < v) : tn v = p9 - v := by
  unfold tn; exact Nat.mod_eq_of_lt (by omega)
theorem jz_abs_t {v : Nat} (hv : v < p9) (h : p9 ≤ 2 * v) : (jz v).natAbs = tn v := by
  have := p9_pos
  rw [tn_val hv (by omega)]; unfold jz; rw [if_pos h]; omega
theorem jz_abs_f {v : Nat} (h : ¬ p9 ≤ 2 * v) : (jz v).natAbs = v := by unfold jz; rw [if_neg h]; omega
theorem jz_t {v : Nat} (hv : v < p9) (h : p9 ≤ 2 * v) : iz true (tn v) = jz v := by
  have := p9_pos
  rw [tn_val hv (by omega)]; unfold jz; rw [if_pos h]; simp only [iz, cond_true]; omega
theorem jz_f {v : Nat} (h : ¬ p9 ≤ 2 * v) : iz false v = jz v := by unfold jz; rw [if_neg h]; rfl
/-- Two numbers joined bit by bit, by a join of Nats. -/
def e9i (a : Int) : Nat := (a % (p9 : Int)).toNat
theorem e9_i {n : Bool} {x : Nat} {a : Int} (hx : x < top) (h : iz n x = a) : e9 n x = e9i a := by
  have h2 := top_le_p9
  have h3 := p9_pos
  subst h
  cases n
  · show x = _
    unfold e9i
    rw [show iz false x = (x : Int) from rfl, ← Int.natCast_emod, Int.toNat_natCast, Nat.mod_eq_of_lt (by omega)]
  · show tn x = _
    unfold e9i tn
    rw [show iz true x = -(x : Int) from rfl]
    rcases Nat.eq_zero_or_pos x with h0 | h0
    · subst h0; simp
    · have e : -(x : Int) = ((p9 - x : Nat) : Int) + (p9 : Int) * (-1) := by omega
      rw [e, Int.add_mul_emod_self_left, ← Int.natCast_emod, Int.toNat_natCast]
def jn (f : Nat → Nat → Nat) (a b : Int) : Int := jz (f (e9i a) (e9i b))
def nAnd (a b : Nat) : Nat := a &&& b
def nOr (a b : Nat) : Nat := a ||| b
def nXor (a b : Nat) : Nat := a ^^^ b
def nNot (a b : Nat) : Nat := a ^^^ (a &&& b)
theorem hbit_t {v : Nat} (hv : v < p9) (h : (((ofW 9 v).getD (8 : Int).toNat 0).fdiv (9223372036854775808 : Int) == (1 : Int)) = true) : p9 ≤ 2 * v := by
  rw [high_bit hv] at h; exact of_decide_eq_true h
theorem hbit_f {v : Nat} (hv : v < p9) (h : (((ofW 9 v).getD (8 : Int).toNat 0).fdiv (9223372036854775808 : Int) == (1 : Int)) = false) : ¬ p9 ≤ 2 * v := by
  rw [high_bit hv] at h; exact of_decide_eq_false h
theorem join_start (v : Nat) : ofW 9 0 = ofW 9 (v % 2 ^ (64 * 0)) := by rw [Nat.mul_zero, Nat.pow_zero, Nat.mod_one]
theorem nAnd_lt (a b : Nat) (ha : a < p9) (_ : b < p9) : nAnd a b < p9 := Nat.lt_of_le_of_lt Nat.and_le_left ha
theorem nOr_lt (a b : Nat) (ha : a < p9) (hb : b < p9) : nOr a b < p9 := by
  obtain ⟨k, hk⟩ : ∃ k, k = 9 := ⟨_, rfl⟩
  rw [p9_k hk] at *; exact Nat.or_lt_two_pow ha hb
theorem nXor_lt (a b : Nat) (ha : a < p9) (hb : b < p9) : nXor a b < p9 := by
  obtain ⟨k, hk⟩ : ∃ k, k = 9 := ⟨_, rfl⟩
  rw [p9_k hk] at *; exact Nat.xor_lt_two_pow ha hb
theorem nNot_lt (a b : Nat) (ha : a < p9) (hb : b < p9) : nNot a b < p9 := nXor_lt a _ ha (nAnd_lt a b ha hb)
theorem wd_and (a b k : Nat) : wd (nAnd a b) k = wd a k &&& wd b k := by
  unfold wd nAnd; rw [Nat.and_div_two_pow, Nat.and_mod_two_pow]
theorem wd_or (a b k : Nat) : wd (nOr a b) k = wd a k ||| wd b k := by
  unfold wd nOr; rw [Nat.or_div_two_pow, Nat.or_mod_two_pow]
theorem wd_xor (a b k : Nat) : wd (nXor a b) k = wd a k ^^^ wd b k := by
  unfold wd nXor; rw [Nat.xor_div_two_pow, Nat.xor_mod_two_pow]
theorem wd_not (a b k : Nat) : wd (nNot a b) k = wd a k ^^^ (wd a k &&& wd b k) := by
  have h1 := wd_xor a (nAnd a b) k
  rw [wd_and] at h1; exact h1
theorem join_put {L k : Nat} (hk : k < 9) : (ofW 9 (L % 2 ^ (64 * k))).set (k : Int).toNat ((wd L k : Nat) : Int) = ofW 9 (L % 2 ^ (64 * (k + 1))) := by
  rw [Int.toNat_natCast, set_ofW hk (Nat.mod_lt _ (pow64_pos k)) (wd_lt L k), mod_next, Nat.mul_comm (wd L k)]
theorem join_nAnd {A B k : Nat} (hk : k < 9) : (ofW 9 (nAnd A B % 2 ^ (64 * k))).set (k : Int).toNat (bits .and .u64 ((ofW 9 A).getD (k : Int).toNat 0) ((ofW 9 B).getD (k : Int).toNat 0)) = ofW 9 (nAnd A B % 2 ^ (64 * (k + 1))) := by
  rw [get_ofW9 A hk, get_ofW9 B hk, u64_and_nat _ _ (wd_lt A k) (wd_lt B k), ← wd_and, join_put hk]
theorem join_nOr {A B k : Nat} (hk : k < 9) : (ofW 9 (nOr A B % 2 ^ (64 * k))).set (k : Int).toNat (bits .or .u64 ((ofW 9 A).getD (k : Int).toNat 0) ((ofW 9 B).getD (k : Int).toNat 0)) = ofW 9 (nOr A B % 2 ^ (64 * (k + 1))) := by
  rw [get_ofW9 A hk, get_ofW9 B hk, u64_or_nat _ _ (wd_lt A k) (wd_lt B k), ← wd_or, join_put hk]
theorem join_nXor {A B k : Nat} (hk : k < 9) : (ofW 9 (nXor A B % 2 ^ (64 * k))).set (k : Int).toNat (bits .xor .u64 ((ofW 9 A).getD (k : Int).toNat 0) ((ofW 9 B).getD (k : Int).toNat 0)) = ofW 9 (nXor A B % 2 ^ (64 * (k + 1))) := by
  rw [get_ofW9 A hk, get_ofW9 B hk, u64_xor_nat _ _ (wd_lt A k) (wd_lt B k), ← wd_xor, join_put hk]
theorem andNot_n {a b : Nat} (ha : a < 18446744073709551616) (hb : b < 18446744073709551616) : bits .andNot .u64 (a : Int) (b : Int) = ((a ^^^ (a &&& b) : Nat) : Int) := by
  rw [u64_andNot_nat a b ha hb]
  congr 1
  apply Nat.eq_of_testBit_eq
  intro i
  have e : 18446744073709551615 - b = 2 ^ 64 - (b + 1) := by omega
  rw [e, Nat.testBit_and, Nat.testBit_xor, Nat.testBit_and, Nat.testBit_two_pow_sub_succ hb]
  by_cases hi : i < 64
  · simp only [hi, decide_true, Bool.true_and]
    cases a.testBit i <;> cases b.testBit i <;> rfl
  · have h0 : a.testBit i = false := Nat.testBit_lt_two_pow (Nat.lt_of_lt_of_le ha (Nat.pow_le_pow_right (n := 2) (by decide) (Nat.le_of_not_lt hi)))
    rw [h0]; rfl
theorem join_nNot {A B k : Nat} (hk : k < 9) : (ofW 9 (nNot A B % 2 ^ (64 * k))).set (k : Int).toNat (bits .andNot .u64 ((ofW 9 A).getD (k : Int).toNat 0) ((ofW 9 B).getD (k : Int).toNat 0)) = ofW 9 (nNot A B % 2 ^ (64 * (k + 1))) := by
  rw [get_ofW9 A hk, get_ofW9 B hk, andNot_n (wd_lt A k) (wd_lt B k), ← wd_not, join_put hk]
/-! ### Shifts of numbers -/
theorem pow2_pos (k : Nat) : 0 < 2 ^ k := Nat.pow_pos (by decide)
theorem cast_pow2 (k : Nat) : ((2 : Int) ^ k) = ((2 ^ k : Nat) : Int) := by rw [Int.natCast_pow]; rfl
theorem shl_abs {neg : Bool} {x k : Nat} {z : Int} (hz : iz neg x = z) : (z * 2 ^ k).natAbs = x * 2 ^ k := by
  rw [cast_pow2, Int.natAbs_mul, ← hz, iz_abs, Int.natAbs_natCast]
theorem x_eq0 {x : Nat} (hx : x < top) {b : Bool} (h : (ofN x == z8) = b) : decide (x = 0) = b := by rw [← ofN_beq_z8 hx, h]
theorem bl_mul {x k : Nat} (hx : x ≠ 0) : bl (x * 2 ^ k) = bl x + k := by
  have hp := pow2_pos k
  have h1 : x * 2 ^ k ≠ 0 := Nat.mul_ne_zero hx (by omega)
  apply Nat.le_antisymm
  · apply bl_le_of_lt
    rw [Nat.pow_add]
    exact Nat.mul_lt_mul_of_pos_right (lt_bl (Nat.le_refl _)) hp
  · rcases Nat.lt_or_ge (bl (x * 2 ^ k)) (bl x + k) with h | h
    · exfalso
      have h2 := lt_bl (n := x * 2 ^ k) (b := bl x + k - 1) (by omega)
      have h3 := pow_le_bl hx
      have h4 := bl_pos hx
      have h5 := Nat.mul_le_mul_right (2 ^ k) h3
      rw [← Nat.pow_add, show bl x - 1 + k = bl x + k - 1 by omega] at h5
      omega
    · exact h
theorem bl_lt_top {x e : Nat} (he : e = 8) : x < top ↔ bl x ≤ 512 := by
  constructor
  · intro h; exact bl_top he h
  · intro h
    obtain ⟨m, hm⟩ : ∃ m, m = 512 := ⟨_, rfl⟩
    rw [← hm] at h
    rw [top_k he]
    exact Nat.lt_of_lt_of_le (lt_bl h) (Nat.pow_le_pow_right (by decide) (by omega))
theorem shl_k {neg : Bool} {x k : Nat} {z : Int} (hx : x < top) (hz : iz neg x = z) (h : (z * 2 ^ k).natAbs < top) (c : (ofN x == z8) = false) : k < 512 := by
  have hx0 := of_decide_eq_false (x_eq0 hx c)
  rw [shl_abs hz, bl_lt_top rfl, bl_mul hx0] at h
  have := bl_pos hx0
  omega
theorem shl_fit {neg : Bool} {x k : Nat} {z : Int} (hx : x < top) (hz : iz neg x = z) (h : (z * 2 ^ k).natAbs < top) (c : (ofN x == z8) = false) : decide ((k : Int) > (IntKind.i64.wrap ((512 : Int) - ((bl x : Nat) : Int)))) = false := by
  have hx0 := of_decide_eq_false (x_eq0 hx c)
  rw [shl_abs hz, bl_lt_top rfl, bl_mul hx0] at h
  rw [w64_of (by omega) (by omega)]
  exact decide_eq_false (by omega)
theorem shl_nz {neg : Bool} {x k : Nat} {z : Int} (hx : x < top) (hz : iz neg x = z) (h : ¬ (z * 2 ^ k).natAbs < top) : (ofN x == z8) = false := by
  rw [ofN_beq_z8 hx]
  apply decide_eq_false
  intro e
  apply h
  rw [shl_abs hz, e, Nat.zero_mul]; exact top_pos
theorem shl_nofit {neg : Bool} {x k : Nat} {z : Int} (hx : x < top) (hz : iz neg x = z) (h : ¬ (z * 2 ^ k).natAbs < top) : decide ((k : Int) > (IntKind.i64.wrap ((512 : Int) - ((bl x : Nat) : Int)))) = true := by
  have hx0 := of_decide_eq_false (x_eq0 hx (shl_nz hx hz h))
  have hb := bl_top (e := 8) rfl hx
  rw [shl_abs hz, bl_lt_top rfl, bl_mul hx0] at h
  rw [w64_of (by omega) (by omega)]
  exact decide_eq_true (by omega)
theorem iz_mul {neg : Bool} {x p : Nat} : iz neg (x * p) = iz neg x * (p : Int) := by
  cases neg <;> simp [iz, Int.neg_mul]
theorem shl_iz {neg : Bool} {x k : Nat} {z : Int} (hz : iz neg x = z) (h : (z * 2 ^ k).natAbs < top) : iz neg (x * 2 ^ k % top) = z * 2 ^ k := by
  rw [shl_abs hz] at h
  rw [Nat.mod_eq_of_lt h, iz_mul, hz, cast_pow2]
theorem iz_zero' {neg : Bool} {x : Nat} {z : Int} (hz : iz neg x = z) (h : x = 0) : z = 0 := by rw [← hz]; exact iz_eq0.2 h
theorem shl_zero {neg : Bool} {x k : Nat} {z : Int} (hx : x < top) (hz : iz neg x = z) (c : (ofN x == z8) = true) : z * 2 ^ k = 0 := by
  rw [iz_zero' hz (of_decide_eq_true (x_eq0 hx c)), Int.zero_mul]
theorem one8 : z8.set 0 1 = ofN 1 := ofN_small (v := 1) (by decide)
theorem one_top : 1 < top := by have := top_le_p9; have := wabs 1; rw [w64_of (by decide) (by decide)] at this; exact this
theorem neg_div {x p : Nat} (hp : 0 < p) : (-(x : Int)) / (p : Int) = -(((x / p + (if x % p = 0 then 0 else 1) : Nat)) : Int) := by
  have h := Nat.div_add_mod x p
  have hm := Nat.mod_lt x hp
  generalize x / p = q at *
  generalize x % p = r at *
  subst h
  by_cases h0 : r = 0
  · subst h0
    rw [if_pos rfl, Nat.add_zero, Nat.add_zero, Int.natCast_mul, ← Int.mul_neg, Int.mul_ediv_cancel_left _ (by omega)]
  · rw [if_neg h0]
    have e : -((p * q + r : Nat) : Int) = ((p - r : Nat) : Int) + (p : Int) * (-((q + 1 : Nat) : Int)) := by
      rw [show (-((q + 1 : Nat) : Int)) = -(q : Int) + -1 by omega, Int.mul_add, Int.mul_neg, Int.natCast_add, Int.natCast_mul]
      omega
    rw [e, Int.add_mul_ediv_left _ _ (by omega), Int.ediv_eq_zero_of_lt (by omega) (by omega), Int.zero_add]
theorem div_pow_z {neg : Bool} {x k : Nat} {z : Int} (hz : iz neg x = z) : z / 2 ^ k = bif neg then -(((x / 2 ^ k + (if x % 2 ^ k = 0 then 0 else 1) : Nat)) : Int) else ((x / 2 ^ k : Nat) : Int) := by
  rw [cast_pow2, ← hz]
  cases neg
  · rfl
  · exact neg_div (pow2_pos k)
theorem shr_pos {neg : Bool} {x k : Nat} {z : Int} (hz : iz neg x = z) (c : neg = false) : iz neg (x / 2 ^ k) = z / 2 ^ k := by
  rw [div_pow_z hz, c]; rfl
theorem mod_div_mul (x P : Nat) : x / P * P = x - x % P := by
  have := Nat.div_add_mod x P
  rw [Nat.mul_comm] at this; omega
theorem shr_upeq {x k : Nat} {b : Bool} (hx : x < top) (c : ((ofN (x / 2 ^ k * 2 ^ k % top)) == (ofN x)) = b) : decide (x % 2 ^ k = 0) = b := by
  have h1 : x / 2 ^ k * 2 ^ k ≤ x := Nat.div_mul_le_self ..
  have hm := Nat.mod_le x (2 ^ k)
  rw [Nat.mod_eq_of_lt (Nat.lt_of_le_of_lt h1 hx), ofN_beq (Nat.lt_of_le_of_lt h1 hx) hx, mod_div_mul] at c
  rw [← c, Bool.eq_iff_iff, decide_eq_true_eq, decide_eq_true_eq]
  omega
theorem shr_even {neg : Bool} {x k : Nat} {z : Int} (hx : x < top) (hz : iz neg x = z) (c : ((ofN (x / 2 ^ k * 2 ^ k % top)) == (ofN x)) = true) : iz neg (x / 2 ^ k) = z / 2 ^ k := by
  rw [div_pow_z hz, if_pos (of_decide_eq_true (shr_upeq hx c)), Nat.add_zero]; rfl
theorem shr_lt1 {x k : Nat} (hx : x < top) (h : x % 2 ^ k ≠ 0) : x / 2 ^ k + 1 < top := by
  have hk : 2 ≤ 2 ^ k := by
    rcases Nat.eq_zero_or_pos k with h0 | h0
    · subst h0; rw [Nat.pow_zero, Nat.mod_one] at h; exact absurd rfl h
    · exact Nat.pow_le_pow_right (n := 2) (i := 1) (j := k) (by decide) h0
  have h1 := Nat.mod_le x (2 ^ k)
  have h2 := mod_div_mul x (2 ^ k)
  have h3 := Nat.mul_le_mul_left (x / 2 ^ k) hk
  have := one_top
  omega
theorem shr_up {neg : Bool} {x k : Nat} {z : Int} (hx : x < top) (hz : iz neg x = z) (c0 : neg = true) (c : ((ofN (x / 2 ^ k * 2 ^ k % top)) == (ofN x)) = false) : iz neg ((x / 2 ^ k + 1) % top) = z / 2 ^ k := by
  have h := of_decide_eq_false (shr_upeq hx c)
  rw [div_pow_z hz, if_neg h, Nat.mod_eq_of_lt (shr_lt1 hx h), c0]; rfl
theorem big_div {x k e : Nat} (he : e = 8) (hx : x < top) (hk : 512 ≤ k) : x / 2 ^ k = 0 ∧ x % 2 ^ k = x := by
  have : x < 2 ^ k := by
    rw [top_k he] at hx
    exact Nat.lt_of_lt_of_le hx (Nat.pow_le_pow_right (by decide) (by omega))
  exact ⟨Nat.div_eq_of_lt this, Nat.mod_eq_of_lt this⟩
theorem shr_bigp {neg : Bool} {x k : Nat} {z : Int} (hx : x < top) (hz : iz neg x = z) (hk : 512 ≤ k) (c : neg = false) : iz neg 0 = z / 2 ^ k := by
  rw [div_pow_z hz, c, (big_div rfl hx hk).1]; rfl
theorem shr_big0 {neg : Bool} {x k : Nat} {z : Int} (hx : x < top) (hz : iz neg x = z) (c : (ofN x == z8) = true) : iz neg 0 = z / 2 ^ k := by
  rw [iz_zero' hz (of_decide_eq_true (x_eq0 hx c)), Int.zero_ediv]; cases neg <;> rfl
theorem shr_bigm {neg : Bool} {x k : Nat} {z : Int} (hx : x < top) (hz : iz neg x = z) (hk : 512 ≤ k) (c0 : neg = true) (c : (ofN x == z8) = false) : iz neg ((0 + 1) % top) = z / 2 ^ k := by
  have h := of_decide_eq_false (x_eq0 hx c)
  rw [div_pow_z hz, c0, (big_div rfl hx hk).1, (big_div rfl hx hk).2, if_neg h, Nat.mod_eq_of_lt one_top]; rfl
/-! ### Division by ten -/
theorem bl10 : bl (Int.toNat 10) = 4 := by decide
section
variable {h l u u1 q r v q0 r0 : Int}
theorem dv_u (h0 : 0 ≤ h) (h1 : h < 10) (l0 : 0 ≤ l) (l1 : l < 18446744073709551616) : bits .or .u64 (IntKind.u64.wrap (h * (1152921504606846976 : Int))) (l.fdiv (16 : Int)) = h * 1152921504606846976 + l / 16 := by
  rw [Int.fdiv_eq_ediv_of_nonneg _ (by decide), u64_def]
  obtain ⟨a, rfl⟩ := Int.eq_ofNat_of_zero_le h0
  obtain ⟨b, rfl⟩ := Int.eq_ofNat_of_zero_le l0
  have e1 : (a : Int) * 1152921504606846976 % 18446744073709551616 = ((a * 1152921504606846976 : Nat) : Int) := by omega
  have e2 : (b : Int) / 16 = ((b / 16 : Nat) : Int) := rfl
  rw [e1, e2, or_n (r := 60) (by decide) (by omega) (by rw [show 2 ^ 60 = 1152921504606846976 from rfl]; exact Nat.mul_mod_left _ _) (by rw [show 2 ^ 60 = 1152921504606846976 from rfl]; omega)]
  omega
theorem dv_u1 (l0 : 0 ≤ l) (l1 : l < 18446744073709551616) : (IntKind.u64.wrap (l * (1152921504606846976 : Int))).fdiv (4294967296 : Int) = l % 16 * 268435456 := by
  rw [fd32, u64_def]; omega
theorem dv_u0 (l0 : 0 ≤ l) (l1 : l < 18446744073709551616) : bits .and .u64 (IntKind.u64.wrap (l * (1152921504606846976 : Int))) (4294967295 : Int) = 0 := by
  rw [u64_def, and_lowm]; omega
theorem dv_y0 : bits .and .u64 (11529215046068469760 : Int) (4294967295 : Int) = 0 := by
  rw [and_low (by decide) (by decide)]; rfl
theorem dv_q (h0 : 0 ≤ u) (h1 : u < 11529215046068469760) : IntKind.u64.wrap (u.tdiv (2684354560 : Int)) = u / 2684354560 := by
  rw [Int.tdiv_eq_ediv_of_nonneg h0, u64_def]; omega
theorem dv_r (h0 : 0 ≤ u) (h1 : u < 11529215046068469760) : IntKind.u64.wrap (u - IntKind.u64.wrap (u / 2684354560 * (2684354560 : Int))) = u % 2684354560 := by
  rw [u64_def, u64_def]; omega
theorem dv_c (h0 : 0 ≤ u) (h1 : u < 11529215046068469760) : decide (u / 2684354560 ≥ (4294967296 : Int)) = false := decide_eq_false (by omega)
theorem dv_d (h0 : 0 ≤ u1) (h1 : u1 < 4294967296) : decide (IntKind.u64.wrap (u / 2684354560 * (0 : Int)) > IntKind.u64.wrap (IntKind.u64.wrap ((4294967296 : Int) * (u % 2684354560)) + u1)) = false := by
  apply decide_eq_false; rw [u64_def, u64_def, u64_def]; omega
theorem dv_v (h0 : 0 ≤ u) (h1 : u < 11529215046068469760) (g0 : 0 ≤ u1) (g1 : u1 < 4294967296) : IntKind.u64.wrap (IntKind.u64.wrap (IntKind.u64.wrap (u * (4294967296 : Int)) + u1) - IntKind.u64.wrap (u / 2684354560 * (11529215046068469760 : Int))) = u % 2684354560 * 4294967296 + u1 := by
  rw [u64_def, u64_def, u64_def, u64_def]; omega
theorem dv_res (h0 : 0 ≤ h) (h1 : h < 10) (l0 : 0 ≤ l) (l1 : l < 18446744073709551616) (hu : u = h * 1152921504606846976 + l / 16) (hv : v = u % 2684354560 * 4294967296 + l % 16 * 268435456) :
    0 ≤ u ∧ u < 11529215046068469760 ∧ 0 ≤ l % 16 * 268435456 ∧ l % 16 * 268435456 < 4294967296 ∧ 0 ≤ v ∧ v < 11529215046068469760 ∧ u / 2684354560 * 4294967296 + v / 2684354560 = (h * 18446744073709551616 + l) / 10 ∧ v % 2684354560 / 268435456 = (h * 18446744073709551616 + l) % 10 := by
  omega
theorem dv_qq (h0 : 0 ≤ u) (h1 : u < 11529215046068469760) (g0 : 0 ≤ v) (g1 : v < 11529215046068469760) : IntKind.u64.wrap (IntKind.u64.wrap (u / 2684354560 * (4294967296 : Int)) + v / 2684354560) = u / 2684354560 * 4294967296 + v / 2684354560 := by
  rw [u64_def, u64_def]; omega
theorem dv_rr (g0 : 0 ≤ v) (g1 : v < 11529215046068469760) : (IntKind.u64.wrap (IntKind.u64.wrap (IntKind.u64.wrap (v * (4294967296 : Int)) + 0) - IntKind.u64.wrap (v / 2684354560 * (11529215046068469760 : Int)))).fdiv (1152921504606846976 : Int) = v % 2684354560 / 268435456 := by
  rw [Int.fdiv_eq_ediv_of_nonneg _ (by decide), u64_def, u64_def, u64_def, u64_def]; omega
end
/-! ### The last digit -/
def digN (x : Nat) (i : Int) : Nat := x % 2 ^ (64 * (i + 1).toNat) + x / 2 ^ (64 * (i + 1).toNat) / 10 * 2 ^ (64 * (i + 1).toNat)
def digR (x : Nat) (i : Int) : Nat := x / 2 ^ (64 * (i + 1).toNat) % 10
theorem digN_start {x e : Nat} {i : Int} (he : e = 8) (hi : (i + 1).toNat = e) (hx : x < top) : digN x i = x := by
  unfold digN; rw [hi]; rw [top_k he] at hx; rw [Nat.mod_eq_of_lt hx, Nat.div_eq_of_lt hx]; simp
theorem digR_start {x e : Nat} {i : Int} (he : e = 8) (hi : (i + 1).toNat = e) (hx : x < top) : digR x i = 0 := by
  unfold digR; rw [hi]; rw [top_k he] at hx; rw [Nat.div_eq_of_lt hx]
theorem digN_end (x : Nat) : digN x (-1) = x / 10 := by unfold digN; simp [Nat.mod_one]
theorem digR_end (x : Nat) : digR x (-1) = x % 10 := by unfold digR; simp
theorem digR_lt (x : Nat) (i : Int) : digR x i < 10 := Nat.mod_lt _ (by decide)
theorem digN_lt {x : Nat} {i : Int} (hx : x < top) : digN x i < top := by
  have : digN x i ≤ x := by
    unfold digN
    generalize 2 ^ (64 * (i + 1).toNat) = P
    have h1 := Nat.mod_add_div x P
    have h2 : x / P / 10 * P ≤ x / P * P := Nat.mul_le_mul_right _ (Nat.div_le_self ..)
    rw [Nat.mul_comm (x / P) P] at h2
    omega
  omega
theorem wd_digN {x j : Nat} : wd (digN x (j : Int)) j = wd x j := by
  unfold digN
  rw [show ((j : Int) + 1).toNat = j + 1 by omega, wd_add_low (by omega), wd_mod (by omega)]
theorem dig_r {x j : Nat} : digR x ((j : Int) - 1) = (digR x (j : Int) * 18446744073709551616 + wd x j) % 10 := by
  unfold digR
  rw [show ((j : Int) + 1).toNat = j + 1 by omega, show ((j : Int) - 1 + 1).toNat = j by omega, div_step x j]
  omega
theorem dig_n {x j : Nat} : digN x ((j : Int) - 1) = put (digN x (j : Int)) j ((digR x (j : Int) * 18446744073709551616 + wd x j) / 10) := by
  unfold digN digR put
  rw [show ((j : Int) + 1).toNat = j + 1 by omega, show ((j : Int) - 1 + 1).toNat = j by omega, div_step x j]
  have hm := Nat.mod_lt x (pow64_pos (j + 1))
  rw [Nat.mul_comm (x / 2 ^ (64 * (j + 1)) / 10), Nat.add_mul_div_left _ _ (pow64_pos (j + 1)), Nat.div_eq_of_lt hm, Nat.zero_add]
  have e1 : (x % 2 ^ (64 * (j + 1)) + 2 ^ (64 * (j + 1)) * (x / 2 ^ (64 * (j + 1)) / 10)) % 2 ^ (64 * j) = x % 2 ^ (64 * j) := by
    rw [pow64, Nat.mul_assoc, Nat.add_mul_mod_self_left, Nat.mod_mul_right_mod]
  rw [e1]
  congr 2
  omega
end Go.Proofs.Ytbbakacfhajohaa.Av

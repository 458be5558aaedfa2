/- Plain mathematics: whole numbers as rows of 64-bit words. -/
import Derived.Test.YtbbakacfhajohaaAvT
namespace Go.Proofs.Ytbbakacfhajohaa.Av

def B64 : Nat := 2 ^ 64
theorem B64_eq : B64 = 18446744073709551616 := rfl
/-- The i-th word of n. -/
def wd (n i : Nat) : Nat := n / 2 ^ (64 * i) % 2 ^ 64
/-- k words of n. -/
def ofW (k n : Nat) : List Int := (List.range k).map fun i => ((wd n i : Nat) : Int)
abbrev ofN (n : Nat) : List Int := ofW 8 n
def pw (k : Nat) : Nat := 2 ^ (64 * k)
def top : Nat := pw 8
theorem pw_def (k : Nat) : pw k = 2 ^ (64 * k) := rfl
theorem pw_pos (k : Nat) : 0 < pw k := Nat.pow_pos (by decide)
theorem top_k {k : Nat} (h : k = 8) : top = 2 ^ (64 * k) := by rw [← pw_def, h]; rfl
theorem wd_lt (n i : Nat) : wd n i < 18446744073709551616 := Nat.mod_lt _ (by decide)
@[simp] theorem length_ofW (k n : Nat) : (ofW k n).length = k := by simp [ofW]
theorem get_ofW {k n i : Nat} (h : i < k) : (ofW k n).getD i 0 = ((wd n i : Nat) : Int) := by
  simp [ofW, List.getD, h]
theorem ofW_zero (k : Nat) : ofW k 0 = List.replicate k 0 := by
  apply List.ext_getElem (by simp)
  intro i h1 h2
  simp [ofW, wd]
theorem z8_eq : z8 = ofN 0 := by rw [ofN, ofW_zero]; rfl
theorem z9_eq : z9 = ofW 9 0 := by rw [ofW_zero]; rfl
theorem pow64 (i : Nat) : 2 ^ (64 * (i + 1)) = 2 ^ (64 * i) * 18446744073709551616 := by
  rw [show 64 * (i + 1) = 64 * i + 64 by omega, Nat.pow_add]
theorem pow64_pos (i : Nat) : 0 < 2 ^ (64 * i) := Nat.pow_pos (by decide)
theorem wd_zero_of_lt {n i : Nat} (h : n < 2 ^ (64 * i)) : wd n i = 0 := by
  unfold wd
  rw [Nat.div_eq_of_lt h]
theorem wd_add_low {m w i j : Nat} (hj : j < i) : wd (m + w * 2 ^ (64 * i)) j = wd m j := by
  unfold wd
  obtain ⟨d, rfl⟩ : ∃ d, i = j + 1 + d := ⟨i - j - 1, by omega⟩
  have e : 2 ^ (64 * (j + 1 + d)) = 2 ^ (64 * j) * (2 ^ 64 * 2 ^ (64 * d)) := by
    rw [← Nat.pow_add, ← Nat.pow_add]; congr 1; omega
  rw [e, show w * (2 ^ (64 * j) * (2 ^ 64 * 2 ^ (64 * d))) = 2 ^ (64 * j) * (2 ^ 64 * (w * 2 ^ (64 * d))) by
    rw [Nat.mul_comm w, Nat.mul_assoc, Nat.mul_assoc, Nat.mul_comm (2 ^ (64 * d)) w], Nat.add_mul_div_left _ _ (pow64_pos j), Nat.add_mul_mod_self_left]
theorem wd_add_same {m w i : Nat} (hm : m < 2 ^ (64 * i)) (hw : w < 18446744073709551616) : wd (m + w * 2 ^ (64 * i)) i = w := by
  unfold wd
  rw [Nat.mul_comm w, Nat.add_mul_div_left _ _ (pow64_pos i), Nat.div_eq_of_lt hm, Nat.zero_add]
  exact Nat.mod_eq_of_lt hw
theorem add_lt_next {m w i : Nat} (hm : m < 2 ^ (64 * i)) (hw : w < 18446744073709551616) : m + w * 2 ^ (64 * i) < 2 ^ (64 * (i + 1)) := by
  rw [pow64, Nat.mul_comm (2 ^ (64 * i)) 18446744073709551616]
  have : w * 2 ^ (64 * i) + 2 ^ (64 * i) ≤ 18446744073709551616 * 2 ^ (64 * i) := by
    rw [← Nat.succ_mul]; exact Nat.mul_le_mul_right _ hw
  omega
theorem wd_add_high {m w i j : Nat} (hm : m < 2 ^ (64 * i)) (hw : w < 18446744073709551616) (hj : i < j) : wd (m + w * 2 ^ (64 * i)) j = 0 ∧ wd m j = 0 := by
  have h1 : 2 ^ (64 * (i + 1)) ≤ 2 ^ (64 * j) := Nat.pow_le_pow_right (by decide) (by omega)
  have h2 := add_lt_next hm hw
  exact ⟨wd_zero_of_lt (by omega), wd_zero_of_lt (by omega)⟩
theorem set_ofW {k m w i : Nat} (_ : i < k) (hm : m < 2 ^ (64 * i)) (hw : w < 18446744073709551616) : (ofW k m).set i ((w : Nat) : Int) = ofW k (m + w * 2 ^ (64 * i)) := by
  apply List.ext_getElem (by simp)
  intro j h1 h2
  rw [List.getElem_set]
  simp only [ofW, List.getElem_map, List.getElem_range]
  split
  · rename_i h; subst h; rw [wd_add_same hm hw]
  · rename_i h
    rcases Nat.lt_or_gt_of_ne h with h | h
    · have := wd_add_high hm hw h; rw [this.1, this.2]
    · rw [wd_add_low h]
theorem mod_next (x i : Nat) : x % 2 ^ (64 * (i + 1)) = x % 2 ^ (64 * i) + 2 ^ (64 * i) * wd x i := by
  rw [pow64, Nat.mod_mul]; rfl
/-- Two numbers whose words are alike below k are alike below 2^(64 k). -/
theorem mod_of_words {x y : Nat} : ∀ k, (∀ i, i < k → wd x i = wd y i) → x % 2 ^ (64 * k) = y % 2 ^ (64 * k)
  | 0, _ => by simp [Nat.mod_one]
  | k + 1, h => by rw [mod_next, mod_next, mod_of_words k (fun i hi => h i (by omega)), h k (by omega)]
theorem ofN_inj {x y : Nat} (hx : x < top) (hy : y < top) (h : ofN x = ofN y) : x = y := by
  obtain ⟨k, hk⟩ : ∃ k, k = 8 := ⟨8, rfl⟩
  have h2 : x % 2 ^ (64 * k) = y % 2 ^ (64 * k) := mod_of_words k (fun i hi => by
    have h1 := congrArg (fun l => l.getD i 0) h
    simp only [get_ofW (show i < 8 by omega)] at h1
    exact Int.ofNat_inj.1 h1)
  rw [top_k hk] at hx hy
  rwa [Nat.mod_eq_of_lt hx, Nat.mod_eq_of_lt hy] at h2
theorem ofN_beq {x y : Nat} (hx : x < top) (hy : y < top) : (ofN x == ofN y) = decide (x = y) := by
  by_cases h : x = y
  · subst h; simp
  · have : ofN x ≠ ofN y := fun e => h (ofN_inj hx hy e)
    simp [h, this]
theorem top_pos : 0 < top := pw_pos 8
theorem ofN_beq_z8 {x : Nat} (hx : x < top) : (ofN x == z8) = decide (x = 0) := by rw [z8_eq, ofN_beq hx top_pos]

/-! ### The sum, word by word -/
def sumC (x y k : Nat) : Nat := (x % 2 ^ (64 * k) + y % 2 ^ (64 * k)) / 2 ^ (64 * k)
def sumS (x y k : Nat) : Nat := (x % 2 ^ (64 * k) + y % 2 ^ (64 * k)) % 2 ^ (64 * k)
theorem sum_split (x y k : Nat) : x % 2 ^ (64 * (k + 1)) + y % 2 ^ (64 * (k + 1)) = sumS x y k + 2 ^ (64 * k) * (wd x k + wd y k + sumC x y k) := by
  have h := Nat.div_add_mod (x % 2 ^ (64 * k) + y % 2 ^ (64 * k)) (2 ^ (64 * k))
  rw [mod_next, mod_next, Nat.mul_add, Nat.mul_add]
  unfold sumS sumC
  omega
theorem sumC_le (x y k : Nat) : sumC x y k ≤ 1 := by
  unfold sumC
  have h := pow64_pos k
  have h1 := Nat.mod_lt x h
  have h2 := Nat.mod_lt y h
  have : (x % 2 ^ (64 * k) + y % 2 ^ (64 * k)) / 2 ^ (64 * k) < 2 := by
    rw [Nat.div_lt_iff_lt_mul h]; omega
  omega
theorem sumC_zero (x y : Nat) : sumC x y 0 = 0 := by simp [sumC, Nat.mod_one]
theorem sumS_zero (x y : Nat) : sumS x y 0 = 0 := by simp [sumS, Nat.mod_one]
theorem sumS_lt (x y k : Nat) : sumS x y k < 2 ^ (64 * k) := Nat.mod_lt _ (pow64_pos k)
theorem sumC_next (x y k : Nat) : sumC x y (k + 1) = (wd x k + wd y k + sumC x y k) / 18446744073709551616 := by
  conv => lhs; unfold sumC
  rw [sum_split, pow64, ← Nat.div_div_eq_div_mul, Nat.add_mul_div_left _ _ (pow64_pos k), Nat.div_eq_of_lt (sumS_lt x y k), Nat.zero_add]
theorem sumS_next (x y k : Nat) : sumS x y (k + 1) = sumS x y k + (wd x k + wd y k + sumC x y k) % 18446744073709551616 * 2 ^ (64 * k) := by
  conv => lhs; unfold sumS
  rw [sum_split, pow64, Nat.mod_mul, Nat.add_mul_mod_self_left, Nat.mod_eq_of_lt (sumS_lt x y k), Nat.add_mul_div_left _ _ (pow64_pos k), Nat.div_eq_of_lt (sumS_lt x y k), Nat.zero_add, Nat.mul_comm]
theorem plus_c {x y k : Nat} (hk : k < 8) : ((ofN x).getD (k : Int).toNat 0 + (ofN y).getD (k : Int).toNat 0 + (sumC x y k : Int)) / 18446744073709551616 = (sumC x y (k + 1) : Int) := by
  rw [Int.toNat_natCast, get_ofW hk, get_ofW hk, sumC_next]; omega
theorem plus_s {x y k : Nat} (hk : k < 8) : (ofN (sumS x y k)).set (k : Int).toNat (((ofN x).getD (k : Int).toNat 0 + (ofN y).getD (k : Int).toNat 0 + (sumC x y k : Int)) % 18446744073709551616) = ofN (sumS x y (k + 1)) := by
  rw [Int.toNat_natCast, get_ofW hk, get_ofW hk, sumS_next]
  refine Eq.trans ?_ (set_ofW (k := 8) hk (sumS_lt x y k) (Nat.mod_lt _ (by decide)))
  congr 1
theorem get_nonneg (n j : Nat) : 0 ≤ (ofN n).getD j 0 := by
  by_cases h : j < 8
  · rw [get_ofW h]; omega
  · rw [List.getD_eq_getElem?_getD, List.getElem?_eq_none (by simp; omega)]; simp
theorem get_lt (n j : Nat) : (ofN n).getD j 0 < 18446744073709551616 := by
  by_cases h : j < 8
  · rw [get_ofW h]; have := wd_lt n j; omega
  · rw [List.getD_eq_getElem?_getD, List.getElem?_eq_none (by simp; omega)]; simp
theorem next64 {k : Nat} (h : k < 4611686018427387904) : IntKind.i64.wrap ((k : Int) + 1) = ((k + 1 : Nat) : Int) := by rw [w64_of] <;> omega

/-! ### The compiler's own functions -/
theorem add64_ok {a b c : Int} (ha : 0 ≤ a) (hb : 0 ≤ b) (hc : 0 ≤ c ∧ c ≤ 1) : Fn PR 82 [.sc (.v (.int .u64 a)), .sc (.v (.int .u64 b)), .sc (.v (.int .u64 c))] (.tu [.sc (.v (.int .u64 ((a + b + c) % 18446744073709551616))), .sc (.v (.int .u64 ((a + b + c) / 18446744073709551616)))]) := by
  intro E W us hro hus
  obtain ⟨_, _, rfl, ⟨rfl, _⟩, _, _, rfl, ⟨rfl, _⟩, _, _, rfl, ⟨rfl, _⟩, hnil⟩ := hus
  simp only [cmsR] at hnil
  subst hnil
  left
  refine ⟨.tuple #[.int .u64 ((a + b + c) % 18446744073709551616), .int .u64 ((a + b + c) / 18446744073709551616)], ?_, E, ⟨_, rfl, _, _, rfl, ⟨rfl, rfl⟩, _, _, rfl, ⟨rfl, rfl⟩, rfl⟩, ⟨rfl, rfl, rfl, Nat.le_refl _, fun _ _ => rfl⟩, fun b hb => ⟨hro b hb, .inl hb⟩⟩
  obtain ⟨a, rfl⟩ := Int.eq_ofNat_of_zero_le ha
  obtain ⟨b, rfl⟩ := Int.eq_ofNat_of_zero_le hb
  obtain ⟨c, rfl⟩ := Int.eq_ofNat_of_zero_le hc.1
  have hc' : c ≤ 1 := by omega
  rw [run_callFunc_extern Try.func82 (by kernel_rfl) (by kernel_rfl) (by kernel_rfl) (e := fun args => do
    let (x, y, c) ← Extern.MathBitsCarry.three "Add64" args
    pure (Extern.MathBitsCarry.pair ((x + y + c) % Extern.MathBitsCarry.m64) ((x + y + c) / Extern.MathBitsCarry.m64))) (by kernel_rfl)]
  have : c = 0 ∨ c = 1 := by omega
  rcases this with rfl | rfl <;> rfl
theorem sub64_ok {a b c : Int} (ha : 0 ≤ a) (hb : 0 ≤ b) (hc : 0 ≤ c ∧ c ≤ 1) (ha2 : a < 18446744073709551616) (hb2 : b < 18446744073709551616) : Fn PR 130 [.sc (.v (.int .u64 a)), .sc (.v (.int .u64 b)), .sc (.v (.int .u64 c))] (.tu [.sc (.v (.int .u64 ((a - b - c) % 18446744073709551616))), .sc (.v (.int .u64 (if a < b + c then 1 else 0)))]) := by
  intro E W us hro hus
  obtain ⟨_, _, rfl, ⟨rfl, _⟩, _, _, rfl, ⟨rfl, _⟩, _, _, rfl, ⟨rfl, _⟩, hnil⟩ := hus
  simp only [cmsR] at hnil
  subst hnil
  left
  refine ⟨.tuple #[.int .u64 ((a - b - c) % 18446744073709551616), .int .u64 (if a < b + c then 1 else 0)], ?_, E, ⟨_, rfl, _, _, rfl, ⟨rfl, rfl⟩, _, _, rfl, ⟨rfl, rfl⟩, rfl⟩, ⟨rfl, rfl, rfl, Nat.le_refl _, fun _ _ => rfl⟩, fun b hb => ⟨hro b hb, .inl hb⟩⟩
  obtain ⟨a, rfl⟩ := Int.eq_ofNat_of_zero_le ha
  obtain ⟨b, rfl⟩ := Int.eq_ofNat_of_zero_le hb
  obtain ⟨c, rfl⟩ := Int.eq_ofNat_of_zero_le hc.1
  have hc' : c ≤ 1 := by omega
  rw [run_callFunc_extern Try.func130 (by kernel_rfl) (by kernel_rfl) (by kernel_rfl) (e := fun args => do
    let (x, y, b) ← Extern.MathBitsCarry.three "Sub64" args
    pure (Extern.MathBitsCarry.pair ((x + Extern.MathBitsCarry.m64 - y - b) % Extern.MathBitsCarry.m64) (if x < y + b then 1 else 0))) (by kernel_rfl)]
  have h : ∀ c : Nat, c ≤ 1 → Result.ok (Next.value (Extern.MathBitsCarry.pair ((a + Extern.MathBitsCarry.m64 - b - c) % Extern.MathBitsCarry.m64) (if a < b + c then 1 else 0))) W =
      .ok (.value (.tuple #[.int .u64 (((a : Int) - b - c) % 18446744073709551616), .int .u64 (if (a : Int) < b + c then 1 else 0)])) W := by
    intro c hc
    have hm : Extern.MathBitsCarry.m64 = 18446744073709551616 := rfl
    have e1 : (((a + 18446744073709551616 - b - c) % 18446744073709551616 : Nat) : Int) = ((a : Int) - b - c) % 18446744073709551616 := by omega
    have e2 : (((if a < b + c then 1 else 0 : Nat)) : Int) = if (a : Int) < b + c then 1 else 0 := by split <;> split <;> omega
    simp only [Extern.MathBitsCarry.pair, hm, Int.ofNat_eq_natCast]
    rw [e1, e2]
  have : c = 0 ∨ c = 1 := by omega
  rcases this with rfl | rfl
  · exact h 0 (by omega)
  · exact h 1 (by omega)
end Go.Proofs.Ytbbakacfhajohaa.Av

/- Plain mathematics: numbers read from text. -/
import Derived.Test.YtbbakacfhajohaaWq
namespace Go.Proofs.Ytbbakacfhajohaa.Av
set_option linter.unusedVariables false

theorem sn_get (s : ByteArray) (i : Nat) : 0 ≤ (strNums s).getD i 0 ∧ (strNums s).getD i 0 < 256 := by
  unfold strNums
  rw [List.getD_eq_getElem?_getD, List.getElem?_map]
  cases h : s.data.toList[i]? with
  | none => simp
  | some b => have := b.toNat_lt; simp; omega
/-- Every byte is a digit by the base. -/
def okd (base : Int) (bs : List Int) : Prop := ∀ i, i < bs.length → vald (bs.getD i 0) < base
/-- What the first i digits stand for. -/
def pacc (base : Int) (bs : List Int) : Nat → Int
  | 0 => 0
  | i + 1 => pacc base bs i * base + vald (bs.getD i 0)
theorem vald_pos (c : Int) : 0 ≤ vald c ∧ vald c ≤ 99 := by unfold vald; split <;> (try split) <;> (try split) <;> omega
theorem pacc_nonneg {base : Int} {bs : List Int} (hb : 0 ≤ base) : ∀ i, 0 ≤ pacc base bs i
  | 0 => Int.le_refl _
  | i + 1 => by
    have := Int.mul_nonneg (pacc_nonneg (bs := bs) hb i) hb
    have := (vald_pos (bs.getD i 0)).1
    show 0 ≤ pacc base bs i * base + vald (bs.getD i 0)
    omega
theorem all_next {base : Int} {bs : List Int} {i : Nat} (h : ∀ j, j < i → vald (bs.getD j 0) < base) (h2 : vald (bs.getD i 0) < base) : ∀ j, j < i + 1 → vald (bs.getD j 0) < base := by
  intro j hj
  rcases Nat.lt_or_ge j i with h3 | h3
  · exact h j h3
  · rw [show j = i by omega]; exact h2
theorem small_top {z : Int} (h0 : -9223372036854775808 ≤ z) (h1 : z ≤ 9223372036854775807) : z.natAbs < top := by
  have := wabs z
  rwa [w64_of h0 h1] at this
theorem vald_top (c : Int) : (vald c).natAbs < top := small_top (by have := vald_pos c; omega) (by have := vald_pos c; omega)
theorem pacc_le {base : Int} {bs : List Int} (hb : 1 ≤ base) (i : Nat) : pacc base bs i ≤ pacc base bs i * base ∧ pacc base bs i * base ≤ pacc base bs (i + 1) := by
  have h0 := pacc_nonneg (bs := bs) (show 0 ≤ base by omega) i
  refine ⟨?_, ?_⟩
  · have := Int.mul_le_mul_of_nonneg_left hb h0
    rwa [Int.mul_one] at this
  · have := (vald_pos (bs.getD i 0)).1
    show _ ≤ pacc base bs i * base + vald (bs.getD i 0)
    omega
theorem pacc_mono {base : Int} {bs : List Int} (hb : 1 ≤ base) {i : Nat} : ∀ {j : Nat}, i ≤ j → pacc base bs i ≤ pacc base bs j
  | 0, h => by rw [show i = 0 by omega]; exact Int.le_refl _
  | j + 1, h => by
    rcases Nat.eq_or_lt_of_le h with h1 | h1
    · rw [h1]; exact Int.le_refl _
    · have h2 := pacc_mono (bs := bs) hb (show i ≤ j by omega)
      have h3 := pacc_le (bs := bs) hb j
      omega
theorem pacc_fit {base : Int} {bs : List Int} {n i : Nat} (hb : 1 ≤ base) (hN : (pacc base bs n).natAbs < top) (hi : i < n) :
    (pacc base bs i).natAbs < top ∧ (pacc base bs i * base).natAbs < top ∧ (pacc base bs i * base + vald (bs.getD (i : Int).toNat 0)).natAbs < top := by
  have h1 := pacc_le (bs := bs) hb i
  have h2 := pacc_mono (bs := bs) hb (show i + 1 ≤ n by omega)
  have h0 := pacc_nonneg (bs := bs) (show 0 ≤ base by omega) i
  have h3 : pacc base bs i * base + vald (bs.getD (i : Int).toNat 0) = pacc base bs (i + 1) := rfl
  rw [h3]
  refine ⟨?_, ?_, ?_⟩ <;> omega
end Go.Proofs.Ytbbakacfhajohaa.Av

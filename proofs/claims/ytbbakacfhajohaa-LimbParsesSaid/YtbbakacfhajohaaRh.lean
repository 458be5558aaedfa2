/- Plain mathematics for ref07.Text. -/
import Derived.Test.YtbbakacfhajohaaRb
import Derived.Test.YtbbakacfhajohaaMaE
namespace Go.Proofs.Ytbbakacfhajohaa.Av
set_option linter.unusedVariables false
/-- The digits while they are divided by ten: those below i still as they were. -/
def mx (y k i : Nat) : List Int := (List.range k).map fun j => ((if j < i then dgt y j else dgt (y / 10) j : Nat) : Int)
theorem mx_len (y k i : Nat) : (mx y k i).length = k := by simp [mx]
theorem mx_start (y k : Nat) : mx y k k = dk y k := by
  unfold mx dk
  exact List.map_congr_left fun j hj => by rw [if_pos (List.mem_range.1 hj)]
theorem mx_end (y k : Nat) : mx y k 0 = dk (y / 10) k := by
  unfold mx dk
  exact List.map_congr_left fun j hj => by rw [if_neg (by omega)]
theorem mx_get {y k i : Nat} (h : i < k) : (mx y k (i + 1)).getD i 0 = ((dgt y i : Nat) : Int) := by
  simp [mx, List.getD_eq_getElem?_getD, h]
theorem mx_set {y k i : Nat} (hi : i < k) {w : Int} (hw : w = ((dgt (y / 10) i : Nat) : Int)) : (mx y k (i + 1)).set i w = mx y k i := by
  apply List.ext_getElem
  · simp [mx]
  · intro j h1 h2
    rw [List.getElem_set]
    simp only [mx, List.getElem_map, List.getElem_range]
    split
    · rename_i e; subst e; rw [if_neg (by omega), hw]
    · rename_i e
      by_cases hj : j < i
      · rw [if_pos (by omega), if_pos hj]
      · rw [if_neg (by omega), if_neg hj]
theorem tx_split (y i : Nat) : y / pB i = y / pB (i + 1) * 65536 + dgt y i := div_dgt y i
theorem tx_rem (y i : Nat) : (((y / pB (i + 1) % 10 : Nat) : Int) * (65536 : Int) + ((dgt y i : Nat) : Int)) % (10 : Int) = ((y / pB i % 10 : Nat) : Int) := by
  rw [tx_split y i]; omega
theorem tx_quo (y i : Nat) : (((y / pB (i + 1) % 10 : Nat) : Int) * (65536 : Int) + ((dgt y i : Nat) : Int)) / (10 : Int) = ((dgt (y / 10) i : Nat) : Int) := by
  have h := dgt_lt y i
  have e : dgt (y / 10) i = y / pB i / 10 % 65536 := by unfold dgt; rw [Nat.div_div_eq_div_mul, Nat.mul_comm 10, ← Nat.div_div_eq_div_mul]
  rw [e, tx_split y i]; omega
theorem tx_r0 (y : Nat) : (0 : Int) = ((y / pB (nd y) % 10 : Nat) : Int) := by rw [Nat.div_eq_of_lt (nd_lt y)]; rfl
def DIG : ByteArray := ⟨#[48, 49, 50, 51, 52, 53, 54, 55, 56, 57]⟩
def rtx (out : List Int) : ByteArray := strOfNums out.reverse
theorem strOf_app (a b : List Int) : strOfNums a ++ strOfNums b = strOfNums (a ++ b) := by
  apply ByteArray.ext
  rw [ByteArray.data_append]
  simp [strOfNums]
theorem dig_cut : ∀ r : Fin 10, DIG.extract r.val (r.val + 1) = strOfNums [((48 + r.val : Nat) : Int)] := by decide
theorem tx_app {y r : Nat} {out : List Int} (hr : r = y % 10) : DIG.extract (((r : Nat) : Int)).toNat ((((r : Nat) : Int)) + (1 : Int)).toNat ++ rtx out = rtx (out ++ [((48 + y % 10 : Nat) : Int)]) := by
  subst hr
  have h := dig_cut ⟨y % 10, by omega⟩
  have e : ((((y % 10 : Nat) : Int)) + (1 : Int)).toNat = y % 10 + 1 := by omega
  rw [Int.toNat_natCast, e]
  unfold rtx
  rw [List.reverse_append, List.reverse_singleton, ← strOf_app, ← h]
def rI (n y : Nat) (out : List Int) : Prop := (y ≠ 0 ∧ out ++ dl y = dl n) ∨ (y = 0 ∧ out = dl n)
theorem rI_next {n y : Nat} {out : List Int} (h : rI n y out) (hy : y ≠ 0) : rI n (y / 10) (out ++ [((48 + y % 10 : Nat) : Int)]) := by
  rcases h with ⟨_, h⟩ | ⟨h0, _⟩
  · rw [dl] at h
    split at h
    · right; exact ⟨by omega, h⟩
    · left; exact ⟨by omega, by rw [List.append_assoc]; exact h⟩
  · exact absurd h0 hy
theorem rI_end {n y : Nat} {out : List Int} (h : rI n y out) (hy : y = 0) : out = dl n := by
  rcases h with ⟨h0, _⟩ | ⟨_, h⟩
  · exact absurd hy h0
  · exact h
theorem dl_nd {n k : Nat} (h : nd n ≤ k) : (dl n).length ≤ 16 * k + 1 := dl_len (16 * k) n (by rw [← pB_pow]; exact nd_le.2 h)
theorem rI_len {n y : Nat} {out : List Int} (hn : nd n ≤ 1000) (h : rI n y out) : out.length ≤ 16001 := by
  have := dl_nd hn
  rcases h with ⟨_, h⟩ | ⟨_, rfl⟩
  · have e := congrArg List.length h; rw [List.length_append] at e; omega
  · exact this
theorem rtx_size (out : List Int) : (rtx out).size = out.length := by unfold rtx; simp [strOfNums, ByteArray.size]
theorem tx_zero {z : Int} (h : z = 0) : (⟨#[48]⟩ : ByteArray) = txt z := by subst h; unfold txt; rw [show (0 : Int).natAbs = 0 by rfl, dl, if_pos (by decide)]; rfl
theorem tx_neg {z : Int} (h : decide (z < 0) = true) : (⟨#[45]⟩ : ByteArray) ++ rtx (dl z.natAbs) = txt z := by
  unfold txt rtx
  rw [h]
  show strOfNums [45] ++ _ = strOfNums ((dl z.natAbs ++ [45]).reverse)
  rw [strOf_app, List.reverse_append]; rfl
theorem tx_pos {z : Int} (h : decide (z < 0) = false) : rtx (dl z.natAbs) = txt z := by unfold txt rtx; rw [h]; rfl
theorem tx_sz {a b : Nat} {out : List Int} (h : out.length ≤ 16001) : (((DIG.extract a b).size + (rtx out).size : Nat) : Int) ≤ 9223372036854775807 := by
  rw [rtx_size, ByteArray.size_extract]
  have : DIG.size = 10 := rfl
  omega
theorem len_t' {z : Int} (h : (((dg z.natAbs).length : Int) == (0 : Int)) = true) : z = 0 := by
  rw [dg_len] at h
  have h := eq_of_beq h
  have := nd_pos (n := z.natAbs); omega
theorem len_f' {z : Int} (h : (((dg z.natAbs).length : Int) == (0 : Int)) = false) : z ≠ 0 := by
  rintro rfl; revert h; rw [show (0 : Int).natAbs = 0 by rfl, dg_zero]; intro h; cases h
theorem tl_top {k : Int} (h0 : -9223372036854775808 ≤ k) (h1 : k ≤ 9223372036854775807) : k.natAbs < top :=
  Nat.lt_of_lt_of_le (show k.natAbs < pB 4 by rw [pB_four]; omega) (by rw [top_pB rfl]; exact pB_le (by decide))
theorem tl_bits {n : Bool} {x : Nat} {a : Int} (ha : iz n x = a) : (((bl x : Nat) : Int) != ((bl a.natAbs : Nat) : Int)) = false := by rw [tr_len ha]; exact bne_self_eq_false _
theorem tl_big {a : Int} (h : ¬ (-9223372036854775808 ≤ a ∧ a ≤ 9223372036854775807)) : decide (((bl a.natAbs : Nat) : Int) > (63 : Int)) = true := by
  refine decide_eq_true (Decidable.byContradiction fun hn => ?_)
  have := lt_bl (n := a.natAbs) (b := 63) (by omega)
  omega
end Go.Proofs.Ytbbakacfhajohaa.Av

/- Plain mathematics for ref07.Digit, Parse. -/
import Derived.Test.YtbbakacfhajohaaRh
import Derived.Test.YtbbakacfhajohaaMaF
namespace Go.Proofs.Ytbbakacfhajohaa.Av
set_option linter.unusedVariables false
def SMD : ByteArray := ⟨#[48, 49, 50, 51, 52, 53, 54, 55, 56, 57, 97, 98, 99, 100, 101, 102]⟩
def GRD : ByteArray := ⟨#[48, 49, 50, 51, 52, 53, 54, 55, 56, 57, 65, 66, 67, 68, 69, 70]⟩
theorem smd_all : ∀ i : Fin 16, sbyte SMD ((i.val : Nat) : Int) = if i.val < 10 then 48 + (i.val : Int) else 87 + (i.val : Int) := by decide
theorem grd_all : ∀ i : Fin 16, sbyte GRD ((i.val : Nat) : Int) = if i.val < 10 then 48 + (i.val : Int) else 55 + (i.val : Int) := by decide
theorem smd_get {i : Nat} (h : i < 16) : sbyte SMD ((i : Nat) : Int) = if i < 10 then 48 + (i : Int) else 87 + (i : Int) := smd_all ⟨i, h⟩
theorem grd_get {i : Nat} (h : i < 16) : sbyte GRD ((i : Nat) : Int) = if i < 10 then 48 + (i : Int) else 55 + (i : Int) := grd_all ⟨i, h⟩
theorem smd_hit {i : Nat} {c : Int} (h : i < 16) (e : (sbyte SMD ((i : Nat) : Int) == c) = true) : vald c = (i : Int) := by
  have e := eq_of_beq e
  rw [smd_get h] at e
  unfold vald
  split at e <;> split <;> (try split) <;> (try split) <;> omega
theorem grd_hit {i : Nat} {c : Int} (h : i < 16) (e : (sbyte GRD ((i : Nat) : Int) == c) = true) : vald c = (i : Int) := by
  have e := eq_of_beq e
  rw [grd_get h] at e
  unfold vald
  split at e <;> split <;> (try split) <;> (try split) <;> omega
theorem dig_miss {i : Nat} {c : Int} (h : i < 16) (e : (sbyte SMD ((i : Nat) : Int) == c) = false) (e2 : (sbyte GRD ((i : Nat) : Int) == c) = false) : vald c ≠ (i : Int) := by
  have e := ne_of_beq_false e
  have e2 := ne_of_beq_false e2
  rw [smd_get h] at e
  rw [grd_get h] at e2
  unfold vald
  split at e <;> split at e2 <;> split <;> (try split) <;> (try split) <;> omega
theorem vald_16 {c : Int} (h : ¬ vald c < 16) : vald c = 99 := by revert h; unfold vald; split <;> (try split) <;> (try split) <;> omega
theorem sb_sn (s : ByteArray) (i : Nat) : sbyte s ((i : Nat) : Int) = (strNums s).getD i 0 := by
  unfold sbyte strNums
  rw [List.getD_eq_getElem?_getD, List.getD_eq_getElem?_getD, List.getElem?_map, Int.toNat_natCast]
  cases s.data.toList[i]? <;> rfl
theorem sb_lo (s : ByteArray) (i : Nat) : 0 ≤ sbyte s ((i : Nat) : Int) := by rw [sb_sn]; exact (sn_get s i).1
theorem sb_hi (s : ByteArray) (i : Nat) : sbyte s ((i : Nat) : Int) < 256 := by rw [sb_sn]; exact (sn_get s i).2
theorem sn_len (s : ByteArray) : (strNums s).length = s.size := by unfold strNums; rw [List.length_map]; exact Array.length_toList
theorem nd_one {x : Nat} (h : x < 65536) : nd x ≤ 1 := nd_le.1 (by rw [pB_succ, pB_zero]; omega)
theorem empty_t {s : ByteArray} (h : s.size = 0) : (s.toList == ByteArray.empty.toList) = true := by
  have : s = ByteArray.empty := by
    apply ByteArray.ext
    exact Array.eq_empty_of_size_eq_zero h
  rw [this]; exact beq_self_eq_true _
theorem cut600 (s : ByteArray) : (s.extract 0 (if (600 : Int) < (s.size : Int) then (600 : Int) else (s.size : Int)).toNat).size ≤ 600 := by
  rw [ByteArray.size_extract]; split <;> omega
end Go.Proofs.Ytbbakacfhajohaa.Av

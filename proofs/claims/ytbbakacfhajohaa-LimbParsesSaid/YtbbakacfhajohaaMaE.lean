/- Plain mathematics: decimal text. -/
import Derived.Test.YtbbakacfhajohaaMaD
import Derived.Test.YtbbakacfhajohaaRev
namespace Go.Proofs.Ytbbakacfhajohaa.Av
set_option linter.unusedVariables false

/-- The decimal digits, the lowest first, as bytes. -/
def dl (x : Nat) : List Int := if x < 10 then [((48 + x % 10 : Nat) : Int)] else ((48 + x % 10 : Nat) : Int) :: dl (x / 10)
termination_by x
decreasing_by omega
theorem dl_len : ∀ (n x : Nat), x < 2 ^ n → (dl x).length ≤ n + 1
  | 0, x, h => by
    rw [dl, if_pos (by omega)]; exact Nat.le_refl _
  | n + 1, x, h => by
    rw [dl]
    split
    · simp
    · rw [List.length_cons]
      have := dl_len n (x / 10) (by rw [Nat.pow_succ] at h; omega)
      omega
theorem dl_top {x e : Nat} (he : e = 512) (hx : x < top) : (dl x).length ≤ 513 := by
  have h := bl_top (e := 8) rfl hx
  have := dl_len e x (Nat.lt_of_lt_of_le (lt_bl (Nat.le_refl _)) (Nat.pow_le_pow_right (by decide) (by omega)))
  omega
/-- What stands between the number that is left and the digits told. -/
def txI (x w : Nat) (out : List Int) : Prop := (w = 0 ∧ out ≠ [] ∧ out = dl x) ∨ ((w ≠ 0 ∨ out = []) ∧ out ++ dl w = dl x)
theorem txI_start (x : Nat) : txI x x [] := .inr ⟨.inr rfl, rfl⟩
theorem dg8 (w : Nat) : IntKind.u8.wrap ((48 : Int) + ((w % 10 : Nat) : Int)) = ((48 + w % 10 : Nat) : Int) := by rw [w8_def]; omega
theorem txI_next {x w : Nat} {out : List Int} (h : txI x w out) (hw : w ≠ 0 ∨ out = []) : txI x (w / 10) (out ++ [((48 + w % 10 : Nat) : Int)]) := by
  have h : out ++ dl w = dl x := by
    rcases h with ⟨h1, h2, _⟩ | ⟨_, h⟩
    · rcases hw with hw | hw
      · exact absurd h1 hw
      · exact absurd hw h2
    · exact h
  rw [dl] at h
  split at h
  · left; exact ⟨by omega, by simp, h⟩
  · right; exact ⟨.inl (by omega), by rw [List.append_assoc]; exact h⟩
theorem txI_len {x w : Nat} {out : List Int} (hx : x < top) (h : txI x w out) : out.length ≤ 513 := by
  have := dl_top rfl hx
  rcases h with ⟨_, _, rfl⟩ | ⟨_, h⟩
  · exact this
  · have e := congrArg List.length h
    rw [List.length_append] at e; omega
theorem txI_end {x w : Nat} {out : List Int} (h : txI x w out) (h0 : w = 0) (h1 : out ≠ []) : out = dl x := by
  rcases h with ⟨_, _, h⟩ | ⟨h, _⟩
  · exact h
  · rcases h with h | h
    · exact absurd h0 h
    · exact absurd h h1
theorem dl_ne (x : Nat) : dl x ≠ [] := by rw [dl]; split <;> simp
theorem dl_pos (x : Nat) : 0 < (dl x).length := List.length_pos_iff.2 (dl_ne x)
/-- A number's text. -/
def txt (z : Int) : ByteArray := strOfNums (bif decide (z < 0) then (dl z.natAbs ++ [45]).reverse else (dl z.natAbs).reverse)
theorem len_eq0 {out : List Int} (h : out ≠ []) : ((out.length : Int) == 0) = false := by
  have := List.length_pos_iff.2 h
  rw [beq_eq_false_iff_ne]; omega
end Go.Proofs.Ytbbakacfhajohaa.Av

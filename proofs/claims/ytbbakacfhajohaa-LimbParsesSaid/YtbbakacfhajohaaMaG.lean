/- The chapter's example, and numbers joined bit by bit. -/
import Derived.Test.YtbbakacfhajohaaMaF
import Derived.Test.YtbbakacfhajohaaMaE
namespace Go.Proofs.Ytbbakacfhajohaa.Av
set_option linter.unusedVariables false
def WB : ByteArray := ⟨#[45, 52]⟩
theorem wabs_lit6 : (6 : Int).natAbs < top := small_top (by decide) (by decide)
theorem works_and : jn nAnd (-1) 6 = 6 := by
  obtain ⟨k, hk⟩ : ∃ k, k = 9 := ⟨_, rfl⟩
  have h1 : e9i (-1) = 2 ^ (64 * k) - 1 := by
    have := p9_pos
    unfold e9i
    rw [show (-1 : Int) = ((p9 - 1 : Nat) : Int) + (p9 : Int) * (-1) by omega, Int.add_mul_emod_self_left, ← Int.natCast_emod, Int.toNat_natCast, Nat.mod_eq_of_lt (by omega), p9_k hk]
  have hb : (6 : Int).natAbs < top := wabs_lit6
  have h2 := top_le_p9
  have h6 : 6 < p9 := by
    have : (6 : Int).natAbs = 6 := rfl
    omega
  have h7 : (7 : Int).natAbs < top := small_top (by decide) (by decide)
  have h8 : (7 : Int).natAbs = 7 := rfl
  have h3 : e9i 6 = 6 := by
    unfold e9i
    have : ((6 : Nat) : Int) % (p9 : Int) = ((6 : Nat) : Int) := by rw [← Int.natCast_emod, Nat.mod_eq_of_lt h6]
    show (((6 : Nat) : Int) % (p9 : Int)).toNat = 6
    rw [this]; rfl
  unfold jn nAnd
  rw [h1, h3, Nat.and_comm, Nat.and_two_pow_sub_one_eq_mod, ← p9_k hk, Nat.mod_eq_of_lt h6]
  unfold jz
  rw [if_neg (show ¬ p9 ≤ 2 * 6 by omega)]
  rfl
theorem works_txt : txt (-4) = WB := by
  unfold txt
  rw [show (-4 : Int).natAbs = 4 from rfl, dl, if_pos (by decide)]
  rfl
end Go.Proofs.Ytbbakacfhajohaa.Av

/- Contracts of limb in one form, whether the number fits or not. -/
import Derived.Test.YtbbakacfhajohaaMaH
namespace Go.Proofs.Ytbbakacfhajohaa.Av
set_option linter.unusedVariables false
theorem or_tl {a b : Bool} (h : a = true) : (a || b) = true := by rw [h]; rfl
theorem or_tr {a b : Bool} (k : b = true) : (a || b) = true := by rw [k, Bool.or_true]
theorem or_f {a b : Bool} (h : a = false) (k : b = false) : (a || b) = false := by rw [h, k]; rfl
abbrev bA (b : Bool) : AV := .c (.sc (.v (.bool b)))
/-- A number's cells. -/
def iS (z : Int) : List Seg := [.one (.v (.bool (decide (z < 0)))), .row .u64 8 (ofN z.natAbs)]
def nS (n : Bool) (x : Nat) : List Seg := [.one (.v (.bool n)), .row .u64 8 (ofN x)]
def fit (z : Int) : Bool := decide (z.natAbs < top)
def clip (z : Int) : Int := bif fit z then z else 0
def ov (z : Int) : Int := bif fit z then 0 else 9
theorem fit_t {z : Int} : fit z = true ↔ z.natAbs < top := decide_eq_true_iff
theorem fit_f {z : Int} : fit z = false ↔ ¬ z.natAbs < top := decide_eq_false_iff_not
theorem clip_of {z : Int} (h : z.natAbs < top) : clip z = z := by unfold clip; rw [fit_t.2 h]; rfl
theorem clip_no {z : Int} (h : ¬ z.natAbs < top) : clip z = 0 := by unfold clip; rw [fit_f.2 h]; rfl
theorem ov_of {z : Int} (h : z.natAbs < top) : ov z = 0 := by unfold ov; rw [fit_t.2 h]; rfl
theorem ov_no {z : Int} (h : ¬ z.natAbs < top) : ov z = 9 := by unfold ov; rw [fit_f.2 h]; rfl
theorem ov_z {z : Int} : (ov z == 0) = true ↔ z.natAbs < top := by
  constructor
  · intro h
    refine Decidable.byContradiction fun hn => ?_
    rw [ov_no hn] at h; cases h
  · intro h; rw [ov_of h]; rfl
theorem ov_nz {z : Int} : (ov z == 0) = false ↔ ¬ z.natAbs < top := by
  constructor
  · intro h hn; rw [ov_of hn] at h; cases h
  · intro h; rw [ov_no h]; rfl
theorem clip_top (z : Int) : (clip z).natAbs < top := by
  unfold clip fit
  cases h : decide (z.natAbs < top)
  · exact top_pos
  · exact of_decide_eq_true h
theorem iS_zero : zI = iS 0 := by unfold zI iS; rw [z8_eq]; rfl
def erT : Nat := 104
theorem two_u {f : FuncId} {args : List Cm} {z : Int} (h1 : z.natAbs < top → Fn PR f args (.tu [.ag (iS z), .sc (.v .nilIface)])) (h2 : ¬ z.natAbs < top → Fn PR f args (.tu [.ag zI, .sc (.v (.iface erT (.int .i64 9)))])) :
    Fn PR f args (.tu [.ag (iS (clip z)), .sc (.ee erT (ov z))]) := by
  by_cases h : z.natAbs < top
  · rw [clip_of h]
    exact (h1 h).le (AV.le_tu (.cons rfl (.le (le_nil (ov_of h)) .nil)))
  · rw [clip_no h, ← iS_zero]
    exact (h2 h).le (AV.le_tu (.cons rfl (.le (le_err (ov_no h) rfl) .nil)))
section
variable (n m : Bool) (x y : Nat) (hx : x < top) (hy : y < top) (a b : Int) (ha : iz n x = a) (hb : iz m y = b)
include hx hy ha hb
theorem add_u : Fn PR 19 [.ag (nS n x), .ag (nS m y)] (.tu [.ag (iS (clip (a + b))), .sc (.ee erT (ov (a + b)))]) := two_u (add_ok n m x y hx hy a b ha hb) (add_no n m x y hx hy a b ha hb)
theorem sub_u : Fn PR 47 [.ag (nS n x), .ag (nS m y)] (.tu [.ag (iS (clip (a - b))), .sc (.ee erT (ov (a - b)))]) := two_u (sub_ok n m x y hx hy a b ha hb) (sub_no n m x y hx hy a b ha hb)
theorem mul_u : Fn PR 18 [.ag (nS n x), .ag (nS m y)] (.tu [.ag (iS (clip (a * b))), .sc (.ee erT (ov (a * b)))]) := two_u (mul_ok n m x y hx hy a b ha hb) (mul_no n m x y hx hy a b ha hb)
theorem and_u : Fn PR 28 [.ag (nS n x), .ag (nS m y)] (.tu [.ag (iS (clip (jn nAnd a b))), .sc (.ee erT (ov (jn nAnd a b)))]) := two_u (and_ok n m x y hx hy a b ha hb) (and_no n m x y hx hy a b ha hb)
theorem or_u : Fn PR 29 [.ag (nS n x), .ag (nS m y)] (.tu [.ag (iS (clip (jn nOr a b))), .sc (.ee erT (ov (jn nOr a b)))]) := two_u (or_ok n m x y hx hy a b ha hb) (or_no n m x y hx hy a b ha hb)
theorem xor_u : Fn PR 30 [.ag (nS n x), .ag (nS m y)] (.tu [.ag (iS (clip (jn nXor a b))), .sc (.ee erT (ov (jn nXor a b)))]) := two_u (xor_ok n m x y hx hy a b ha hb) (xor_no n m x y hx hy a b ha hb)
theorem andnot_u : Fn PR 31 [.ag (nS n x), .ag (nS m y)] (.tu [.ag (iS (clip (jn nNot a b))), .sc (.ee erT (ov (jn nNot a b)))]) := two_u (andnot_ok n m x y hx hy a b ha hb) (andnot_no n m x y hx hy a b ha hb)
end
theorem shl_u (n : Bool) (x : Nat) (hx : x < top) (z : Int) (hz : iz n x = z) (k : Nat) : Fn PR 33 [.ag (nS n x), .sc (.v (.int .i64 (k : Int)))] (.tu [.ag (iS (clip (z * 2 ^ k))), .sc (.ee erT (ov (z * 2 ^ k)))]) :=
  two_u (shl_ok n x hx z hz k) (shl_no n x hx z hz k)
theorem shr_u (n : Bool) (x : Nat) (hx : x < top) (z : Int) (hz : iz n x = z) (k : Nat) (hk : k ≤ 9223372036854775807) : Fn PR 34 [.ag (nS n x), .sc (.v (.int .i64 (k : Int)))] (.tu [.ag (iS (z / 2 ^ k)), .sc (.ee erT 0)]) := by
  rcases Nat.lt_or_ge k 512 with h | h
  · exact (shr_small n x hx z hz k h).le (AV.le_tu (.cons rfl (.le (le_nil rfl) .nil)))
  · exact (shr_big n x hx z hz k h hk).le (AV.le_tu (.cons rfl (.le (le_nil rfl) .nil)))
/-- LimbLaws: the sum's part. -/
theorem laws_tail {a b c : Int} (h1 : (ov (a + b) == 0) = true) (h2 : (ov (clip (a + b) * c) == 0) = true) (h3 : (ov (a * c) == 0) = true) (h4 : (ov (b * c) == 0) = true) (h5 : (ov (clip (a * c) + clip (b * c)) == 0) = true) :
    ((sg (clip (clip (a + b) * c)) (clip (clip (a * c) + clip (b * c)))) == (0 : Int)) = true := by
  rw [ov_z] at h1 h2 h3 h4 h5
  rw [clip_of h2, clip_of h5, clip_of h1, clip_of h3, clip_of h4, Int.add_mul]
  simp [sg]
end Go.Proofs.Ytbbakacfhajohaa.Av

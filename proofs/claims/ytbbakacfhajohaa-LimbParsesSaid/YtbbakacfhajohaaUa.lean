/- Contracts of limb in one form, whether the number fits or not. -/
import Derived.Test.YtbbakacfhajohaaWb
namespace Go.Proofs.Ytbbakacfhajohaa.Av
set_option linter.unusedVariables false
theorem or_tl {a b : Bool} (h : a = true) : (a || b) = true := by rw [h]; rfl
theorem or_tr {a b : Bool} (k : b = true) : (a || b) = true := by rw [k, Bool.or_true]
theorem or_f {a b : Bool} (h : a = false) (k : b = false) : (a || b) = false := by rw [h, k]; rfl
/-- A number's cells. -/
def iS (z : Int) : List Seg := [.one (.v (.bool (decide (z < 0)))), .row .u64 8 (ofN z.natAbs)]
def nS (n : Bool) (x : Nat) : List Seg := [.one (.v (.bool n)), .row .u64 8 (ofN x)]
def fit (z : Int) : Bool := decide (z.natAbs < top)
def clip (z : Int) : Int := bif fit z then z else 0
def ov (z : Int) : Int := bif fit z then 0 else 9
theorem fit_t {z : Int} : fit z = true ↔ z.natAbs < top := decide_eq_true_iff
theorem fit_f {z : Int} : fit z = false ↔ ¬ z.natAbs < top := decide_eq_false_iff_not
theorem clip_of {z : Int} (h : z.natAbs < top) : clip z = z := by unfold clip; rw [fit_t.2 h]; rfl
theorem clip_no {z : Int} (h : ¬ z.natAbs < top) : clip z = 0 := by unfold clip; rw [fit_f.2 h]; rfl
theorem ov_of {z : Int} (h : z.natAbs < top) : ov z = 0 := by unfold ov; rw [fit_t.2 h]; rfl
theorem ov_no {z : Int} (h : ¬ z.natAbs < top) : ov z = 9 := by unfold ov; rw [fit_f.2 h]; rfl
theorem ov_z {z : Int} : (ov z == 0) = true ↔ z.natAbs < top := by
  constructor
  · intro h
    refine Decidable.byContradiction fun hn => ?_
    rw [ov_no hn] at h; cases h
  · intro h; rw [ov_of h]; rfl
theorem ov_nz {z : Int} : (ov z == 0) = false ↔ ¬ z.natAbs < top := by
  constructor
  · intro h hn; rw [ov_of hn] at h; cases h
  · intro h; rw [ov_no h]; rfl
theorem clip_top (z : Int) : (clip z).natAbs < top := by
  unfold clip fit
  cases h : decide (z.natAbs < top)
  · exact top_pos
  · exact of_decide_eq_true h
theorem iS_zero : zI = iS 0 := by unfold zI iS; rw [z8_eq]; rfl
def erT : Nat := 104
theorem two_u {f : FuncId} {args : List Cm} {z : Int} (h1 : z.natAbs < top → Fn PR f args (.tu [.ag (iS z), .sc (.v .nilIface)])) (h2 : ¬ z.natAbs < top → Fn PR f args (.tu [.ag zI, .sc (.v (.iface erT (.int .i64 9)))])) :
    Fn PR f args (.tu [.ag (iS (clip z)), .sc (.ee erT (ov z))]) := by
  by_cases h : z.natAbs < top
  · rw [clip_of h]
    exact (h1 h).le (AV.le_tu (.cons rfl (.le (le_nil (ov_of h)) .nil)))
  · rw [clip_no h, ← iS_zero]
    exact (h2 h).le (AV.le_tu (.cons rfl (.le (le_err (ov_no h) rfl) .nil)))
section
variable (n m : Bool) (x y : Nat) (hx : x < top) (hy : y < top) (a b : Int) (ha : iz n x = a) (hb : iz m y = b)
include hx hy ha hb
theorem add_u : Fn PR 19 [.ag (nS n x), .ag (nS m y)] (.tu [.ag (iS (clip (a + b))), .sc (.ee erT (ov (a + b)))]) := two_u (add_ok n m x y hx hy a b ha hb) (add_no n m x y hx hy a b ha hb)
theorem sub_u : Fn PR 47 [.ag (nS n x), .ag (nS m y)] (.tu [.ag (iS (clip (a - b))), .sc (.ee erT (ov (a - b)))]) := two_u (sub_ok n m x y hx hy a b ha hb) (sub_no n m x y hx hy a b ha hb)
theorem mul_u : Fn PR 18 [.ag (nS n x), .ag (nS m y)] (.tu [.ag (iS (clip (a * b))), .sc (.ee erT (ov (a * b)))]) := two_u (mul_ok n m x y hx hy a b ha hb) (mul_no n m x y hx hy a b ha hb)
end
/-- LimbLaws: the sum's part. -/
theorem laws_tail {a b c : Int} (h1 : (ov (a + b) == 0) = true) (h2 : (ov (clip (a + b) * c) == 0) = true) (h3 : (ov (a * c) == 0) = true) (h4 : (ov (b * c) == 0) = true) (h5 : (ov (clip (a * c) + clip (b * c)) == 0) = true) :
    ((sg (clip (clip (a + b) * c)) (clip (clip (a * c) + clip (b * c)))) == (0 : Int)) = true := by
  rw [ov_z] at h1 h2 h3 h4 h5
  rw [clip_of h2, clip_of h5, clip_of h1, clip_of h3, clip_of h4, Int.add_mul]
  simp [sg]
end Go.Proofs.Ytbbakacfhajohaa.Av

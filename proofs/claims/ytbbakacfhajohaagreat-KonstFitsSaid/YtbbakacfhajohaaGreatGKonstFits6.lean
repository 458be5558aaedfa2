import Derived.Test.YtbbakacfhajohaaGreatGKonstFits5
import Derived.Test.YtbbakacfhajohaaGreatRows
import Derived.ProofKit
import Derived.OpenShut
import Derived.OpenVars
import Derived.Below
namespace Go.Proofs.YtbbakacfhajohaaGreat.Av
set_option linter.unusedVariables false
set_option linter.unusedSimpArgs false
set_option maxRecDepth 20000
set_option maxHeartbeats 1000000
theorem konstFits_ok (A : KC) (hA : A.ok) (i : Int) : Fn PR 7 [.ag (kG A), kI i] (aB true) := by
  exact fwN (t := (.leaf [oP 14 (aG (kG (fw A))), oP 18 (.tu [.ag (kG ((cv12 (fw A) i).1)), kE 66 ((cv12 (fw A) i).2)]), oP 24 (.tu [.ag (kG ((cv12 (fw A) i).1)), kI ((cv12 (fw A) i).2)]), oP 30 (.tu [.ag (kG ((nt12 (fw A) i).1)), kE 66 ((nt12 (fw A) i).2)]), oP 36 (.tu [.ag (kG ((nt12 (fw A) i).1)), kI ((nt12 (fw A) i).2)]), oP 41 (aE 66 (fi (fw A) i)), oP 42 (aI (fi (fw A) i)), oP 45 (aI (fi (fw A) i)), .b true, .b true, .b true, .b true, .b true, oP 54 (aI ((cv12 (fw A) i).2)), .b true, .b true, .b true, .b true, .b true, .b true, .b true, oP 65 (aI ((nt12 (fw A) i).2)), .b true, .b true, .b true, oP 70 (aB true), .cut [4] [], .chk (⟨[(4, aB true)], []⟩)])) Tryz.func7 (fun ke => (aa (cP Tryz.f7 1 1 (kfew_ok A)) (aa (cP Tryz.f7 2 2 (kconvert_ok (fw A) (fw_ok hA) i)) (aa (cP Tryz.f7 3 2 (rkconvert_ok (fw A) (fw_ok hA) i)) (aa (cP Tryz.f7 4 2 (knot_ok (fw A) (fw_ok hA) i)) (aa (cP Tryz.f7 5 2 (rknot_ok (fw A) (fw_ok hA) i)) (aa (cP Tryz.f7 6 2 (kfits_ok (fw A) (fw_ok hA) i)) (aa (cP Tryz.f7 6 3 (show Fn PR 19 [kE 66 (fi (fw A) i)] (aI (fi (fw A) i)) from (code_ok (fi (fw A) i) (fi_b25 _ _ ).1 (fi_b25 _ _ ).2))) (aa (cP Tryz.f7 6 6 (rkfits_ok (fw A) (fw_ok hA) i)) (aa (beq_self_eq_true (fi (fw A) i)) (aa (beq_self_eq_true (fi (fw A) i)) (aa (beq_self_eq_true (fi (fw A) i)) (aa (bif_t (y := false) (beq_self_eq_true (fi (fw A) i)) (and_t (beq_self_eq_true (((cv12 (fw A) i).1).k)) (and_t (beq_self_eq_true (((cv12 (fw A) i).1).b)) (and_t (beq_self_eq_true ((((cv12 (fw A) i).1).s).toList)) (and_t (and_t (and_t (beq_self_eq_true (((cv12 (fw A) i).1).n)) (and_t (beq_self_eq_true (ofN ((cv12 (fw A) i).1).x)) tt)) (and_t (and_t (beq_self_eq_true (((cv12 (fw A) i).1).m)) (and_t (beq_self_eq_true (ofN ((cv12 (fw A) i).1).y)) tt)) tt)) tt))))) (aa (bif_t (y := false) (beq_self_eq_true (fi (fw A) i)) (and_t (beq_self_eq_true (((cv12 (fw A) i).1).k)) (and_t (beq_self_eq_true (((cv12 (fw A) i).1).b)) (and_t (beq_self_eq_true ((((cv12 (fw A) i).1).s).toList)) (and_t (and_t (and_t (beq_self_eq_true (((cv12 (fw A) i).1).n)) (and_t (beq_self_eq_true (ofN ((cv12 (fw A) i).1).x)) tt)) (and_t (and_t (beq_self_eq_true (((cv12 (fw A) i).1).m)) (and_t (beq_self_eq_true (ofN ((cv12 (fw A) i).1).y)) tt)) tt)) tt))))) (aa (cP Tryz.f7 6 15 (show Fn PR 19 [kE 66 ((cv12 (fw A) i).2)] (aI ((cv12 (fw A) i).2)) from (code_ok ((cv12 (fw A) i).2) (cv_b25 _ _ ).1 (cv_b25 _ _ ).2))) (aa (bif_t (y := false) (beq_self_eq_true (fi (fw A) i)) (and_t (beq_self_eq_true (((cv12 (fw A) i).1).k)) (and_t (beq_self_eq_true (((cv12 (fw A) i).1).b)) (and_t (beq_self_eq_true ((((cv12 (fw A) i).1).s).toList)) (and_t (and_t (and_t (beq_self_eq_true (((cv12 (fw A) i).1).n)) (and_t (beq_self_eq_true (ofN ((cv12 (fw A) i).1).x)) tt)) (and_t (and_t (beq_self_eq_true (((cv12 (fw A) i).1).m)) (and_t (beq_self_eq_true (ofN ((cv12 (fw A) i).1).y)) tt)) tt)) tt))))) (aa (bif_t (y := false) (beq_self_eq_true (fi (fw A) i)) (and_t (beq_self_eq_true (((cv12 (fw A) i).1).k)) (and_t (beq_self_eq_true (((cv12 (fw A) i).1).b)) (and_t (beq_self_eq_true ((((cv12 (fw A) i).1).s).toList)) (and_t (and_t (and_t (beq_self_eq_true (((cv12 (fw A) i).1).n)) (and_t (beq_self_eq_true (ofN ((cv12 (fw A) i).1).x)) tt)) (and_t (and_t (beq_self_eq_true (((cv12 (fw A) i).1).m)) (and_t (beq_self_eq_true (ofN ((cv12 (fw A) i).1).y)) tt)) tt)) tt))))) (aa (bif_t (y := false) (bif_t (y := false) (beq_self_eq_true (fi (fw A) i)) (and_t (beq_self_eq_true (((cv12 (fw A) i).1).k)) (and_t (beq_self_eq_true (((cv12 (fw A) i).1).b)) (and_t (beq_self_eq_true ((((cv12 (fw A) i).1).s).toList)) (and_t (and_t (and_t (beq_self_eq_true (((cv12 (fw A) i).1).n)) (and_t (beq_self_eq_true (ofN ((cv12 (fw A) i).1).x)) tt)) (and_t (and_t (beq_self_eq_true (((cv12 (fw A) i).1).m)) (and_t (beq_self_eq_true (ofN ((cv12 (fw A) i).1).y)) tt)) tt)) tt))))) (beq_self_eq_true ((cv12 (fw A) i).2))) (aa (bif_t (y := false) (bif_t (y := false) (beq_self_eq_true (fi (fw A) i)) (and_t (beq_self_eq_true (((cv12 (fw A) i).1).k)) (and_t (beq_self_eq_true (((cv12 (fw A) i).1).b)) (and_t (beq_self_eq_true ((((cv12 (fw A) i).1).s).toList)) (and_t (and_t (and_t (beq_self_eq_true (((cv12 (fw A) i).1).n)) (and_t (beq_self_eq_true (ofN ((cv12 (fw A) i).1).x)) tt)) (and_t (and_t (beq_self_eq_true (((cv12 (fw A) i).1).m)) (and_t (beq_self_eq_true (ofN ((cv12 (fw A) i).1).y)) tt)) tt)) tt))))) (beq_self_eq_true ((cv12 (fw A) i).2))) (aa (bif_t (y := false) (bif_t (y := false) (beq_self_eq_true (fi (fw A) i)) (and_t (beq_self_eq_true (((cv12 (fw A) i).1).k)) (and_t (beq_self_eq_true (((cv12 (fw A) i).1).b)) (and_t (beq_self_eq_true ((((cv12 (fw A) i).1).s).toList)) (and_t (and_t (and_t (beq_self_eq_true (((cv12 (fw A) i).1).n)) (and_t (beq_self_eq_true (ofN ((cv12 (fw A) i).1).x)) tt)) (and_t (and_t (beq_self_eq_true (((cv12 (fw A) i).1).m)) (and_t (beq_self_eq_true (ofN ((cv12 (fw A) i).1).y)) tt)) tt)) tt))))) (beq_self_eq_true ((cv12 (fw A) i).2))) (aa (bif_t (y := false) (bif_t (y := false) (bif_t (y := false) (beq_self_eq_true (fi (fw A) i)) (and_t (beq_self_eq_true (((cv12 (fw A) i).1).k)) (and_t (beq_self_eq_true (((cv12 (fw A) i).1).b)) (and_t (beq_self_eq_true ((((cv12 (fw A) i).1).s).toList)) (and_t (and_t (and_t (beq_self_eq_true (((cv12 (fw A) i).1).n)) (and_t (beq_self_eq_true (ofN ((cv12 (fw A) i).1).x)) tt)) (and_t (and_t (beq_self_eq_true (((cv12 (fw A) i).1).m)) (and_t (beq_self_eq_true (ofN ((cv12 (fw A) i).1).y)) tt)) tt)) tt))))) (beq_self_eq_true ((cv12 (fw A) i).2))) (and_t (beq_self_eq_true (((nt12 (fw A) i).1).k)) (and_t (beq_self_eq_true (((nt12 (fw A) i).1).b)) (and_t (beq_self_eq_true ((((nt12 (fw A) i).1).s).toList)) (and_t (and_t (and_t (beq_self_eq_true (((nt12 (fw A) i).1).n)) (and_t (beq_self_eq_true (ofN ((nt12 (fw A) i).1).x)) tt)) (and_t (and_t (beq_self_eq_true (((nt12 (fw A) i).1).m)) (and_t (beq_self_eq_true (ofN ((nt12 (fw A) i).1).y)) tt)) tt)) tt))))) (aa (bif_t (y := false) (bif_t (y := false) (bif_t (y := false) (beq_self_eq_true (fi (fw A) i)) (and_t (beq_self_eq_true (((cv12 (fw A) i).1).k)) (and_t (beq_self_eq_true (((cv12 (fw A) i).1).b)) (and_t (beq_self_eq_true ((((cv12 (fw A) i).1).s).toList)) (and_t (and_t (and_t (beq_self_eq_true (((cv12 (fw A) i).1).n)) (and_t (beq_self_eq_true (ofN ((cv12 (fw A) i).1).x)) tt)) (and_t (and_t (beq_self_eq_true (((cv12 (fw A) i).1).m)) (and_t (beq_self_eq_true (ofN ((cv12 (fw A) i).1).y)) tt)) tt)) tt))))) (beq_self_eq_true ((cv12 (fw A) i).2))) (and_t (beq_self_eq_true (((nt12 (fw A) i).1).k)) (and_t (beq_self_eq_true (((nt12 (fw A) i).1).b)) (and_t (beq_self_eq_true ((((nt12 (fw A) i).1).s).toList)) (and_t (and_t (and_t (beq_self_eq_true (((nt12 (fw A) i).1).n)) (and_t (beq_self_eq_true (ofN ((nt12 (fw A) i).1).x)) tt)) (and_t (and_t (beq_self_eq_true (((nt12 (fw A) i).1).m)) (and_t (beq_self_eq_true (ofN ((nt12 (fw A) i).1).y)) tt)) tt)) tt))))) (aa (cP Tryz.f7 6 26 (show Fn PR 19 [kE 66 ((nt12 (fw A) i).2)] (aI ((nt12 (fw A) i).2)) from (code_ok ((nt12 (fw A) i).2) (nt_b25 _ _ ).1 (nt_b25 _ _ ).2))) (aa (bif_t (y := false) (bif_t (y := false) (bif_t (y := false) (beq_self_eq_true (fi (fw A) i)) (and_t (beq_self_eq_true (((cv12 (fw A) i).1).k)) (and_t (beq_self_eq_true (((cv12 (fw A) i).1).b)) (and_t (beq_self_eq_true ((((cv12 (fw A) i).1).s).toList)) (and_t (and_t (and_t (beq_self_eq_true (((cv12 (fw A) i).1).n)) (and_t (beq_self_eq_true (ofN ((cv12 (fw A) i).1).x)) tt)) (and_t (and_t (beq_self_eq_true (((cv12 (fw A) i).1).m)) (and_t (beq_self_eq_true (ofN ((cv12 (fw A) i).1).y)) tt)) tt)) tt))))) (beq_self_eq_true ((cv12 (fw A) i).2))) (and_t (beq_self_eq_true (((nt12 (fw A) i).1).k)) (and_t (beq_self_eq_true (((nt12 (fw A) i).1).b)) (and_t (beq_self_eq_true ((((nt12 (fw A) i).1).s).toList)) (and_t (and_t (and_t (beq_self_eq_true (((nt12 (fw A) i).1).n)) (and_t (beq_self_eq_true (ofN ((nt12 (fw A) i).1).x)) tt)) (and_t (and_t (beq_self_eq_true (((nt12 (fw A) i).1).m)) (and_t (beq_self_eq_true (ofN ((nt12 (fw A) i).1).y)) tt)) tt)) tt))))) (aa (bif_t (y := false) (bif_t (y := false) (bif_t (y := false) (beq_self_eq_true (fi (fw A) i)) (and_t (beq_self_eq_true (((cv12 (fw A) i).1).k)) (and_t (beq_self_eq_true (((cv12 (fw A) i).1).b)) (and_t (beq_self_eq_true ((((cv12 (fw A) i).1).s).toList)) (and_t (and_t (and_t (beq_self_eq_true (((cv12 (fw A) i).1).n)) (and_t (beq_self_eq_true (ofN ((cv12 (fw A) i).1).x)) tt)) (and_t (and_t (beq_self_eq_true (((cv12 (fw A) i).1).m)) (and_t (beq_self_eq_true (ofN ((cv12 (fw A) i).1).y)) tt)) tt)) tt))))) (beq_self_eq_true ((cv12 (fw A) i).2))) (and_t (beq_self_eq_true (((nt12 (fw A) i).1).k)) (and_t (beq_self_eq_true (((nt12 (fw A) i).1).b)) (and_t (beq_self_eq_true ((((nt12 (fw A) i).1).s).toList)) (and_t (and_t (and_t (beq_self_eq_true (((nt12 (fw A) i).1).n)) (and_t (beq_self_eq_true (ofN ((nt12 (fw A) i).1).x)) tt)) (and_t (and_t (beq_self_eq_true (((nt12 (fw A) i).1).m)) (and_t (beq_self_eq_true (ofN ((nt12 (fw A) i).1).y)) tt)) tt)) tt))))) (aa (bif_t (y := false) (bif_t (y := false) (bif_t (y := false) (bif_t (y := false) (beq_self_eq_true (fi (fw A) i)) (and_t (beq_self_eq_true (((cv12 (fw A) i).1).k)) (and_t (beq_self_eq_true (((cv12 (fw A) i).1).b)) (and_t (beq_self_eq_true ((((cv12 (fw A) i).1).s).toList)) (and_t (and_t (and_t (beq_self_eq_true (((cv12 (fw A) i).1).n)) (and_t (beq_self_eq_true (ofN ((cv12 (fw A) i).1).x)) tt)) (and_t (and_t (beq_self_eq_true (((cv12 (fw A) i).1).m)) (and_t (beq_self_eq_true (ofN ((cv12 (fw A) i).1).y)) tt)) tt)) tt))))) (beq_self_eq_true ((cv12 (fw A) i).2))) (and_t (beq_self_eq_true (((nt12 (fw A) i).1).k)) (and_t (beq_self_eq_true (((nt12 (fw A) i).1).b)) (and_t (beq_self_eq_true ((((nt12 (fw A) i).1).s).toList)) (and_t (and_t (and_t (beq_self_eq_true (((nt12 (fw A) i).1).n)) (and_t (beq_self_eq_true (ofN ((nt12 (fw A) i).1).x)) tt)) (and_t (and_t (beq_self_eq_true (((nt12 (fw A) i).1).m)) (and_t (beq_self_eq_true (ofN ((nt12 (fw A) i).1).y)) tt)) tt)) tt))))) (beq_self_eq_true ((nt12 (fw A) i).2))) (aa (cP Tryz.f7 6 31 works12_ok) (aa (show Ent 72 ⟨[(4, aB (bif (bif (bif (bif (bif ((fi (fw A) i) == (fi (fw A) i)) then (((((cv12 (fw A) i).1).k) == (((cv12 (fw A) i).1).k)) && (((((cv12 (fw A) i).1).b) == (((cv12 (fw A) i).1).b)) && (((((cv12 (fw A) i).1).s).toList == (((cv12 (fw A) i).1).s).toList) && (((((((cv12 (fw A) i).1).n) == (((cv12 (fw A) i).1).n)) && (((ofN ((cv12 (fw A) i).1).x) == (ofN ((cv12 (fw A) i).1).x)) && true)) && ((((((cv12 (fw A) i).1).m) == (((cv12 (fw A) i).1).m)) && (((ofN ((cv12 (fw A) i).1).y) == (ofN ((cv12 (fw A) i).1).y)) && true)) && true)) && true)))) else false) then (((cv12 (fw A) i).2) == ((cv12 (fw A) i).2)) else false) then (((((nt12 (fw A) i).1).k) == (((nt12 (fw A) i).1).k)) && (((((nt12 (fw A) i).1).b) == (((nt12 (fw A) i).1).b)) && (((((nt12 (fw A) i).1).s).toList == (((nt12 (fw A) i).1).s).toList) && (((((((nt12 (fw A) i).1).n) == (((nt12 (fw A) i).1).n)) && (((ofN ((nt12 (fw A) i).1).x) == (ofN ((nt12 (fw A) i).1).x)) && true)) && ((((((nt12 (fw A) i).1).m) == (((nt12 (fw A) i).1).m)) && (((ofN ((nt12 (fw A) i).1).y) == (ofN ((nt12 (fw A) i).1).y)) && true)) && true)) && true)))) else false) then (((nt12 (fw A) i).2) == ((nt12 (fw A) i).2)) else false) then true else false))], []⟩ (⟨[(4, aB true)], []⟩) from (ent_eqs (.cons (congrArg bA (show (bif (bif (bif (bif (bif ((fi (fw A) i) == (fi (fw A) i)) then (((((cv12 (fw A) i).1).k) == (((cv12 (fw A) i).1).k)) && (((((cv12 (fw A) i).1).b) == (((cv12 (fw A) i).1).b)) && (((((cv12 (fw A) i).1).s).toList == (((cv12 (fw A) i).1).s).toList) && (((((((cv12 (fw A) i).1).n) == (((cv12 (fw A) i).1).n)) && (((ofN ((cv12 (fw A) i).1).x) == (ofN ((cv12 (fw A) i).1).x)) && true)) && ((((((cv12 (fw A) i).1).m) == (((cv12 (fw A) i).1).m)) && (((ofN ((cv12 (fw A) i).1).y) == (ofN ((cv12 (fw A) i).1).y)) && true)) && true)) && true)))) else false) then (((cv12 (fw A) i).2) == ((cv12 (fw A) i).2)) else false) then (((((nt12 (fw A) i).1).k) == (((nt12 (fw A) i).1).k)) && (((((nt12 (fw A) i).1).b) == (((nt12 (fw A) i).1).b)) && (((((nt12 (fw A) i).1).s).toList == (((nt12 (fw A) i).1).s).toList) && (((((((nt12 (fw A) i).1).n) == (((nt12 (fw A) i).1).n)) && (((ofN ((nt12 (fw A) i).1).x) == (ofN ((nt12 (fw A) i).1).x)) && true)) && ((((((nt12 (fw A) i).1).m) == (((nt12 (fw A) i).1).m)) && (((ofN ((nt12 (fw A) i).1).y) == (ofN ((nt12 (fw A) i).1).y)) && true)) && true)) && true)))) else false) then (((nt12 (fw A) i).2) == ((nt12 (fw A) i).2)) else false) then true else false) = true from (bif_t (y := false) (bif_t (y := false) (bif_t (y := false) (bif_t (y := false) (bif_t (y := false) (beq_self_eq_true (fi (fw A) i)) (and_t (beq_self_eq_true (((cv12 (fw A) i).1).k)) (and_t (beq_self_eq_true (((cv12 (fw A) i).1).b)) (and_t (beq_self_eq_true ((((cv12 (fw A) i).1).s).toList)) (and_t (and_t (and_t (beq_self_eq_true (((cv12 (fw A) i).1).n)) (and_t (beq_self_eq_true (ofN ((cv12 (fw A) i).1).x)) tt)) (and_t (and_t (beq_self_eq_true (((cv12 (fw A) i).1).m)) (and_t (beq_self_eq_true (ofN ((cv12 (fw A) i).1).y)) tt)) tt)) tt))))) (beq_self_eq_true ((cv12 (fw A) i).2))) (and_t (beq_self_eq_true (((nt12 (fw A) i).1).k)) (and_t (beq_self_eq_true (((nt12 (fw A) i).1).b)) (and_t (beq_self_eq_true ((((nt12 (fw A) i).1).s).toList)) (and_t (and_t (and_t (beq_self_eq_true (((nt12 (fw A) i).1).n)) (and_t (beq_self_eq_true (ofN ((nt12 (fw A) i).1).x)) tt)) (and_t (and_t (beq_self_eq_true (((nt12 (fw A) i).1).m)) (and_t (beq_self_eq_true (ofN ((nt12 (fw A) i).1).y)) tt)) tt)) tt))))) (beq_self_eq_true ((nt12 (fw A) i).2))) tt))) .nil) .nil)) ke)))))))))))))))))))))))))))) (by kernel_rfl)
end Go.Proofs.YtbbakacfhajohaaGreat.Av
namespace Go.Proofs.YtbbakacfhajohaaGreat.Av
open Go.ChangeShapes Go.WideShapes Go.ChangeAt Go.RowKit
open Go.ChangeMaps (open_string shut_string)
set_option linter.unusedVariables false
set_option linter.unusedSimpArgs false
set_option maxRecDepth 100000
theorem own : ownKnob PR.godebug = none := by kernel_rfl
theorem laidOut : laidOutB PR = true := by kernel_rfl
theorem words_of (f : Nat → Nat) : ∀ k, (∀ i, i < k → f i < 18446744073709551616) → ∃ n, n < 2 ^ (64 * k) ∧ ∀ i, i < k → wd n i = f i
  | 0, _ => ⟨0, by simp, fun i h => by omega⟩
  | k + 1, h => by
    obtain ⟨n, h1, h2⟩ := words_of f k (fun i hi => h i (by omega))
    refine ⟨n + f k * 2 ^ (64 * k), add_lt_next h1 (h k (by omega)), fun i hi => ?_⟩
    rcases Nat.lt_or_ge i k with hlt | hge
    · rw [wd_add_low hlt, h2 i hlt]
    · obtain rfl : i = k := by omega
      rw [wd_add_same h1 (h i (by omega))]
section
variable {H : Type} {enc : TypeId × Value → H} {w : World} {base : Nat} {spare : Nat → Bool} {held : Bool} {fuel : Nat} {cs : List Value} {x : DataW H × List MemPlace}
theorem opn_row (h : DataW.trod enc PR w base spare held fuel 24 cs = some x) : ∃ n, n < top ∧ cs = (ofN n).map (Value.int .u64) := by
  obtain ⟨xs, m, _, _, hlen, hxs, hel⟩ := DataW.trod_array (n := 8) (e := 23) (by kernel_rfl) h
  rw [show PR.cellsOf 24 = 8 by kernel_rfl] at hlen
  have h1 : PR.cellsOf 23 = 1 := by kernel_rfl
  have key : ∀ i, i < 8 → ∃ z : Nat, z < 18446744073709551616 ∧ cs[i]? = some (.int .u64 (z : Int)) := by
    intro i hi
    have := hel i hi
    rw [h1, Nat.mul_one, List.getElem?_eq_getElem (by omega)] at this
    obtain ⟨n, hn, _, hw⟩ := DataW.trod_int (k := .u64) (by kernel_rfl) this
    have hw := bounds_u64 hw
    refine ⟨n.toNat, by omega, ?_⟩
    have e : ((cs.drop i).take 1)[0]? = some (.int .u64 n) := by rw [hn]; rfl
    rw [List.getElem?_take, if_pos (by omega), List.getElem?_drop, Nat.add_zero] at e
    rw [e, Int.toNat_of_nonneg hw.1]
  have hf : ∃ f : Nat → Nat, ∀ i, i < 8 → f i < 18446744073709551616 ∧ cs[i]? = some (.int .u64 ((f i : Nat) : Int)) := by
    refine ⟨fun i => if h : i < 8 then (key i h).choose else 0, fun i hi => ?_⟩
    simp only [dif_pos hi]
    exact (key i hi).choose_spec
  obtain ⟨f, hf⟩ := hf
  obtain ⟨n, hn, hw⟩ := words_of f 8 (fun i hi => (hf i hi).1)
  refine ⟨n, by rw [top_k rfl]; exact hn, ?_⟩
  refine List.ext_getElem? (fun i => ?_)
  rcases Nat.lt_or_ge i 8 with hi | hi
  · rw [(hf i hi).2, List.getElem?_map]
    unfold ofN ofW
    rw [List.getElem?_map, List.getElem?_range hi]
    simp [hw i hi]
  · rw [List.getElem?_eq_none (by omega), List.getElem?_eq_none (by simp [ofN]; omega)]
theorem opn_int (h : DataW.trod enc PR w base spare held fuel 26 cs = some x) : ∃ (b : Bool) (n : Nat), n < top ∧ cs = .bool b :: (ofN n).map (Value.int .u64) := by
  obtain ⟨xs, m, _, _, hlen, hxs, hel⟩ := DataW.trod_struct Tryz.underlying26 h
  rw [show PR.cellsOf 26 = 9 by kernel_rfl] at hlen
  simp only [List.size_toArray, List.length_cons, List.length_nil] at hxs
  have h0 : DataW.trod enc PR w base spare held m 4 ((cs.drop 0).take (PR.cellsOf 4)) = xs[0]? := hel 0 _ rfl
  have h1 : DataW.trod enc PR w base spare held m 24 ((cs.drop 1).take (PR.cellsOf 24)) = xs[1]? := hel 1 _ rfl
  rw [show PR.cellsOf 4 = 1 by kernel_rfl, List.getElem?_eq_getElem (by omega)] at h0
  rw [show PR.cellsOf 24 = 8 by kernel_rfl, List.getElem?_eq_getElem (by omega)] at h1
  obtain ⟨b, hb, _⟩ := DataW.trod_bool (by kernel_rfl) h0
  obtain ⟨n, hn, hc⟩ := opn_row h1
  refine ⟨b, n, hn, ?_⟩
  match cs, hlen, hb, hc with
  | c :: cs, hlen, hb, hc =>
    simp only [List.drop_zero, List.take_succ_cons, List.take_zero, List.cons.injEq, and_true] at hb
    rw [List.drop_succ_cons, List.drop_zero, List.take_of_length_le (by simp at hlen; omega)] at hc
    rw [hb, hc]
theorem opn_rat (h : DataW.trod enc PR w base spare held fuel 28 cs = some x) : ∃ (b c : Bool) (n d : Nat), n < top ∧ d < top ∧ cs = (.bool b :: (ofN n).map (Value.int .u64)) ++ .bool c :: (ofN d).map (Value.int .u64) := by
  obtain ⟨xs, m, _, _, hlen, hxs, hel⟩ := DataW.trod_struct Tryz.underlying28 h
  rw [show PR.cellsOf 28 = 18 by kernel_rfl] at hlen
  simp only [List.size_toArray, List.length_cons, List.length_nil] at hxs
  have h0 : DataW.trod enc PR w base spare held m 26 ((cs.drop 0).take (PR.cellsOf 26)) = xs[0]? := hel 0 _ rfl
  have h1 : DataW.trod enc PR w base spare held m 26 ((cs.drop 9).take (PR.cellsOf 26)) = xs[1]? := hel 1 _ rfl
  rw [show PR.cellsOf 26 = 9 by kernel_rfl, List.getElem?_eq_getElem (by omega)] at h0
  rw [show PR.cellsOf 26 = 9 by kernel_rfl, List.getElem?_eq_getElem (by omega)] at h1
  obtain ⟨b, n, hn, e0⟩ := opn_int h0
  obtain ⟨c, d, hd, e1⟩ := opn_int h1
  refine ⟨b, c, n, d, hn, hd, ?_⟩
  rw [List.drop_zero] at e0
  rw [List.take_of_length_le (by simp; omega)] at e1
  rw [← e0, ← e1, List.take_append_drop]
theorem opn_const (h : DataW.trod enc PR w base spare held fuel 30 cs = some x) : ∃ (k : Int) (v : Bool) (s : ByteArray) (b c : Bool) (n d : Nat), (Lit.int .i64 k).wf = true ∧ s.size ≤ maxLen ∧ n < top ∧ d < top ∧
    cs = .int .i64 k :: .bool v :: .string s :: ((.bool b :: (ofN n).map (Value.int .u64)) ++ .bool c :: (ofN d).map (Value.int .u64)) := by
  obtain ⟨xs, m, _, _, hlen, hxs, hel⟩ := DataW.trod_struct Tryz.underlying30 h
  rw [show PR.cellsOf 30 = 21 by kernel_rfl] at hlen
  simp only [List.size_toArray, List.length_cons, List.length_nil] at hxs
  have h0 : DataW.trod enc PR w base spare held m 3 ((cs.drop 0).take (PR.cellsOf 3)) = xs[0]? := hel 0 _ rfl
  have h1 : DataW.trod enc PR w base spare held m 4 ((cs.drop 1).take (PR.cellsOf 4)) = xs[1]? := hel 1 _ rfl
  have h2 : DataW.trod enc PR w base spare held m 9 ((cs.drop 2).take (PR.cellsOf 9)) = xs[2]? := hel 2 _ rfl
  have h3 : DataW.trod enc PR w base spare held m 28 ((cs.drop 3).take (PR.cellsOf 28)) = xs[3]? := hel 3 _ rfl
  rw [show PR.cellsOf 3 = 1 by kernel_rfl, List.getElem?_eq_getElem (by omega)] at h0
  rw [show PR.cellsOf 4 = 1 by kernel_rfl, List.getElem?_eq_getElem (by omega)] at h1
  rw [show PR.cellsOf 9 = 1 by kernel_rfl, List.getElem?_eq_getElem (by omega)] at h2
  rw [show PR.cellsOf 28 = 18 by kernel_rfl, List.getElem?_eq_getElem (by omega)] at h3
  obtain ⟨k, e0, _, hk⟩ := DataW.trod_int (k := .i64) (by kernel_rfl) h0
  obtain ⟨v, e1, _⟩ := DataW.trod_bool (by kernel_rfl) h1
  obtain ⟨s, e2, _, hs⟩ := DataW.trod_string (by kernel_rfl) h2
  obtain ⟨b, c, n, d, hn, hd, e3⟩ := opn_rat h3
  refine ⟨k, v, s, b, c, n, d, hk, hs, hn, hd, ?_⟩
  match cs, hlen, e0, e1, e2, e3 with
  | c0 :: c1 :: c2 :: cs, hlen, e0, e1, e2, e3 =>
    simp only [List.drop_zero, List.drop_succ_cons, List.take_succ_cons, List.take_zero, List.cons.injEq, and_true] at e0 e1 e2
    simp only [List.drop_zero, List.drop_succ_cons] at e3
    rw [List.take_of_length_le (by simp at hlen; omega)] at e3
    rw [e0, e1, e2, e3]
end
def E0 : En := ⟨fun _ => 0, fun _ => none, fun _ => False⟩
theorem rS_R (W : World) (b : Bool) (n : Nat) (c : Bool) (d : Nat) : segsR E0 W (rS b n c d) ((.bool b :: (ofN n).map (Value.int .u64)) ++ .bool c :: (ofN d).map (Value.int .u64)) :=
  ⟨[.bool b], _, rfl, ⟨_, rfl, rfl, rfl⟩, (ofN n).map (Value.int .u64), _, rfl, ⟨rfl, by simp [ofN]⟩, [.bool c], _, rfl, ⟨_, rfl, rfl, rfl⟩, (ofN d).map (Value.int .u64), [], (List.append_nil _).symm, ⟨rfl, by simp [ofN]⟩, rfl⟩
theorem arg_const {H : Type} {enc : TypeId × Value → H} {w : World} {base : Nat} {spare : Nat → Bool} {held : Bool} {r : Reach} {b0 : Nat} {v : Value} {d : DataW H} {p : List MemPlace} (hv : Value.okWide PR w r b0 30 v) (h : DataW.Trod enc PR w base spare held 30 v d p) :
    ∃ (k : Int) (t : Bool) (s : ByteArray) (b : Bool) (n : Nat) (c : Bool) (d : Nat), (Lit.int .i64 k).wf = true ∧ s.size ≤ maxLen ∧ n < top ∧ d < top ∧ Cm.R E0 w (.ag (kS k t s b n c d)) v := by
  obtain ⟨cs, rfl, hsz⟩ := okWide_struct Tryz.underlying30 hv
  obtain ⟨fuel, hf⟩ := h
  obtain ⟨k, t, s, b, c, n, d, hk, hs, hn, hd, e⟩ := opn_const hf
  exact ⟨k, t, s, b, n, c, d, hk, hs, hn, hd, cs.toList, by simp, by
    rw [show cs.toList = _ from e]
    exact ⟨[_], _, rfl, ⟨_, rfl, rfl, rfl⟩, [_], _, rfl, ⟨_, rfl, rfl, rfl⟩, [_], _, rfl, ⟨_, rfl, rfl, rfl⟩, rS_R w b n c d⟩⟩
theorem law_calls {f : FuncId} {args : List Cm} {us : List Value} {W : World} (h : Fn PR f args (.c (.sc (.v (.bool true))))) (hargs : cmsR E0 W args us) (hbody : ∀ v, (callFunc f us.toArray).run PR W ≠ .ok (.value v) W) :
    Calls PR f us.toArray W fun e W' => e = .returned (.bool true) ∧ Below W.heap.size W W' := by
  rcases h E0 W us (fun _ h => h.elim) hargs with ⟨v, hv, _⟩ | ⟨_, hp⟩
  · exact absurd hv (hbody v)
  · refine hp.mono ?_
    rintro e W' ⟨v, rfl, E', hR, hP, _⟩
    obtain ⟨rfl, _⟩ := hR
    exact ⟨rfl, hP.os, hP.tape, hP.output, hP.size, hP.block⟩
theorem enters {f : FuncId} {fn : Func} {c : Code} (hf : PR.funcs[f]? = some fn) (hname : (fn.name == "runtime.NumGoroutine") = false) (hb : fn.body = some c) (us : Array Value) (W : World) (v : Value) : (callFunc f us).run PR W ≠ .ok (.value v) W := by
  have h1 : fn.name ≠ "runtime.NumGoroutine" := by simpa using hname
  simp [callFunc, hf, h1, hb]
end Go.Proofs.YtbbakacfhajohaaGreat.Av

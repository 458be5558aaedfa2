import Derived.Test.YtbbakacfhajohaaGreatGKonstFits3
import Derived.Lib.Bytealg
import Derived.Laws.BytesArg
namespace Go.Proofs.YtbbakacfhajohaaGreat.Av
set_option linter.unusedVariables false
set_option linter.unusedSimpArgs false
set_option maxRecDepth 20000
set_option maxHeartbeats 1000000
theorem kbool_ok (b : Bool) : Fn PR 21 [kB b] (aG [.one (.v (.int .i64 1)), .one (.v (.bool b)), .one (.v (.string ByteArray.empty)), .one (.v (.bool false)), .row .u64 8 z8, .one (.v (.bool false)), .row .u64 8 z8]) := by
  exact fwN (t := (.leaf [.cut [2] [2]])) Tryz.func21 (fun ke => ke) (by kernel_rfl)
theorem kstring_ok (s : ByteArray) : Fn PR 22 [.sc (.v (.string s))] (aG [.one (.v (.int .i64 2)), .one (.v (.bool false)), .one (.v (.string s)), .one (.v (.bool false)), .row .u64 8 z8, .one (.v (.bool false)), .row .u64 8 z8]) := by
  exact fwN (t := (.leaf [.cut [2] [2]])) Tryz.func22 (fun ke => ke) (by kernel_rfl)
theorem knumber_ok (A : KC) : Fn PR 36 [.ag (kG A)] (aB (numB A)) := by
  let S1 : St := ⟨[(2, aB (numB A))], []⟩
  exact fwN (t := (.sp [] (decide (A.k ≥ (3 : Int))) (.leaf [.b true, .b true, .b true, .cut [2] [], .chk S1]) (.leaf [.b false, .b false, .b false, .cut [2] [], .chk S1]))) Tryz.func36 (fun ke => (sb (decide (A.k ≥ (3 : Int))) (fun c0 => (aa c0 (aa c0 (aa c0 (aa (show Ent 11 ⟨[(2, aB (bif (decide (A.k ≥ (3 : Int))) then (decide (A.k ≤ (5 : Int))) else false))], []⟩ S1 from (ent_eqs (.cons (by simp [numB, c0]) .nil) .nil)) ke))))) (fun c0 => (aa c0 (aa c0 (aa c0 (aa c0 (aa (show Ent 11 ⟨[(2, aB false)], []⟩ S1 from (ent_eqs (.cons (by simp [numB, c0]) .nil) .nil)) ke)))))))) (by kernel_rfl)
theorem told_ok (k : Int) (n : Bool) (x : Nat) (m : Bool) (y : Nat) (c : Int) : Fn PR 42 [kI k, .ag (rS n x m y), kE 66 c] (.tu [.ag (kG (tdK k n x m y c)), kE 66 c]) := by
  let S2 : St := ⟨[(6, aP 6 0), (7, aE 66 c)], [(6, .sg 30 (kG (tdK k n x m y c)))]⟩
  exact fwN (t := (.sp [] (c == (0 : Int)) (.leaf [.b false, .cut [6, 7] [6], .chk S2]) (.leaf [.b true, .cut [6, 7] [6], .chk S2]))) Tryz.func42 (fun ke => (sb (c == (0 : Int)) (fun c0 => (aa (not_f c0) (aa (show Ent 15 ⟨[(6, aP 6 0), (7, .c (.sc (.v .nilIface)))], [(6, .sg 30 [.one (.v (.int .i64 k)), .one (.v (.bool false)), .one (.v (.string ByteArray.empty)), .one (.v (.bool n)), .row .u64 8 (ofN x), .one (.v (.bool m)), .row .u64 8 (ofN y)])]⟩ S2 from ((ent_les (.cons rfl (.le (le_nil (eq_of_beq c0)) .nil))).trans (ent_eqs (.cons rfl (.cons rfl .nil)) (.cons (by first | (rw [tdK_t c0]; done) | (rw [tdK_t c0]; rfl) | (rw [tdK_f c0]; exact congrArg (fun l => Blk.sg 30 l) kG_Z)) .nil)))) ke))) (fun c0 => (aa (not_t c0) (aa (show Ent 15 ⟨[(6, aP 6 0), (7, aE 66 c)], [(6, .sg 30 [.one (.v (.int .i64 0)), .one (.v (.bool false)), .one (.v (.string ByteArray.empty)), .one (.v (.bool false)), .row .u64 8 z8, .one (.v (.bool false)), .row .u64 8 z8])]⟩ S2 from (ent_eqs (.cons rfl (.cons rfl .nil)) (.cons (by first | (rw [tdK_t c0]; done) | (rw [tdK_t c0]; rfl) | (rw [tdK_f c0]; exact congrArg (fun l => Blk.sg 30 l) kG_Z)) .nil))) ke))))) (by kernel_rfl)
theorem kwhole_ok (k z c : Int) : Fn PR 39 [kI k, .ag (iS z), kE 66 c] (.tu [.ag (kG (whK k z c)), kE 66 c]) := by
  let S1 : St := ⟨[(6, aP 6 0), (7, aE 66 c)], [(6, .sg 30 (kG (whK k z c)))]⟩
  exact fwN (t := (.leaf [oP 10 (aG (iS (1 : Int))), oP 13 (.tu [.ag (kG (tdK k (decide (z < 0)) z.natAbs (decide ((1 : Int) < 0)) ((1 : Int).natAbs) c)), kE 66 c]), .cut [6, 7] [6], .chk S1])) Tryz.func39 (fun ke => (aa (cP Tryz.f39 1 2 (of_ok (1 : Int) (by first | omega | decide | exact w64_lo _) (by first | omega | decide | exact w64_hi _))) (aa (cP Tryz.f39 1 5 (told_ok k (decide (z < 0)) z.natAbs (decide ((1 : Int) < 0)) ((1 : Int).natAbs) c)) (aa (show Ent 16 ⟨[(6, aP 6 0), (7, aE 66 c)], [(6, .sg 30 (kG (tdK k (decide (z < 0)) z.natAbs (decide ((1 : Int) < 0)) ((1 : Int).natAbs) c)))]⟩ S1 from (ent_eqs (.cons rfl (.cons rfl .nil)) (.cons (by rfl) .nil))) ke)))) (by kernel_rfl)
theorem kcheck_ok (A : KC) (hA : A.ok) : Fn PR 10 [.ag (kG A)] (aE 66 (ckE A)) := by
  let S0 : St := ⟨[(2, .c (.sc (.v (.iface 66 (.int .i64 8)))))], []⟩
  let S1 : St := ⟨[(2, aE 66 (rkE A.n A.x A.m A.y))], []⟩
  exact fwN (t := (.sp [] (A.k == (1 : Int)) (.sp [.b true, oP 18 (aG [.one (.v (.int .i64 1)), .one (.v (.bool A.b)), .one (.v (.string ByteArray.empty)), .one (.v (.bool false)), .row .u64 8 z8, .one (.v (.bool false)), .row .u64 8 z8])] (A.s.toList == ByteArray.empty.toList) (.sp [] (A.n == false) (.sp [] ((ofN A.x) == z8) (.sp [] (A.m == false) (.sp [] ((ofN A.y) == z8) (.leaf [.b false, .cut [2] [], .chk (⟨[(2, aE 66 (ckE A))], []⟩)]) (.leaf [.b true, .cut [2] [], .chk (⟨[(2, aE 66 (ckE A))], []⟩)])) (.leaf [.b true, .cut [2] [], .chk (⟨[(2, aE 66 (ckE A))], []⟩)])) (.leaf [.b true, .cut [2] [], .chk (⟨[(2, aE 66 (ckE A))], []⟩)])) (.leaf [.b true, .cut [2] [], .chk (⟨[(2, aE 66 (ckE A))], []⟩)])) (.leaf [.b true, .cut [2] [], .chk (⟨[(2, aE 66 (ckE A))], []⟩)])) (.sp [.b false] (A.k == (2 : Int)) (.sp [.b true, oP 24 (aG [.one (.v (.int .i64 2)), .one (.v (.bool false)), .one (.v (.string A.s)), .one (.v (.bool false)), .row .u64 8 z8, .one (.v (.bool false)), .row .u64 8 z8])] (A.b == false) (.sp [] (A.n == false) (.sp [] ((ofN A.x) == z8) (.sp [] (A.m == false) (.sp [] ((ofN A.y) == z8) (.leaf [.b false, .cut [2] [], .chk (⟨[(2, aE 66 (ckE A))], []⟩)]) (.leaf [.b true, .cut [2] [], .chk (⟨[(2, aE 66 (ckE A))], []⟩)])) (.leaf [.b true, .cut [2] [], .chk (⟨[(2, aE 66 (ckE A))], []⟩)])) (.leaf [.b true, .cut [2] [], .chk (⟨[(2, aE 66 (ckE A))], []⟩)])) (.leaf [.b true, .cut [2] [], .chk (⟨[(2, aE 66 (ckE A))], []⟩)])) (.leaf [.b true, .cut [2] [], .chk (⟨[(2, aE 66 (ckE A))], []⟩)])) (.sp [.b false] (A.k == (3 : Int)) (.sp [.b true, oP 29 (aB (whB A.n A.x A.m A.y))] (whB A.n A.x A.m A.y) (.sp [.b false] (A.b == false) (.sp [] (A.s.toList == ByteArray.empty.toList) (.leaf [.b false, oP 42 (aE 66 (rkE A.n A.x A.m A.y)), .cut [2] [], .chk (⟨[(2, aE 66 (ckE A))], []⟩)]) (.leaf [.b true, .cut [2] [], .chk (⟨[(2, aE 66 (ckE A))], []⟩)])) (.leaf [.b true, .cut [2] [], .chk (⟨[(2, aE 66 (ckE A))], []⟩)])) (.leaf [.b true, .cut [2] [], .chk (⟨[(2, aE 66 (ckE A))], []⟩)])) (.sp [.b false] (A.k == (4 : Int)) (.sp [.b true, oP 29 (aB (whB A.n A.x A.m A.y))] (whB A.n A.x A.m A.y) (.sp [.b false] (A.b == false) (.sp [] (A.s.toList == ByteArray.empty.toList) (.leaf [.b false, oP 42 (aE 66 (rkE A.n A.x A.m A.y)), .cut [2] [], .chk (⟨[(2, aE 66 (ckE A))], []⟩)]) (.leaf [.b true, .cut [2] [], .chk (⟨[(2, aE 66 (ckE A))], []⟩)])) (.leaf [.b true, .cut [2] [], .chk (⟨[(2, aE 66 (ckE A))], []⟩)])) (.leaf [.b true, .cut [2] [], .chk (⟨[(2, aE 66 (ckE A))], []⟩)])) (.sp [.b false] (A.k == (5 : Int)) (.sp [.b true] (A.b == false) (.sp [] (A.s.toList == ByteArray.empty.toList) (.leaf [.b false, oP 42 (aE 66 (rkE A.n A.x A.m A.y)), .cut [2] [], .chk (⟨[(2, aE 66 (ckE A))], []⟩)]) (.leaf [.b true, .cut [2] [], .chk (⟨[(2, aE 66 (ckE A))], []⟩)])) (.leaf [.b true, .cut [2] [], .chk (⟨[(2, aE 66 (ckE A))], []⟩)])) (.leaf [.b false, .cut [2] [], .chk (⟨[(2, aE 66 (ckE A))], []⟩)]))))))) Tryz.func10 (fun ke => (sb (A.k == (1 : Int)) (fun c0 => (aa c0 (aa (cP Tryz.f10 7 3 (kbool_ok A.b)) (sb (A.s.toList == ByteArray.empty.toList) (fun c1 => (sb (A.n == false) (fun c2 => (sb ((ofN A.x) == z8) (fun c3 => (sb (A.m == false) (fun c4 => (sb ((ofN A.y) == z8) (fun c5 => (aa (not_f (and_t c0 (and_t (beq_self_eq_true A.b) (and_t c1 (and_t (and_t (and_t c2 (and_t c3 tt)) (and_t (and_t c4 (and_t c5 tt)) tt)) tt))))) (aa (show Ent 44 ⟨[(2, .c (.sc (.v .nilIface)))], []⟩ (⟨[(2, aE 66 (ckE A))], []⟩) from (ent_les (.le (le_nil (by simp only [ckE, zr, beq_l c0, c1, c2, c3, c4, c5, nl1 c0, bs, Int.reduceBEq, Int.reduceBNe])) .nil))) ke))) (fun c5 => (aa (not_t (and_fr (a := A.k == (1 : Int)) (and_fr (a := A.b == A.b) (and_fr (a := A.s.toList == ByteArray.empty.toList) (and_fl (b := true) (and_fr (a := (A.n == false) && (((ofN A.x) == z8) && true)) (and_fl (b := true) (and_fr (a := A.m == false) (and_fl (b := true) c5))))))))) (aa (show Ent 44 S0 (⟨[(2, aE 66 (ckE A))], []⟩) from (ent_les (.le (le_err (by simp only [ckE, zr, beq_l c0, c1, c2, c3, c4, c5, nl1 c0, bs, Int.reduceBEq, Int.reduceBNe]) rfl) .nil))) ke))))) (fun c4 => (aa (not_t (and_fr (a := A.k == (1 : Int)) (and_fr (a := A.b == A.b) (and_fr (a := A.s.toList == ByteArray.empty.toList) (and_fl (b := true) (and_fr (a := (A.n == false) && (((ofN A.x) == z8) && true)) (and_fl (b := true) (and_fl (b := ((ofN A.y) == z8) && true) c4)))))))) (aa (show Ent 44 S0 (⟨[(2, aE 66 (ckE A))], []⟩) from (ent_les (.le (le_err (by simp only [ckE, zr, beq_l c0, c1, c2, c3, c4, nl1 c0, bs, Int.reduceBEq, Int.reduceBNe]) rfl) .nil))) ke))))) (fun c3 => (aa (not_t (and_fr (a := A.k == (1 : Int)) (and_fr (a := A.b == A.b) (and_fr (a := A.s.toList == ByteArray.empty.toList) (and_fl (b := true) (and_fl (b := ((A.m == false) && (((ofN A.y) == z8) && true)) && true) (and_fr (a := A.n == false) (and_fl (b := true) c3)))))))) (aa (show Ent 44 S0 (⟨[(2, aE 66 (ckE A))], []⟩) from (ent_les (.le (le_err (by simp only [ckE, zr, beq_l c0, c1, c2, c3, nl1 c0, bs, Int.reduceBEq, Int.reduceBNe]) rfl) .nil))) ke))))) (fun c2 => (aa (not_t (and_fr (a := A.k == (1 : Int)) (and_fr (a := A.b == A.b) (and_fr (a := A.s.toList == ByteArray.empty.toList) (and_fl (b := true) (and_fl (b := ((A.m == false) && (((ofN A.y) == z8) && true)) && true) (and_fl (b := ((ofN A.x) == z8) && true) c2))))))) (aa (show Ent 44 S0 (⟨[(2, aE 66 (ckE A))], []⟩) from (ent_les (.le (le_err (by simp only [ckE, zr, beq_l c0, c1, c2, nl1 c0, bs, Int.reduceBEq, Int.reduceBNe]) rfl) .nil))) ke))))) (fun c1 => (aa (not_t (and_fr (a := A.k == (1 : Int)) (and_fr (a := A.b == A.b) (and_fl (b := (((A.n == false) && (((ofN A.x) == z8) && true)) && (((A.m == false) && (((ofN A.y) == z8) && true)) && true)) && true) c1)))) (aa (show Ent 44 S0 (⟨[(2, aE 66 (ckE A))], []⟩) from (ent_les (.le (le_err (by simp only [ckE, zr, beq_l c0, c1, nl1 c0, bs, Int.reduceBEq, Int.reduceBNe]) rfl) .nil))) ke))))))) (fun c0 => (aa c0 (sb (A.k == (2 : Int)) (fun c1 => (aa c1 (aa (cP Tryz.f10 9 3 (kstring_ok A.s)) (sb (A.b == false) (fun c2 => (sb (A.n == false) (fun c3 => (sb ((ofN A.x) == z8) (fun c4 => (sb (A.m == false) (fun c5 => (sb ((ofN A.y) == z8) (fun c6 => (aa (not_f (and_t c1 (and_t c2 (and_t (beq_self_eq_true A.s.toList) (and_t (and_t (and_t c3 (and_t c4 tt)) (and_t (and_t c5 (and_t c6 tt)) tt)) tt))))) (aa (show Ent 44 ⟨[(2, .c (.sc (.v .nilIface)))], []⟩ (⟨[(2, aE 66 (ckE A))], []⟩) from (ent_les (.le (le_nil (by simp only [ckE, zr, c0, beq_l c1, c2, c3, c4, c5, c6, nl2 c1, bs, Int.reduceBEq, Int.reduceBNe])) .nil))) ke))) (fun c6 => (aa (not_t (and_fr (a := A.k == (2 : Int)) (and_fr (a := A.b == false) (and_fr (a := A.s.toList == A.s.toList) (and_fl (b := true) (and_fr (a := (A.n == false) && (((ofN A.x) == z8) && true)) (and_fl (b := true) (and_fr (a := A.m == false) (and_fl (b := true) c6))))))))) (aa (show Ent 44 S0 (⟨[(2, aE 66 (ckE A))], []⟩) from (ent_les (.le (le_err (by simp only [ckE, zr, c0, beq_l c1, c2, c3, c4, c5, c6, nl2 c1, bs, Int.reduceBEq, Int.reduceBNe]) rfl) .nil))) ke))))) (fun c5 => (aa (not_t (and_fr (a := A.k == (2 : Int)) (and_fr (a := A.b == false) (and_fr (a := A.s.toList == A.s.toList) (and_fl (b := true) (and_fr (a := (A.n == false) && (((ofN A.x) == z8) && true)) (and_fl (b := true) (and_fl (b := ((ofN A.y) == z8) && true) c5)))))))) (aa (show Ent 44 S0 (⟨[(2, aE 66 (ckE A))], []⟩) from (ent_les (.le (le_err (by simp only [ckE, zr, c0, beq_l c1, c2, c3, c4, c5, nl2 c1, bs, Int.reduceBEq, Int.reduceBNe]) rfl) .nil))) ke))))) (fun c4 => (aa (not_t (and_fr (a := A.k == (2 : Int)) (and_fr (a := A.b == false) (and_fr (a := A.s.toList == A.s.toList) (and_fl (b := true) (and_fl (b := ((A.m == false) && (((ofN A.y) == z8) && true)) && true) (and_fr (a := A.n == false) (and_fl (b := true) c4)))))))) (aa (show Ent 44 S0 (⟨[(2, aE 66 (ckE A))], []⟩) from (ent_les (.le (le_err (by simp only [ckE, zr, c0, beq_l c1, c2, c3, c4, nl2 c1, bs, Int.reduceBEq, Int.reduceBNe]) rfl) .nil))) ke))))) (fun c3 => (aa (not_t (and_fr (a := A.k == (2 : Int)) (and_fr (a := A.b == false) (and_fr (a := A.s.toList == A.s.toList) (and_fl (b := true) (and_fl (b := ((A.m == false) && (((ofN A.y) == z8) && true)) && true) (and_fl (b := ((ofN A.x) == z8) && true) c3))))))) (aa (show Ent 44 S0 (⟨[(2, aE 66 (ckE A))], []⟩) from (ent_les (.le (le_err (by simp only [ckE, zr, c0, beq_l c1, c2, c3, nl2 c1, bs, Int.reduceBEq, Int.reduceBNe]) rfl) .nil))) ke))))) (fun c2 => (aa (not_t (and_fr (a := A.k == (2 : Int)) (and_fl (b := (A.s.toList == A.s.toList) && ((((A.n == false) && (((ofN A.x) == z8) && true)) && (((A.m == false) && (((ofN A.y) == z8) && true)) && true)) && true)) c2))) (aa (show Ent 44 S0 (⟨[(2, aE 66 (ckE A))], []⟩) from (ent_les (.le (le_err (by simp only [ckE, zr, c0, beq_l c1, c2, nl2 c1, bs, Int.reduceBEq, Int.reduceBNe]) rfl) .nil))) ke))))))) (fun c1 => (aa c1 (sb (A.k == (3 : Int)) (fun c2 => (aa c2 (aa (cP Tryz.f10 11 2 (whg A.n A.x A.m A.y hA.x hA.y)) (sb (whB A.n A.x A.m A.y) (fun c3 => (aa (not_f c3) (sb (A.b == false) (fun c4 => (sb (A.s.toList == ByteArray.empty.toList) (fun c5 => (aa (not_f (and_t (beq_self_eq_true A.k) (and_t c4 (and_t c5 (and_t (and_t (and_t (beq_self_eq_true A.n) (and_t (beq_self_eq_true (ofN A.x)) tt)) (and_t (and_t (beq_self_eq_true A.m) (and_t (beq_self_eq_true (ofN A.y)) tt)) tt)) tt))))) (aa (cP Tryz.f10 15 2 (rkg A.n A.x A.m A.y hA.x hA.y)) (aa (show Ent 44 S1 (⟨[(2, aE 66 (ckE A))], []⟩) from (ent_les (.le (le_ee (by simp only [ckE, zr, c0, c1, beq_l c2, c3, c4, c5, nl3 c2, bs, Int.reduceBEq, Int.reduceBNe])) .nil))) ke)))) (fun c5 => (aa (not_t (and_fr (a := A.k == A.k) (and_fr (a := A.b == false) (and_fl (b := (((A.n == A.n) && (((ofN A.x) == (ofN A.x)) && true)) && (((A.m == A.m) && (((ofN A.y) == (ofN A.y)) && true)) && true)) && true) c5)))) (aa (show Ent 44 S0 (⟨[(2, aE 66 (ckE A))], []⟩) from (ent_les (.le (le_err (by simp only [ckE, zr, c0, c1, beq_l c2, c3, c4, c5, nl3 c2, bs, Int.reduceBEq, Int.reduceBNe]) rfl) .nil))) ke))))) (fun c4 => (aa (not_t (and_fr (a := A.k == A.k) (and_fl (b := (A.s.toList == ByteArray.empty.toList) && ((((A.n == A.n) && (((ofN A.x) == (ofN A.x)) && true)) && (((A.m == A.m) && (((ofN A.y) == (ofN A.y)) && true)) && true)) && true)) c4))) (aa (show Ent 44 S0 (⟨[(2, aE 66 (ckE A))], []⟩) from (ent_les (.le (le_err (by simp only [ckE, zr, c0, c1, beq_l c2, c3, c4, nl3 c2, bs, Int.reduceBEq, Int.reduceBNe]) rfl) .nil))) ke)))))) (fun c3 => (aa (not_t c3) (aa (show Ent 44 S0 (⟨[(2, aE 66 (ckE A))], []⟩) from (ent_les (.le (le_err (by simp only [ckE, zr, c0, c1, beq_l c2, c3, nl3 c2, bs, Int.reduceBEq, Int.reduceBNe]) rfl) .nil))) ke))))))) (fun c2 => (aa c2 (sb (A.k == (4 : Int)) (fun c3 => (aa c3 (aa (cP Tryz.f10 11 2 (whg A.n A.x A.m A.y hA.x hA.y)) (sb (whB A.n A.x A.m A.y) (fun c4 => (aa (not_f c4) (sb (A.b == false) (fun c5 => (sb (A.s.toList == ByteArray.empty.toList) (fun c6 => (aa (not_f (and_t (beq_self_eq_true A.k) (and_t c5 (and_t c6 (and_t (and_t (and_t (beq_self_eq_true A.n) (and_t (beq_self_eq_true (ofN A.x)) tt)) (and_t (and_t (beq_self_eq_true A.m) (and_t (beq_self_eq_true (ofN A.y)) tt)) tt)) tt))))) (aa (cP Tryz.f10 15 2 (rkg A.n A.x A.m A.y hA.x hA.y)) (aa (show Ent 44 S1 (⟨[(2, aE 66 (ckE A))], []⟩) from (ent_les (.le (le_ee (by simp only [ckE, zr, c0, c1, c2, beq_l c3, c4, c5, c6, nl4 c3, bs, Int.reduceBEq, Int.reduceBNe])) .nil))) ke)))) (fun c6 => (aa (not_t (and_fr (a := A.k == A.k) (and_fr (a := A.b == false) (and_fl (b := (((A.n == A.n) && (((ofN A.x) == (ofN A.x)) && true)) && (((A.m == A.m) && (((ofN A.y) == (ofN A.y)) && true)) && true)) && true) c6)))) (aa (show Ent 44 S0 (⟨[(2, aE 66 (ckE A))], []⟩) from (ent_les (.le (le_err (by simp only [ckE, zr, c0, c1, c2, beq_l c3, c4, c5, c6, nl4 c3, bs, Int.reduceBEq, Int.reduceBNe]) rfl) .nil))) ke))))) (fun c5 => (aa (not_t (and_fr (a := A.k == A.k) (and_fl (b := (A.s.toList == ByteArray.empty.toList) && ((((A.n == A.n) && (((ofN A.x) == (ofN A.x)) && true)) && (((A.m == A.m) && (((ofN A.y) == (ofN A.y)) && true)) && true)) && true)) c5))) (aa (show Ent 44 S0 (⟨[(2, aE 66 (ckE A))], []⟩) from (ent_les (.le (le_err (by simp only [ckE, zr, c0, c1, c2, beq_l c3, c4, c5, nl4 c3, bs, Int.reduceBEq, Int.reduceBNe]) rfl) .nil))) ke)))))) (fun c4 => (aa (not_t c4) (aa (show Ent 44 S0 (⟨[(2, aE 66 (ckE A))], []⟩) from (ent_les (.le (le_err (by simp only [ckE, zr, c0, c1, c2, beq_l c3, c4, nl4 c3, bs, Int.reduceBEq, Int.reduceBNe]) rfl) .nil))) ke))))))) (fun c3 => (aa c3 (sb (A.k == (5 : Int)) (fun c4 => (aa c4 (sb (A.b == false) (fun c5 => (sb (A.s.toList == ByteArray.empty.toList) (fun c6 => (aa (not_f (and_t (beq_self_eq_true A.k) (and_t c5 (and_t c6 (and_t (and_t (and_t (beq_self_eq_true A.n) (and_t (beq_self_eq_true (ofN A.x)) tt)) (and_t (and_t (beq_self_eq_true A.m) (and_t (beq_self_eq_true (ofN A.y)) tt)) tt)) tt))))) (aa (cP Tryz.f10 15 2 (rkg A.n A.x A.m A.y hA.x hA.y)) (aa (show Ent 44 S1 (⟨[(2, aE 66 (ckE A))], []⟩) from (ent_les (.le (le_ee (by simp only [ckE, zr, c0, c1, c2, c3, beq_l c4, c5, c6, nl5 c4, bs, Int.reduceBEq, Int.reduceBNe])) .nil))) ke)))) (fun c6 => (aa (not_t (and_fr (a := A.k == A.k) (and_fr (a := A.b == false) (and_fl (b := (((A.n == A.n) && (((ofN A.x) == (ofN A.x)) && true)) && (((A.m == A.m) && (((ofN A.y) == (ofN A.y)) && true)) && true)) && true) c6)))) (aa (show Ent 44 S0 (⟨[(2, aE 66 (ckE A))], []⟩) from (ent_les (.le (le_err (by simp only [ckE, zr, c0, c1, c2, c3, beq_l c4, c5, c6, nl5 c4, bs, Int.reduceBEq, Int.reduceBNe]) rfl) .nil))) ke))))) (fun c5 => (aa (not_t (and_fr (a := A.k == A.k) (and_fl (b := (A.s.toList == ByteArray.empty.toList) && ((((A.n == A.n) && (((ofN A.x) == (ofN A.x)) && true)) && (((A.m == A.m) && (((ofN A.y) == (ofN A.y)) && true)) && true)) && true)) c5))) (aa (show Ent 44 S0 (⟨[(2, aE 66 (ckE A))], []⟩) from (ent_les (.le (le_err (by simp only [ckE, zr, c0, c1, c2, c3, beq_l c4, c5, nl5 c4, bs, Int.reduceBEq, Int.reduceBNe]) rfl) .nil))) ke)))))) (fun c4 => (aa c4 (aa (show Ent 44 S0 (⟨[(2, aE 66 (ckE A))], []⟩) from (ent_les (.le (le_err (by simp only [ckE, zr, c0, c1, c2, c3, c4, bs]) rfl) .nil))) ke))))))))))))))))) (by kernel_rfl)
def allS (A B : KC) : Nat → St
  | 0 => ⟨[(2, .c (.sc (.v .nilIface))), (6, .c (.sc (.sl 1000 0 2 2))), (7, aI 2), (8, aI 0)], [(1000, .sg 30 (kG A ++ kG B))]⟩
  | 1 => ⟨[(2, .c (.sc (.v .nilIface))), (6, .c (.sc (.sl 1000 0 2 2))), (7, aI 2), (8, aI 1)], [(1000, .sg 30 (kG A ++ kG B))]⟩
  | 2 => ⟨[(2, .c (.sc (.v .nilIface))), (6, .c (.sc (.sl 1000 0 2 2))), (7, aI 2), (8, aI 2)], [(1000, .sg 30 (kG A ++ kG B))]⟩
  | _ => ⟨[], []⟩
theorem all_loop_n (A B : KC) (hA : A.ok) (hB : B.ok) (h : (ckE A == (0 : Int)) = true) (k : (ckE B == (0 : Int)) = true) : LoopT PR 18 (lp Tryz.f35 0) (allS A B 0) (.x 0) (allS A B 2) := by
  refine loop_of (fun m_ st => ∃ j, j ≤ 2 ∧ m_ = 2 - j ∧ st = allS A B j) 2 ⟨0, by omega, rfl, rfl⟩ ?_
  rintro m_ st ⟨j, hj, hm_, rfl⟩
  rcases j with _ | _ | _ | j
  · exact twP (t := (.leaf [.b true, oP 13 (aE 66 (ckE A)), .b false, .cut [2, 6, 7, 8] [1000], .chk (allS A B 1)])) (fun kq => (aa tt (aa (cP Tryz.f35 4 1 (kcheck_ok A hA)) (aa (not_f (show ((ckE A) == (0 : Int)) = true from h)) (aa (show kLo .i64 ≤ (1 : Int) from (lo64 (by decide))) (aa (show (1 : Int) ≤ kHi .i64 from (hi64 (by decide))) (aa (show Ent 18 ⟨[(2, .c (.sc (.v .nilIface))), (6, .c (.sc (.sl 1000 0 2 2))), (7, aI 2), (8, aI 1)], [(1000, .sg 30 (kG A ++ kG B))]⟩ (allS A B 1) from (ent_eqs (.cons rfl (.cons rfl (.cons rfl (.cons rfl .nil)))) (.cons rfl .nil))) (kq .n (allS A B 1) (.inl ⟨rfl, 1, by omega, 1, by omega, rfl, rfl⟩))))))))) (by kernel_rfl)
  · exact twP (t := (.leaf [.b true, oP 13 (aE 66 (ckE B)), .b false, .cut [2, 6, 7, 8] [1000], .chk (allS A B 2)])) (fun kq => (aa tt (aa (cP Tryz.f35 4 1 (kcheck_ok B hB)) (aa (not_f (show ((ckE B) == (0 : Int)) = true from k)) (aa (show kLo .i64 ≤ (2 : Int) from (lo64 (by decide))) (aa (show (2 : Int) ≤ kHi .i64 from (hi64 (by decide))) (aa (show Ent 18 ⟨[(2, .c (.sc (.v .nilIface))), (6, .c (.sc (.sl 1000 0 2 2))), (7, aI 2), (8, aI 2)], [(1000, .sg 30 (kG A ++ kG B))]⟩ (allS A B 2) from (ent_eqs (.cons rfl (.cons rfl (.cons rfl (.cons rfl .nil)))) (.cons rfl .nil))) (kq .n (allS A B 2) (.inl ⟨rfl, 0, by omega, 2, by omega, rfl, rfl⟩))))))))) (by kernel_rfl)
  · exact twP (t := (.leaf [.b false, .cut [2, 6, 7, 8] [1000]])) (fun kq => (aa ff (kq (.x 0) (allS A B 2) (.inr ⟨by simp, rfl, rfl⟩)))) (by kernel_rfl)
  · omega
theorem all_loop_b (A B : KC) (hA : A.ok) (hB : B.ok) (h : (ckE A == (0 : Int)) = true) (k : (ckE B == (0 : Int)) = false) : LoopT PR 18 (lp Tryz.f35 0) (allS A B 0) (.r) (⟨[(2, .c (.sc (.ee 66 (ckE B))))], [(1000, .sg 30 (kG A ++ kG B))]⟩) := by
  refine loop_of (fun m_ st => ∃ j, j ≤ 1 ∧ m_ = 1 - j ∧ st = allS A B j) 1 ⟨0, by omega, rfl, rfl⟩ ?_
  rintro m_ st ⟨j, hj, hm_, rfl⟩
  rcases j with _ | _ | j
  · exact twP (t := (.leaf [.b true, oP 13 (aE 66 (ckE A)), .b false, .cut [2, 6, 7, 8] [1000], .chk (allS A B 1)])) (fun kq => (aa tt (aa (cP Tryz.f35 4 1 (kcheck_ok A hA)) (aa (not_f (show ((ckE A) == (0 : Int)) = true from h)) (aa (show kLo .i64 ≤ (1 : Int) from (lo64 (by decide))) (aa (show (1 : Int) ≤ kHi .i64 from (hi64 (by decide))) (aa (show Ent 18 ⟨[(2, .c (.sc (.v .nilIface))), (6, .c (.sc (.sl 1000 0 2 2))), (7, aI 2), (8, aI 1)], [(1000, .sg 30 (kG A ++ kG B))]⟩ (allS A B 1) from (ent_eqs (.cons rfl (.cons rfl (.cons rfl (.cons rfl .nil)))) (.cons rfl .nil))) (kq .n (allS A B 1) (.inl ⟨rfl, 0, by omega, 1, by omega, rfl, rfl⟩))))))))) (by kernel_rfl)
  · exact twP (t := (.leaf [.b true, oP 13 (aE 66 (ckE B)), .b true, .cut [2] [1000]])) (fun kq => (aa tt (aa (cP Tryz.f35 4 1 (kcheck_ok B hB)) (aa (not_t (show ((ckE B) == (0 : Int)) = false from k)) (kq .r (⟨[(2, aE 66 (ckE B))], [(1000, .sg 30 (kG A ++ kG B))]⟩) (.inr ⟨by simp, rfl, rfl⟩)))))) (by kernel_rfl)
  · omega
theorem all_loop_a (A B : KC) (hA : A.ok) (hB : B.ok) (h : (ckE A == (0 : Int)) = false) : LoopT PR 18 (lp Tryz.f35 0) (allS A B 0) (.r) (⟨[(2, .c (.sc (.ee 66 (ckE A))))], [(1000, .sg 30 (kG A ++ kG B))]⟩) := by
  refine loop_of (fun m_ st => ∃ j, j ≤ 0 ∧ m_ = 0 - j ∧ st = allS A B j) 0 ⟨0, by omega, rfl, rfl⟩ ?_
  rintro m_ st ⟨j, hj, hm_, rfl⟩
  rcases j with _ | j
  · exact twP (t := (.leaf [.b true, oP 13 (aE 66 (ckE A)), .b true, .cut [2] [1000]])) (fun kq => (aa tt (aa (cP Tryz.f35 4 1 (kcheck_ok A hA)) (aa (not_t (show ((ckE A) == (0 : Int)) = false from h)) (kq .r (⟨[(2, aE 66 (ckE A))], [(1000, .sg 30 (kG A ++ kG B))]⟩) (.inr ⟨by simp, rfl, rfl⟩)))))) (by kernel_rfl)
  · omega
theorem kall_ok (A B : KC) (hA : A.ok) (hB : B.ok) : FnM PR 35 [.sc (.sl 1000 0 2 2)] [(1000, .sg 30 (kG A ++ kG B))] (aE 66 (alE A B)) [(1000, .sg 30 (kG A ++ kG B))] := by
  let S0 : St := ⟨[(2, .c (.sc (.v .nilIface))), (6, .c (.sc (.sl 1000 0 2 2))), (7, aI 2), (8, aI 0)], [(1000, .sg 30 (kG A ++ kG B))]⟩
  let S1 : St := ⟨[(2, aE 66 (alE A B))], [(1000, .sg 30 (kG A ++ kG B))]⟩
  let S2 : St := ⟨[(2, aE 66 (ckE B))], [(1000, .sg 30 (kG A ++ kG B))]⟩
  let S3 : St := ⟨[(2, aE 66 (ckE A))], [(1000, .sg 30 (kG A ++ kG B))]⟩
  exact fwMP (t := (.sp [] ((ckE A) == (0 : Int)) (.sp [] ((ckE B) == (0 : Int)) (.leaf [.cut [2, 6, 7, 8] [1000], .chk (allS A B 0), .lp (.x 0) (allS A B 2), .cut [2] [1000], .chk S1]) (.leaf [.cut [2, 6, 7, 8] [1000], .chk (allS A B 0), .lp .r S2, .cut [2] [1000], .chk S1])) (.leaf [.cut [2, 6, 7, 8] [1000], .chk (allS A B 0), .lp .r S3, .cut [2] [1000], .chk S1]))) Tryz.func35 (fun ke => (sb ((ckE A) == (0 : Int)) (fun c0 => (sb ((ckE B) == (0 : Int)) (fun c1 => (aa (show Ent 18 S0 (allS A B 0) from (ent_eqs (.cons rfl (.cons rfl (.cons rfl (.cons rfl .nil)))) (.cons rfl .nil))) (aa (show LoopT PR 18 (lp Tryz.f35 0) (allS A B 0) (.x 0) (allS A B 2) from (all_loop_n A B hA hB c0 c1)) (aa (show Ent 18 ⟨[(2, .c (.sc (.v .nilIface)))], [(1000, .sg 30 (kG A ++ kG B))]⟩ S1 from (ent_les (.le (le_nil (by first | (simp only [alE, c0, cond_true, cond_false]; done) | (simp only [alE, c0, cond_true]; exact eq_of_beq c1))) .nil))) ke)))) (fun c1 => (aa (show Ent 18 S0 (allS A B 0) from (ent_eqs (.cons rfl (.cons rfl (.cons rfl (.cons rfl .nil)))) (.cons rfl .nil))) (aa (show LoopT PR 18 (lp Tryz.f35 0) (allS A B 0) .r S2 from (all_loop_b A B hA hB c0 c1)) (aa (show Ent 18 S2 S1 from (ent_les (.le (le_ee (by first | (simp only [alE, c0, cond_true, cond_false]; done) | (simp only [alE, c0, cond_true]; exact eq_of_beq c1))) .nil))) ke)))))) (fun c0 => (aa (show Ent 18 S0 (allS A B 0) from (ent_eqs (.cons rfl (.cons rfl (.cons rfl (.cons rfl .nil)))) (.cons rfl .nil))) (aa (show LoopT PR 18 (lp Tryz.f35 0) (allS A B 0) .r S3 from (all_loop_a A B hA hB c0)) (aa (show Ent 18 S3 S1 from (ent_les (.le (le_ee (by first | (simp only [alE, c0, cond_true, cond_false]; done) | (simp only [alE, c0, cond_true]; exact eq_of_beq c1))) .nil))) ke)))))) (by kernel_rfl)
theorem kfew_ok (A : KC) : Fn PR 8 [.ag (kG A)] (aG (kG (fw A))) := by
  let S1 : St := ⟨[(2, aP 2 0)], [(2, .sg 30 (kG (fw A)))]⟩
  exact fwN (t := (.leaf [.cut [2] [2], .chk S1])) Tryz.func8 (fun ke => (aa (show 0 ≤ (if (50 : Int) < (A.s.size : Int) then (50 : Int) else (A.s.size : Int)) from (by first | omega | (split <;> omega))) (aa (show (if (50 : Int) < (A.s.size : Int) then (50 : Int) else (A.s.size : Int)) ≤ (A.s.size : Int) from (by first | omega | (split <;> omega))) (aa (show Ent 12 ⟨[(2, aP 2 0)], [(2, .sg 30 [.one (.v (.int .i64 A.k)), .one (.v (.bool A.b)), .one (.v (.string (A.s.extract 0 (if (50 : Int) < (A.s.size : Int) then (50 : Int) else (A.s.size : Int)).toNat))), .one (.v (.bool A.n)), .row .u64 8 (ofN A.x), .one (.v (.bool A.m)), .row .u64 8 (ofN A.y)])]⟩ S1 from (ent_eqs (.cons rfl .nil) (.cons (by rfl) .nil))) ke)))) (by kernel_rfl)
theorem kof_ok (z : Int) (h0 : -9223372036854775808 ≤ z) (h1 : z ≤ 9223372036854775807) : Fn PR 50 [kI z] (aG (kG (cN (3 : Int) z (1 : Int)))) := by
  let S0 : St := ⟨[(2, aP 2 0)], [(2, .sg 30 (kG (cN (3 : Int) z (1 : Int))))]⟩
  exact fwN (t := (.leaf [oP 4 (aG (qS z (1 : Int))), .cut [2] [2], .chk S0])) Tryz.func50 (fun ke => (aa (cP Tryz.f50 1 1 (qof_ok z (by first | omega | decide) (by first | omega | decide))) (aa (show Ent 6 S0 S0 from (ent_eqs (.cons rfl .nil) (.cons (by rfl) .nil))) ke))) (by kernel_rfl)
theorem kunary_ok (op : Int) (A : KC) (hA : A.ok) : Fn PR 11 [kI op, .ag (kG A)] (.tu [.ag (kG ((un op A).1)), kE 66 ((un op A).2)]) := by
  have T0 : A.x < top := by first | exact hA.x | exact hA.y | exact hB.x | exact hB.y | assumption | exact small_top (by decide) (by decide)
  have T2 : (-1 : Int).natAbs < top := by first | exact hA.x | exact hA.y | exact hB.x | exact hB.y | assumption | exact small_top (by decide) (by decide)
  let S0 : St := ⟨[(4, aP 4 0), (5, .c (.sc (.v (.iface 66 (.int .i64 11)))))], [(4, .sg 30 [.one (.v (.int .i64 0)), .one (.v (.bool false)), .one (.v (.string ByteArray.empty)), .one (.v (.bool false)), .row .u64 8 z8, .one (.v (.bool false)), .row .u64 8 z8])]⟩
  let S3 : St := ⟨[(4, aP 4 0), (5, aE 66 (ov ((-1 : Int) - (iz A.n A.x))))], [(4, .sg 30 (kG (whK A.k (clip ((-1 : Int) - (iz A.n A.x))) (ov ((-1 : Int) - (iz A.n A.x))))))]⟩
  let S5 : St := ⟨[(4, aP 4 0), (5, aE 66 ((un op A).2))], [(4, .sg 30 (kG ((un op A).1)))]⟩
  exact fwN (t := (.sp [oP 10 (aE 66 (ckE A))] ((ckE A) == (0 : Int)) (.sp [.b false] (op == (71 : Int)) (.sp [.b true, .b true, .b true] (A.k == (1 : Int)) (.leaf [.b true, oP 26 (aG [.one (.v (.int .i64 1)), .one (.v (.bool (!A.b))), .one (.v (.string ByteArray.empty)), .one (.v (.bool false)), .row .u64 8 z8, .one (.v (.bool false)), .row .u64 8 z8]), .cut [4, 5] [4], .chk S5]) (.leaf [.b false, .b false, .b false, .b false, .b false, .b false, .b false, .b false, .b false, .b false, .b false, .b false, .b false, .cut [4, 5] [4], .chk S5])) (.sp [.b false, .b false, .b false, .b false] (op == (40 : Int)) (.sp [.b true, .b true, oP 32 (aB (numB A))] (numB A) (.leaf [.b true, .cut [4, 5] [4], .chk S5]) (.leaf [.b false, .b false, .b false, .b false, .b false, .b false, .b false, .b false, .b false, .b false, .cut [4, 5] [4], .chk S5])) (.sp [.b false, .b false, .b false] (op == (41 : Int)) (.sp [.b true, .b true, oP 40 (aB (numB A))] (numB A) (.leaf [.b true, oP 46 (aG (rS (decide (-(iz A.n A.x) < 0)) ((-(iz A.n A.x)).natAbs) A.m A.y)), oP 47 (.tu [.ag (kG (tdK A.k (decide (-(iz A.n A.x) < 0)) ((-(iz A.n A.x)).natAbs) A.m A.y 0)), kE 66 0]), .cut [4, 5] [4], .chk S5]) (.leaf [.b false, .b false, .b false, .b false, .b false, .b false, .b false, .cut [4, 5] [4], .chk S5])) (.sp [.b false, .b false, .b false] (op == (47 : Int)) (.sp [] (A.k == (3 : Int)) (.leaf [.b true, .b true, .b true, .b true, .b true, .b true, .b true, .b true, .b true, oP 64 (aG (iS (-1 : Int))), oP 68 (.tu [.ag (iS (clip ((-1 : Int) - (iz A.n A.x)))), kE 66 (ov ((-1 : Int) - (iz A.n A.x)))]), oP 75 (.tu [.ag (kG (whK A.k (clip ((-1 : Int) - (iz A.n A.x))) (ov ((-1 : Int) - (iz A.n A.x))))), kE 66 (ov ((-1 : Int) - (iz A.n A.x)))]), .cut [4, 5] [4], .chk S5]) (.sp [.b true, .b true, .b true, .b true, .b false, .b false, .b false, .b true] (A.k == (4 : Int)) (.leaf [.b true, oP 64 (aG (iS (-1 : Int))), oP 68 (.tu [.ag (iS (clip ((-1 : Int) - (iz A.n A.x)))), kE 66 (ov ((-1 : Int) - (iz A.n A.x)))]), oP 75 (.tu [.ag (kG (whK A.k (clip ((-1 : Int) - (iz A.n A.x))) (ov ((-1 : Int) - (iz A.n A.x))))), kE 66 (ov ((-1 : Int) - (iz A.n A.x)))]), .cut [4, 5] [4], .chk S5]) (.leaf [.b false, .cut [4, 5] [4], .chk S5]))) (.leaf [.b false, .b false, .b false, .b false, .b false, .b false, .cut [4, 5] [4], .chk S5]))))) (.leaf [.b true, .cut [4, 5] [4], .chk S5]))) Tryz.func11 (fun ke => (aa (cP Tryz.f11 1 1 (kcheck_ok A hA)) (sb ((ckE A) == (0 : Int)) (fun c0 => (aa (not_f c0) (sb (op == (71 : Int)) (fun c1 => (aa c1 (aa c1 (aa c1 (sb (A.k == (1 : Int)) (fun c2 => (aa (bif_t (y := false) c1 c2) (aa (cP Tryz.f11 5 3 (kbool_ok (!A.b))) (aa (show Ent 80 ⟨[(4, aP 4 0), (5, .c (.sc (.v .nilIface)))], [(4, .sg 30 [.one (.v (.int .i64 1)), .one (.v (.bool (!A.b))), .one (.v (.string ByteArray.empty)), .one (.v (.bool false)), .row .u64 8 z8, .one (.v (.bool false)), .row .u64 8 z8])]⟩ S5 from ((ent_les (.cons rfl (.le (le_nil (by simp only [un, beq_l c0, beq_l c1, beq_l c2, nl1 c2, bs, Int.reduceBEq, Int.reduceBNe])) .nil))).trans (ent_eqs (.cons rfl (.cons rfl .nil)) (.cons (by simp only [un, beq_l c0, beq_l c1, beq_l c2, nl1 c2, bs, Int.reduceBEq, Int.reduceBNe] <;> first | exact bZ | exact bT _ | exact bW _ | rfl) .nil)))) ke)))) (fun c2 => (aa (bif_t (y := false) c1 c2) (aa (eq_other (b := (40 : Int)) c1 rfl) (aa (eq_other (b := (40 : Int)) c1 rfl) (aa (eq_other (b := (40 : Int)) c1 rfl) (aa ff (aa (eq_other (b := (41 : Int)) c1 rfl) (aa (eq_other (b := (41 : Int)) c1 rfl) (aa (eq_other (b := (41 : Int)) c1 rfl) (aa ff (aa (eq_other (b := (47 : Int)) c1 rfl) (aa (eq_other (b := (47 : Int)) c1 rfl) (aa (eq_other (b := (47 : Int)) c1 rfl) (aa (eq_other (b := (47 : Int)) c1 rfl) (aa (eq_other (b := (47 : Int)) c1 rfl) (aa (eq_other (b := (47 : Int)) c1 rfl) (aa ff (aa (show Ent 80 S0 S5 from ((ent_les (.cons rfl (.le (le_err (by simp only [un, beq_l c0, beq_l c1, c2, bs, Int.reduceBEq, Int.reduceBNe]) rfl) .nil))).trans (ent_eqs (.cons rfl (.cons rfl .nil)) (.cons (by simp only [un, beq_l c0, beq_l c1, c2, bs, Int.reduceBEq, Int.reduceBNe] <;> first | exact bZ | exact bT _ | exact bW _ | rfl) .nil)))) ke))))))))))))))))))))))) (fun c1 => (aa c1 (aa c1 (aa c1 (aa c1 (aa ff (sb (op == (40 : Int)) (fun c2 => (aa c2 (aa c2 (aa (cP Tryz.f11 6 4 (knumber_ok A)) (sb (numB A) (fun c3 => (aa (bif_t (y := false) c2 c3) (aa (show Ent 80 ⟨[(4, aP 4 0), (5, .c (.sc (.v .nilIface)))], [(4, .sg 30 (kG A))]⟩ S5 from ((ent_les (.cons rfl (.le (le_nil (by simp only [un, beq_l c0, c1, beq_l c2, c3, no1 c3, no2 c3, bs, Int.reduceBEq, Int.reduceBNe])) .nil))).trans (ent_eqs (.cons rfl (.cons rfl .nil)) (.cons (by simp only [un, beq_l c0, c1, beq_l c2, c3, no1 c3, no2 c3, bs, Int.reduceBEq, Int.reduceBNe] <;> first | exact bZ | exact bT _ | exact bW _ | rfl) .nil)))) ke))) (fun c3 => (aa (bif_t (y := false) c2 c3) (aa (eq_other (b := (41 : Int)) c2 rfl) (aa (eq_other (b := (41 : Int)) c2 rfl) (aa (eq_other (b := (41 : Int)) c2 rfl) (aa ff (aa (eq_other (b := (47 : Int)) c2 rfl) (aa (eq_other (b := (47 : Int)) c2 rfl) (aa (eq_other (b := (47 : Int)) c2 rfl) (aa (eq_other (b := (47 : Int)) c2 rfl) (aa (eq_other (b := (47 : Int)) c2 rfl) (aa (eq_other (b := (47 : Int)) c2 rfl) (aa ff (aa (show Ent 80 S0 S5 from ((ent_les (.cons rfl (.le (le_err (by simp only [un, beq_l c0, c1, beq_l c2, c3, no3 c3, no4 c3, no5 c3, bs, Int.reduceBEq, Int.reduceBNe]) rfl) .nil))).trans (ent_eqs (.cons rfl (.cons rfl .nil)) (.cons (by simp only [un, beq_l c0, c1, beq_l c2, c3, no3 c3, no4 c3, no5 c3, bs, Int.reduceBEq, Int.reduceBNe] <;> first | exact bZ | exact bT _ | exact bW _ | rfl) .nil)))) ke))))))))))))))))))) (fun c2 => (aa c2 (aa c2 (aa c2 (aa ff (sb (op == (41 : Int)) (fun c3 => (aa c3 (aa c3 (aa (cP Tryz.f11 8 4 (knumber_ok A)) (sb (numB A) (fun c4 => (aa (bif_t (y := false) c3 c4) (aa (cP Tryz.f11 9 4 (qneg_ok A.n A.x A.m A.y T0 (by first | exact hA.x | exact hA.y | exact hB.x | exact hB.y | assumption | exact small_top (by decide) (by decide)))) (aa (cP Tryz.f11 9 5 (show Fn PR 42 [kI A.k, .ag (rS (decide (-(iz A.n A.x) < 0)) ((-(iz A.n A.x)).natAbs) A.m A.y), .sc (.v .nilIface)] (.tu [.ag (kG (tdK A.k (decide (-(iz A.n A.x) < 0)) ((-(iz A.n A.x)).natAbs) A.m A.y 0)), kE 66 0]) from (by exact Fn.args (told_ok A.k (decide (-(iz A.n A.x) < 0)) ((-(iz A.n A.x)).natAbs) A.m A.y 0) (.cons rfl (.cons rfl (.le (le_nil rfl) .nil)))))) (aa (show Ent 80 ⟨[(4, aP 4 0), (5, aE 66 0)], [(4, .sg 30 (kG (tdK A.k (decide (-(iz A.n A.x) < 0)) ((-(iz A.n A.x)).natAbs) A.m A.y 0)))]⟩ S5 from ((ent_les (.cons rfl (.le (le_ee (by simp only [un, beq_l c0, c1, c2, beq_l c3, c4, no1 c4, no2 c4, bs, Int.reduceBEq, Int.reduceBNe])) .nil))).trans (ent_eqs (.cons rfl (.cons rfl .nil)) (.cons (by simp only [un, beq_l c0, c1, c2, beq_l c3, c4, no1 c4, no2 c4, bs, Int.reduceBEq, Int.reduceBNe] <;> first | exact bZ | exact bT _ | exact bW _ | rfl) .nil)))) ke))))) (fun c4 => (aa (bif_t (y := false) c3 c4) (aa (eq_other (b := (47 : Int)) c3 rfl) (aa (eq_other (b := (47 : Int)) c3 rfl) (aa (eq_other (b := (47 : Int)) c3 rfl) (aa (eq_other (b := (47 : Int)) c3 rfl) (aa (eq_other (b := (47 : Int)) c3 rfl) (aa (eq_other (b := (47 : Int)) c3 rfl) (aa ff (aa (show Ent 80 S0 S5 from ((ent_les (.cons rfl (.le (le_err (by simp only [un, beq_l c0, c1, c2, beq_l c3, c4, no3 c4, no4 c4, no5 c4, bs, Int.reduceBEq, Int.reduceBNe]) rfl) .nil))).trans (ent_eqs (.cons rfl (.cons rfl .nil)) (.cons (by simp only [un, beq_l c0, c1, c2, beq_l c3, c4, no3 c4, no4 c4, no5 c4, bs, Int.reduceBEq, Int.reduceBNe] <;> first | exact bZ | exact bT _ | exact bW _ | rfl) .nil)))) ke))))))))))))))) (fun c3 => (aa c3 (aa c3 (aa c3 (aa ff (sb (op == (47 : Int)) (fun c4 => (sb (A.k == (3 : Int)) (fun c5 => (aa c4 (aa c4 (aa c4 (aa c4 (aa c5 (aa c5 (aa c5 (aa c4 (aa c5 (aa (bif_t (y := false) c4 tt) (aa (cP Tryz.f11 11 0 (of_ok (-1 : Int) (by first | omega | decide | exact w64_lo _) (by first | omega | decide | exact w64_hi _))) (aa (cP Tryz.f11 11 4 (sub_u (decide ((-1 : Int) < 0)) A.n ((-1 : Int).natAbs) A.x T2 T0 (-1 : Int) (iz A.n A.x) (iz_can _) rfl)) (aa (cP Tryz.f11 12 4 (kwhole_ok A.k (clip ((-1 : Int) - (iz A.n A.x))) (ov ((-1 : Int) - (iz A.n A.x))))) (aa (show Ent 80 S3 S5 from ((ent_les (.cons rfl (.le (le_ee (by simp only [un, beq_l c0, c1, c2, c3, beq_l c4, beq_l c5, nl3 c5, bs, Int.reduceBEq, Int.reduceBNe])) .nil))).trans (ent_eqs (.cons rfl (.cons rfl .nil)) (.cons (by simp only [un, beq_l c0, c1, c2, c3, beq_l c4, beq_l c5, nl3 c5, bs, Int.reduceBEq, Int.reduceBNe] <;> first | exact bZ | exact bT _ | exact bW _ | rfl) .nil)))) ke))))))))))))))) (fun c5 => (aa c4 (aa c4 (aa c4 (aa c4 (aa c5 (aa c5 (aa c5 (aa c4 (sb (A.k == (4 : Int)) (fun c6 => (aa (bif_t (y := false) c4 (bif_f (x := true) c5 c6)) (aa (cP Tryz.f11 11 0 (of_ok (-1 : Int) (by first | omega | decide | exact w64_lo _) (by first | omega | decide | exact w64_hi _))) (aa (cP Tryz.f11 11 4 (sub_u (decide ((-1 : Int) < 0)) A.n ((-1 : Int).natAbs) A.x T2 T0 (-1 : Int) (iz A.n A.x) (iz_can _) rfl)) (aa (cP Tryz.f11 12 4 (kwhole_ok A.k (clip ((-1 : Int) - (iz A.n A.x))) (ov ((-1 : Int) - (iz A.n A.x))))) (aa (show Ent 80 S3 S5 from ((ent_les (.cons rfl (.le (le_ee (by simp only [un, beq_l c0, c1, c2, c3, beq_l c4, c5, beq_l c6, nl4 c6, bs, Int.reduceBEq, Int.reduceBNe])) .nil))).trans (ent_eqs (.cons rfl (.cons rfl .nil)) (.cons (by simp only [un, beq_l c0, c1, c2, c3, beq_l c4, c5, beq_l c6, nl4 c6, bs, Int.reduceBEq, Int.reduceBNe] <;> first | exact bZ | exact bT _ | exact bW _ | rfl) .nil)))) ke)))))) (fun c6 => (aa (bif_t (y := false) c4 (bif_f (x := true) c5 c6)) (aa (show Ent 80 S0 S5 from ((ent_les (.cons rfl (.le (le_err (by simp only [un, beq_l c0, c1, c2, c3, beq_l c4, c5, c6, bs, Int.reduceBEq, Int.reduceBNe]) rfl) .nil))).trans (ent_eqs (.cons rfl (.cons rfl .nil)) (.cons (by simp only [un, beq_l c0, c1, c2, c3, beq_l c4, c5, c6, bs, Int.reduceBEq, Int.reduceBNe] <;> first | exact bZ | exact bT _ | exact bW _ | rfl) .nil)))) ke))))))))))))))) (fun c4 => (aa c4 (aa c4 (aa c4 (aa c4 (aa c4 (aa c4 (aa ff (aa (show Ent 80 S0 S5 from ((ent_les (.cons rfl (.le (le_err (by simp only [un, beq_l c0, c1, c2, c3, c4, bs, Int.reduceBEq, Int.reduceBNe]) rfl) .nil))).trans (ent_eqs (.cons rfl (.cons rfl .nil)) (.cons (by simp only [un, beq_l c0, c1, c2, c3, c4, bs, Int.reduceBEq, Int.reduceBNe] <;> first | exact bZ | exact bT _ | exact bW _ | rfl) .nil)))) ke))))))))))))))))))))))))))))))) (fun c0 => (aa (not_t c0) (aa (show Ent 80 ⟨[(4, aP 4 0), (5, aE 66 (ckE A))], [(4, .sg 30 [.one (.v (.int .i64 0)), .one (.v (.bool false)), .one (.v (.string ByteArray.empty)), .one (.v (.bool false)), .row .u64 8 z8, .one (.v (.bool false)), .row .u64 8 z8])]⟩ S5 from ((ent_les (.cons rfl (.le (le_ee (by simp only [un, c0, bs])) .nil))).trans (ent_eqs (.cons rfl (.cons rfl .nil)) (.cons (by simp only [un, c0, bs] <;> first | exact bZ | exact bT _ | exact bW _ | rfl) .nil)))) ke)))))) (by kernel_rfl)
open Go.RowKit
def tbl : List Int := [0, 0, 0, -64, -8, -32, -64, 64, 8, 32, 64, 0, 0, 0, 0, 0, 0]
def tb12 (i : Int) : Int := tbl.getD i.toNat 0
theorem tb_all : ∀ n : Nat, -64 ≤ tbl.getD n 0 ∧ tbl.getD n 0 ≤ 64 := by
  intro n
  rcases Nat.lt_or_ge n 17 with h | h
  · have : ∀ m : Fin 17, -64 ≤ tbl.getD m.val 0 ∧ tbl.getD m.val 0 ≤ 64 := by decide
    exact this ⟨n, h⟩
  · rw [List.getD_eq_getElem?_getD, List.getElem?_eq_none (by simpa [tbl] using h)]; decide
theorem tb_lo (i : Int) : -9223372036854775808 ≤ -(tb12 i) := by have := tb_all i.toNat; unfold tb12; omega
theorem tb_hi (i : Int) : -(tb12 i) ≤ 9223372036854775807 := by have := tb_all i.toNat; unfold tb12; omega
def bdN (i : Int) : Int := bif decide (i < (0 : Int)) || decide (i ≥ (17 : Int)) then 0 else (if -(tb12 i) > tb12 i then -(tb12 i) else tb12 i)
def bdS (i : Int) : Bool := bif decide (i < (0 : Int)) || decide (i ≥ (17 : Int)) then false else decide (tb12 i < (0 : Int))
theorem bdN_b (i : Int) : 0 ≤ bdN i ∧ bdN i ≤ 64 := by
  have := tb_all i.toNat
  unfold bdN
  cases decide (i < (0 : Int)) || decide (i ≥ (17 : Int)) with
  | true => simp
  | false => rw [cond_false]; unfold tb12; split <;> omega
def insB (z i : Int) : Bool :=
  bif bdN i == (0 : Int) then true
  else bif bdS i then (bif decide (z < 0) then decide (((bl (clip (z + 1)).natAbs : Nat) : Int) < bdN i) else decide (((bl z.natAbs : Nat) : Int) < bdN i))
  else (!(decide (z < 0))) && decide (((bl z.natAbs : Nat) : Int) ≤ bdN i)
def isB12 (i : Int) : Bool := (i == (1 : Int)) || (i == (12 : Int))
def isS12 (i : Int) : Bool := (i == (2 : Int)) || (i == (13 : Int))
def fi (A : KC) (i : Int) : Int :=
  bif ckE A == (0 : Int) then
    bif ((A.k == (1 : Int)) && isB12 i) || ((A.k == (2 : Int)) && isS12 i) then 0
    else bif !(numB A) || (isB12 i || (isS12 i || (decide (i < (3 : Int)) || decide (i > (16 : Int))))) then 11
    else bif (i == (11 : Int)) || (i == (16 : Int)) then 0
    else bif whB A.n A.x A.m A.y then (bif insB (kp A) i then 0 else 9) else 1
  else ckE A
def hi12 (i : Int) : Int := clip (clip (1 * 2 ^ (bdN i).toNat) - 1)
def nt12 (A : KC) (i : Int) : KC × Int :=
  bif ckE A == (0 : Int) then
    bif (A.k != (3 : Int)) && (A.k != (4 : Int)) then (kZ, 11)
    else bif (bdN i == (0 : Int)) || bdS i then un 47 A
    else bif fi A i == (0 : Int) then (whK A.k (clip (hi12 i - kp A)) (ov (hi12 i - kp A)), ov (hi12 i - kp A))
    else (kZ, fi A i)
  else (kZ, ckE A)
theorem can_N {A : KC} (h : (ckE A == (0 : Int)) = true) (hn : numB A = true) : nS A.n A.x = iS (kp A) := by
  have hv := ck_vld h hn
  unfold kp iz
  cases hb : A.n with
  | false => simp [nS, iS]
  | true =>
    have := hv.1 hb
    have h2 : (-(A.x : Int) < 0) := by omega
    simp [nS, iS]; omega
theorem kbounds_ok (i : Int) : Fn PR 80 [kI i] (.tu [kI (bdN i), kB (bdS i)]) := by
  let S1 : St := ⟨[(2, aI (bdN i)), (3, aB (bdS i))], []⟩
  let S2 : St := ⟨[(2, aI 0), (3, aB false)], []⟩
  exact fwN (t := (.sp [] (decide (i < (0 : Int))) (.leaf [.b true, .b true, .b true, .cut [2, 3] [], .chk S1]) (.sp [.b false, .b false] (decide (i ≥ (17 : Int))) (.leaf [.b true, .cut [2, 3] [], .chk S1]) (.leaf [.b false, .cut [2, 3] [], .chk S1])))) Tryz.func80 (fun ke => (sb (decide (i < (0 : Int))) (fun c0 => (aa c0 (aa c0 (aa c0 (aa tt (aa (show Ent 24 S2 S1 from (ent_eqs (.cons (by simp only [bdN, bdS, c0, bs] <;> rfl) (.cons (by simp only [bdN, bdS, c0, bs] <;> rfl) .nil)) .nil)) ke)))))) (fun c0 => (aa c0 (aa c0 (sb (decide (i ≥ (17 : Int))) (fun c1 => (aa (bif_f (x := true) c0 c1) (aa (show Ent 24 S2 S1 from (ent_eqs (.cons (by simp only [bdN, bdS, c0, c1, bs] <;> rfl) (.cons (by simp only [bdN, bdS, c0, c1, bs] <;> rfl) .nil)) .nil)) ke))) (fun c1 => (aa (bif_f (x := true) c0 c1) (aa (show 0 ≤ i ∧ i < (17 : Int) from (by first | (have := of_decide_eq_false c0; have := of_decide_eq_false c1; omega) | exact tb_lo _ | exact tb_hi _)) (aa (show 0 ≤ i ∧ i < (17 : Int) from (by first | (have := of_decide_eq_false c0; have := of_decide_eq_false c1; omega) | exact tb_lo _ | exact tb_hi _)) (aa (show kLo .i64 ≤ (-((((((((((z17).set 3 (-64)).set 4 (-8)).set 5 (-32)).set 6 (-64)).set 7 64).set 8 8).set 9 32).set 10 64).getD i.toNat 0)) from (lo64 (by first | (have := of_decide_eq_false c0; have := of_decide_eq_false c1; omega) | exact tb_lo _ | exact tb_hi _))) (aa (show (-((((((((((z17).set 3 (-64)).set 4 (-8)).set 5 (-32)).set 6 (-64)).set 7 64).set 8 8).set 9 32).set 10 64).getD i.toNat 0)) ≤ kHi .i64 from (hi64 (by first | (have := of_decide_eq_false c0; have := of_decide_eq_false c1; omega) | exact tb_lo _ | exact tb_hi _))) (aa (show 0 ≤ i ∧ i < (17 : Int) from (by first | (have := of_decide_eq_false c0; have := of_decide_eq_false c1; omega) | exact tb_lo _ | exact tb_hi _)) (aa (show Ent 24 ⟨[(2, aI (if (-((((((((((z17).set 3 (-64)).set 4 (-8)).set 5 (-32)).set 6 (-64)).set 7 64).set 8 8).set 9 32).set 10 64).getD i.toNat 0)) > ((((((((((z17).set 3 (-64)).set 4 (-8)).set 5 (-32)).set 6 (-64)).set 7 64).set 8 8).set 9 32).set 10 64).getD i.toNat 0) then (-((((((((((z17).set 3 (-64)).set 4 (-8)).set 5 (-32)).set 6 (-64)).set 7 64).set 8 8).set 9 32).set 10 64).getD i.toNat 0)) else ((((((((((z17).set 3 (-64)).set 4 (-8)).set 5 (-32)).set 6 (-64)).set 7 64).set 8 8).set 9 32).set 10 64).getD i.toNat 0))), (3, aB (decide (((((((((((z17).set 3 (-64)).set 4 (-8)).set 5 (-32)).set 6 (-64)).set 7 64).set 8 8).set 9 32).set 10 64).getD i.toNat 0) < (0 : Int))))], []⟩ S1 from (ent_eqs (.cons (by simp only [bdN, bdS, c0, c1, bs] <;> rfl) (.cons (by simp only [bdN, bdS, c0, c1, bs] <;> rfl) .nil)) .nil)) ke)))))))))))))) (by kernel_rfl)
theorem kinside_ok (z i : Int) (hz : z.natAbs < top) : Fn PR 52 [.ag (iS z), kI i] (aB (insB z i)) := by
  have T0 : z.natAbs < top := by first | assumption | exact clip_top _ | exact small_top (by decide) (by decide)
  let S3 : St := ⟨[(4, aB (insB z i))], []⟩
  exact fwN (t := (.sp [oP 9 (.tu [kI (bdN i), kB (bdS i)])] ((bdN i) == (0 : Int)) (.leaf [.b true, .cut [4] [], .chk S3]) (.sp [.b false] (bdS i) (.sp [.b false] (decide (z < 0)) (.leaf [.b true, oP 32 (aG (iS (1 : Int))), oP 33 (.tu [.ag (iS (clip (z + (1 : Int)))), kE 66 (ov (z + (1 : Int)))]), oP 37 (aI ((bl ((clip (z + (1 : Int))).natAbs) : Nat) : Int)), .cut [4] [], .chk S3]) (.leaf [.b false, oP 37 (aI ((bl z.natAbs : Nat) : Int)), .cut [4] [], .chk S3])) (.sp [.b true] (decide (z < 0)) (.leaf [.b false, .b false, .b false, .b false, .cut [4] [], .chk S3]) (.leaf [.b true, .b true, oP 23 (aI ((bl z.natAbs : Nat) : Int)), .b true, .b true, .cut [4] [], .chk S3]))))) Tryz.func52 (fun ke => (aa (cP Tryz.f52 1 1 (kbounds_ok i)) (sb ((bdN i) == (0 : Int)) (fun c0 => (aa c0 (aa (show Ent 40 ⟨[(4, aB true)], []⟩ S3 from (ent_eqs (.cons (by simp only [insB, beq_l c0, bs, Int.reduceBEq, Int.reduceBNe] <;> rfl) .nil) .nil)) ke))) (fun c0 => (aa c0 (sb (bdS i) (fun c1 => (aa (not_f c1) (sb (decide (z < 0)) (fun c2 => (aa c2 (aa (cP Tryz.f52 7 1 (of_ok (1 : Int) (by first | omega | decide | exact w64_lo _) (by first | omega | decide | exact w64_hi _))) (aa (cP Tryz.f52 7 2 (add_u (decide (z < 0)) (decide ((1 : Int) < 0)) z.natAbs ((1 : Int).natAbs) T0 (by first | assumption | exact clip_top _ | exact small_top (by decide) (by decide)) z (1 : Int) (iz_can _) (iz_can _))) (aa (cP Tryz.f52 8 1 (bits_ok (decide (clip (z + (1 : Int)) < 0)) ((clip (z + (1 : Int))).natAbs) (by first | assumption | exact clip_top _ | exact small_top (by decide) (by decide)))) (aa (show Ent 40 ⟨[(4, aB (decide (((bl ((clip (z + (1 : Int))).natAbs) : Nat) : Int) < (bdN i))))], []⟩ S3 from (ent_eqs (.cons (by simp only [insB, c0, c1, c2, bs] <;> rfl) .nil) .nil)) ke)))))) (fun c2 => (aa c2 (aa (cP Tryz.f52 8 1 (bits_ok (decide (z < 0)) z.natAbs T0)) (aa (show Ent 40 ⟨[(4, aB (decide (((bl z.natAbs : Nat) : Int) < (bdN i))))], []⟩ S3 from (ent_eqs (.cons (by simp only [insB, c0, c1, c2, bs] <;> rfl) .nil) .nil)) ke))))))) (fun c1 => (aa (not_t c1) (sb (decide (z < 0)) (fun c2 => (aa (not_f c2) (aa (not_f c2) (aa (not_f c2) (aa (not_f c2) (aa (not_f c2) (aa (show Ent 40 ⟨[(4, aB false)], []⟩ S3 from (ent_eqs (.cons (by simp only [insB, c0, c1, c2, bs] <;> rfl) .nil) .nil)) ke))))))) (fun c2 => (aa (not_t c2) (aa (not_t c2) (aa (cP Tryz.f52 5 5 (bits_ok (decide (z < 0)) z.natAbs T0)) (aa (not_t c2) (aa (not_t c2) (aa (show Ent 40 ⟨[(4, aB (bif (!(decide (z < 0))) then (decide (((bl z.natAbs : Nat) : Int) ≤ (bdN i))) else false))], []⟩ S3 from (ent_eqs (.cons (by simp only [insB, c0, c1, c2, bs] <;> rfl) .nil) .nil)) ke)))))))))))))))) (by kernel_rfl)
theorem kfits_ok (A : KC) (hA : A.ok) (i : Int) : Fn PR 15 [.ag (kG A), kI i] (aE 66 (fi A i)) := by
  let S0 : St := ⟨[(4, .c (.sc (.v (.iface 66 (.int .i64 11)))))], []⟩
  exact fwN (t := (.sp [oP 9 (aE 66 (ckE A))] ((ckE A) == (0 : Int)) (.sp [.b false] (i == (1 : Int)) (.sp [.b true, .b true, .b false, .b false] (A.k == (1 : Int)) (.leaf [.b true, .b true, .b true, .cut [4] [], .chk (⟨[(4, aE 66 (fi A i))], []⟩)]) (.sp [.b false, .b false] (A.k == (2 : Int)) (.leaf [.b true, .b false, oP 40 (aB (numB A)), .b true, .b true, .b true, .b true, .b true, .b true, .b true, .cut [4] [], .chk (⟨[(4, aE 66 (fi A i))], []⟩)]) (.sp [.b false, .b false] (numB A) (.leaf [oP 40 (aB (numB A)), .b false, .b true, .b true, .b true, .b true, .b true, .b true, .cut [4] [], .chk (⟨[(4, aE 66 (fi A i))], []⟩)]) (.leaf [oP 40 (aB (numB A)), .b true, .b true, .b true, .b true, .b true, .b true, .b true, .cut [4] [], .chk (⟨[(4, aE 66 (fi A i))], []⟩)])))) (.sp [.b false, .b false] (i == (2 : Int)) (.sp [.b true, .b true] (A.k == (1 : Int)) (.leaf [.b true, .b false, .b false, .b false, oP 40 (aB (numB A)), .b true, .b true, .b true, .b true, .b true, .b true, .b true, .cut [4] [], .chk (⟨[(4, aE 66 (fi A i))], []⟩)]) (.sp [.b false, .b false] (A.k == (2 : Int)) (.leaf [.b true, .b true, .cut [4] [], .chk (⟨[(4, aE 66 (fi A i))], []⟩)]) (.sp [.b false, .b false] (numB A) (.leaf [oP 40 (aB (numB A)), .b false, .b false, .b true, .b true, .b true, .b true, .b true, .cut [4] [], .chk (⟨[(4, aE 66 (fi A i))], []⟩)]) (.leaf [oP 40 (aB (numB A)), .b true, .b true, .b true, .b true, .b true, .b true, .b true, .cut [4] [], .chk (⟨[(4, aE 66 (fi A i))], []⟩)])))) (.sp [.b false, .b false] (A.k == (1 : Int)) (.sp [.b true] (i == (12 : Int)) (.leaf [.b true, .b true, .cut [4] [], .chk (⟨[(4, aE 66 (fi A i))], []⟩)]) (.leaf [.b false, .b false, .b false, oP 40 (aB (numB A)), .b true, .b true, .b true, .b true, .b true, .b true, .b true, .cut [4] [], .chk (⟨[(4, aE 66 (fi A i))], []⟩)])) (.sp [.b false, .b false] (A.k == (2 : Int)) (.sp [.b true] (i == (13 : Int)) (.leaf [.b true, .cut [4] [], .chk (⟨[(4, aE 66 (fi A i))], []⟩)]) (.leaf [.b false, oP 40 (aB (numB A)), .b true, .b true, .b true, .b true, .b true, .b true, .b true, .cut [4] [], .chk (⟨[(4, aE 66 (fi A i))], []⟩)])) (.sp [.b false, .b false] (numB A) (.sp [] (i == (12 : Int)) (.leaf [oP 40 (aB (numB A)), .b false, .b true, .b true, .b true, .b true, .b true, .b true, .cut [4] [], .chk (⟨[(4, aE 66 (fi A i))], []⟩)]) (.sp [] (i == (13 : Int)) (.leaf [oP 40 (aB (numB A)), .b false, .b false, .b true, .b true, .b true, .b true, .b true, .cut [4] [], .chk (⟨[(4, aE 66 (fi A i))], []⟩)]) (.sp [] (decide (i < (3 : Int))) (.leaf [oP 40 (aB (numB A)), .b false, .b false, .b false, .b false, .b true, .b true, .b true, .cut [4] [], .chk (⟨[(4, aE 66 (fi A i))], []⟩)]) (.sp [oP 40 (aB (numB A)), .b false, .b false, .b false, .b false, .b false, .b false] (decide (i > (16 : Int))) (.leaf [.b true, .cut [4] [], .chk (⟨[(4, aE 66 (fi A i))], []⟩)]) (.sp [.b false] (i == (11 : Int)) (.leaf [.b true, .b true, .b true, .cut [4] [], .chk (⟨[(4, aE 66 (fi A i))], []⟩)]) (.sp [.b false, .b false] (i == (16 : Int)) (.leaf [.b true, .cut [4] [], .chk (⟨[(4, aE 66 (fi A i))], []⟩)]) (.sp [.b false, oP 67 (aB (whB A.n A.x A.m A.y))] (whB A.n A.x A.m A.y) (.sp [.b false, oP 75 (aB (insB (kp A) i))] (insB (kp A) i) (.leaf [.b false, .cut [4] [], .chk (⟨[(4, aE 66 (fi A i))], []⟩)]) (.leaf [.b true, .cut [4] [], .chk (⟨[(4, aE 66 (fi A i))], []⟩)])) (.leaf [.b true, .cut [4] [], .chk (⟨[(4, aE 66 (fi A i))], []⟩)])))))))) (.leaf [oP 40 (aB (numB A)), .b true, .b true, .b true, .b true, .b true, .b true, .b true, .cut [4] [], .chk (⟨[(4, aE 66 (fi A i))], []⟩)])))))) (.leaf [.b true, .cut [4] [], .chk (⟨[(4, aE 66 (fi A i))], []⟩)]))) Tryz.func15 (fun ke => (aa (cP Tryz.f15 1 1 (kcheck_ok A hA)) (sb ((ckE A) == (0 : Int)) (fun c0 => (aa (not_f c0) (sb (i == (1 : Int)) (fun c1 => (aa c1 (aa c1 (aa c1 (aa (eq_other (b := (2 : Int)) c1 rfl) (aa (eq_other (b := (2 : Int)) c1 rfl) (sb (A.k == (1 : Int)) (fun c2 => (aa c2 (aa (bif_t (y := false) c2 tt) (aa (bif_t (y := false) c2 tt) (aa (show Ent 78 ⟨[(4, .c (.sc (.v .nilIface)))], []⟩ (⟨[(4, aE 66 (fi A i))], []⟩) from (ent_les (.le (le_nil (by simp only [fi, isB12, isS12, beq_l c0, beq_l c1, beq_l c2, nl1 c2, bs, Int.reduceBEq, Int.reduceBNe])) .nil))) ke))))) (fun c2 => (aa c2 (aa c2 (aa ff (sb (A.k == (2 : Int)) (fun c3 => (aa c3 (aa (bif_t (y := false) c3 (bif_f (x := true) (eq_other (b := (2 : Int)) c1 rfl) (eq_other (b := (13 : Int)) c1 rfl))) (aa (cP Tryz.f15 9 1 (knumber_ok A)) (aa (not_t (numB_l (A := A) c3 rfl)) (aa (not_t (numB_l (A := A) c3 rfl)) (aa tt (aa tt (aa tt (aa tt (aa tt (aa tt (aa tt (aa tt (aa tt (aa (show Ent 78 S0 (⟨[(4, aE 66 (fi A i))], []⟩) from (ent_les (.le (le_err (by simp only [fi, isB12, isS12, beq_l c0, beq_l c1, c2, beq_l c3, nl2 c3, bs, Int.reduceBEq, Int.reduceBNe]) rfl) .nil))) ke)))))))))))))))) (fun c3 => (aa c3 (aa c3 (aa ff (sb (numB A) (fun c4 => (aa (cP Tryz.f15 9 1 (knumber_ok A)) (aa (not_f c4) (aa (bif_f (x := true) (not_f c4) tt) (aa (bif_f (x := true) (not_f c4) tt) (aa tt (aa tt (aa tt (aa tt (aa tt (aa tt (aa tt (aa (show Ent 78 S0 (⟨[(4, aE 66 (fi A i))], []⟩) from (ent_les (.le (le_err (by simp only [fi, isB12, isS12, beq_l c0, beq_l c1, c2, c3, c4, no1 c4, no2 c4, bs, Int.reduceBEq, Int.reduceBNe]) rfl) .nil))) ke))))))))))))) (fun c4 => (aa (cP Tryz.f15 9 1 (knumber_ok A)) (aa (not_t c4) (aa (not_t c4) (aa tt (aa tt (aa tt (aa tt (aa tt (aa tt (aa tt (aa tt (aa tt (aa (show Ent 78 S0 (⟨[(4, aE 66 (fi A i))], []⟩) from (ent_les (.le (le_err (by simp only [fi, isB12, isS12, beq_l c0, beq_l c1, c2, c3, c4, no3 c4, no4 c4, no5 c4, bs, Int.reduceBEq, Int.reduceBNe]) rfl) .nil))) ke))))))))))))))))))))))))))))))) (fun c1 => (aa c1 (aa c1 (sb (i == (2 : Int)) (fun c2 => (aa c2 (aa c2 (aa c2 (sb (A.k == (1 : Int)) (fun c3 => (aa c3 (aa (bif_t (y := false) c3 (bif_f (x := true) c1 (eq_other (b := (12 : Int)) c2 rfl))) (aa (eq_other (b := (2 : Int)) c3 rfl) (aa (eq_other (b := (2 : Int)) c3 rfl) (aa ff (aa (cP Tryz.f15 9 1 (knumber_ok A)) (aa (not_t (numB_l (A := A) c3 rfl)) (aa (not_t (numB_l (A := A) c3 rfl)) (aa tt (aa tt (aa tt (aa tt (aa tt (aa tt (aa tt (aa tt (aa tt (aa (show Ent 78 S0 (⟨[(4, aE 66 (fi A i))], []⟩) from (ent_les (.le (le_err (by simp only [fi, isB12, isS12, beq_l c0, c1, beq_l c2, beq_l c3, nl1 c3, bs, Int.reduceBEq, Int.reduceBNe]) rfl) .nil))) ke))))))))))))))))))) (fun c3 => (aa c3 (aa c3 (aa ff (sb (A.k == (2 : Int)) (fun c4 => (aa c4 (aa (bif_t (y := false) c4 tt) (aa (show Ent 78 ⟨[(4, .c (.sc (.v .nilIface)))], []⟩ (⟨[(4, aE 66 (fi A i))], []⟩) from (ent_les (.le (le_nil (by simp only [fi, isB12, isS12, beq_l c0, c1, beq_l c2, c3, beq_l c4, nl2 c4, bs, Int.reduceBEq, Int.reduceBNe])) .nil))) ke)))) (fun c4 => (aa c4 (aa c4 (aa ff (sb (numB A) (fun c5 => (aa (cP Tryz.f15 9 1 (knumber_ok A)) (aa (not_f c5) (aa (bif_f (x := true) (not_f c5) (bif_f (x := true) c1 (eq_other (b := (12 : Int)) c2 rfl))) (aa (bif_f (x := true) (bif_f (x := true) (not_f c5) (bif_f (x := true) c1 (eq_other (b := (12 : Int)) c2 rfl))) tt) (aa (bif_f (x := true) (bif_f (x := true) (not_f c5) (bif_f (x := true) c1 (eq_other (b := (12 : Int)) c2 rfl))) tt) (aa (bif_f (x := true) (bif_f (x := true) (not_f c5) (bif_f (x := true) c1 (eq_other (b := (12 : Int)) c2 rfl))) tt) (aa tt (aa tt (aa tt (aa tt (aa (show Ent 78 S0 (⟨[(4, aE 66 (fi A i))], []⟩) from (ent_les (.le (le_err (by simp only [fi, isB12, isS12, beq_l c0, c1, beq_l c2, c3, c4, c5, no1 c5, no2 c5, bs, Int.reduceBEq, Int.reduceBNe]) rfl) .nil))) ke)))))))))))) (fun c5 => (aa (cP Tryz.f15 9 1 (knumber_ok A)) (aa (not_t c5) (aa (not_t c5) (aa tt (aa tt (aa tt (aa tt (aa tt (aa tt (aa tt (aa tt (aa tt (aa (show Ent 78 S0 (⟨[(4, aE 66 (fi A i))], []⟩) from (ent_les (.le (le_err (by simp only [fi, isB12, isS12, beq_l c0, c1, beq_l c2, c3, c4, c5, no3 c5, no4 c5, no5 c5, bs, Int.reduceBEq, Int.reduceBNe]) rfl) .nil))) ke))))))))))))))))))))))))))))) (fun c2 => (aa c2 (aa c2 (sb (A.k == (1 : Int)) (fun c3 => (aa c3 (sb (i == (12 : Int)) (fun c4 => (aa (bif_t (y := false) c3 (bif_f (x := true) c1 c4)) (aa (bif_t (y := false) c3 (bif_f (x := true) c1 c4)) (aa (show Ent 78 ⟨[(4, .c (.sc (.v .nilIface)))], []⟩ (⟨[(4, aE 66 (fi A i))], []⟩) from (ent_les (.le (le_nil (by simp only [fi, isB12, isS12, beq_l c0, c1, c2, beq_l c3, beq_l c4, nl1 c3, bs, Int.reduceBEq, Int.reduceBNe])) .nil))) ke)))) (fun c4 => (aa (bif_t (y := false) c3 (bif_f (x := true) c1 c4)) (aa (eq_other (b := (2 : Int)) c3 rfl) (aa (eq_other (b := (2 : Int)) c3 rfl) (aa ff (aa (cP Tryz.f15 9 1 (knumber_ok A)) (aa (not_t (numB_l (A := A) c3 rfl)) (aa (not_t (numB_l (A := A) c3 rfl)) (aa tt (aa tt (aa tt (aa tt (aa tt (aa tt (aa tt (aa tt (aa tt (aa (show Ent 78 S0 (⟨[(4, aE 66 (fi A i))], []⟩) from (ent_les (.le (le_err (by simp only [fi, isB12, isS12, beq_l c0, c1, c2, beq_l c3, c4, nl1 c3, bs, Int.reduceBEq, Int.reduceBNe]) rfl) .nil))) ke))))))))))))))))))))) (fun c3 => (aa c3 (aa c3 (aa ff (sb (A.k == (2 : Int)) (fun c4 => (aa c4 (sb (i == (13 : Int)) (fun c5 => (aa (bif_t (y := false) c4 (bif_f (x := true) c2 c5)) (aa (show Ent 78 ⟨[(4, .c (.sc (.v .nilIface)))], []⟩ (⟨[(4, aE 66 (fi A i))], []⟩) from (ent_les (.le (le_nil (by simp only [fi, isB12, isS12, beq_l c0, c1, c2, c3, beq_l c4, beq_l c5, nl2 c4, bs, Int.reduceBEq, Int.reduceBNe])) .nil))) ke))) (fun c5 => (aa (bif_t (y := false) c4 (bif_f (x := true) c2 c5)) (aa (cP Tryz.f15 9 1 (knumber_ok A)) (aa (not_t (numB_l (A := A) c4 rfl)) (aa (not_t (numB_l (A := A) c4 rfl)) (aa tt (aa tt (aa tt (aa tt (aa tt (aa tt (aa tt (aa tt (aa tt (aa (show Ent 78 S0 (⟨[(4, aE 66 (fi A i))], []⟩) from (ent_les (.le (le_err (by simp only [fi, isB12, isS12, beq_l c0, c1, c2, c3, beq_l c4, c5, nl2 c4, bs, Int.reduceBEq, Int.reduceBNe]) rfl) .nil))) ke)))))))))))))))))) (fun c4 => (aa c4 (aa c4 (aa ff (sb (numB A) (fun c5 => (sb (i == (12 : Int)) (fun c6 => (aa (cP Tryz.f15 9 1 (knumber_ok A)) (aa (not_f c5) (aa (bif_f (x := true) (not_f c5) (bif_f (x := true) c1 c6)) (aa (bif_f (x := true) (not_f c5) (bif_f (x := true) c1 c6)) (aa tt (aa tt (aa tt (aa tt (aa tt (aa tt (aa tt (aa (show Ent 78 S0 (⟨[(4, aE 66 (fi A i))], []⟩) from (ent_les (.le (le_err (by simp only [fi, isB12, isS12, beq_l c0, c1, c2, c3, c4, c5, beq_l c6, no1 c5, no2 c5, bs, Int.reduceBEq, Int.reduceBNe]) rfl) .nil))) ke))))))))))))) (fun c6 => (sb (i == (13 : Int)) (fun c7 => (aa (cP Tryz.f15 9 1 (knumber_ok A)) (aa (not_f c5) (aa (bif_f (x := true) (not_f c5) (bif_f (x := true) c1 c6)) (aa (bif_f (x := true) (bif_f (x := true) (not_f c5) (bif_f (x := true) c1 c6)) (bif_f (x := true) c2 c7)) (aa (bif_f (x := true) (bif_f (x := true) (not_f c5) (bif_f (x := true) c1 c6)) (bif_f (x := true) c2 c7)) (aa (bif_f (x := true) (bif_f (x := true) (not_f c5) (bif_f (x := true) c1 c6)) (bif_f (x := true) c2 c7)) (aa tt (aa tt (aa tt (aa tt (aa (show Ent 78 S0 (⟨[(4, aE 66 (fi A i))], []⟩) from (ent_les (.le (le_err (by simp only [fi, isB12, isS12, beq_l c0, c1, c2, c3, c4, c5, c6, beq_l c7, no1 c5, no2 c5, bs, Int.reduceBEq, Int.reduceBNe]) rfl) .nil))) ke)))))))))))) (fun c7 => (sb (decide (i < (3 : Int))) (fun c8 => (aa (cP Tryz.f15 9 1 (knumber_ok A)) (aa (not_f c5) (aa (bif_f (x := true) (not_f c5) (bif_f (x := true) c1 c6)) (aa (bif_f (x := true) (bif_f (x := true) (not_f c5) (bif_f (x := true) c1 c6)) (bif_f (x := true) c2 c7)) (aa (bif_f (x := true) (bif_f (x := true) (not_f c5) (bif_f (x := true) c1 c6)) (bif_f (x := true) c2 c7)) (aa (bif_f (x := true) (bif_f (x := true) (bif_f (x := true) (not_f c5) (bif_f (x := true) c1 c6)) (bif_f (x := true) c2 c7)) c8) (aa (bif_f (x := true) (bif_f (x := true) (bif_f (x := true) (not_f c5) (bif_f (x := true) c1 c6)) (bif_f (x := true) c2 c7)) c8) (aa (bif_f (x := true) (bif_f (x := true) (bif_f (x := true) (not_f c5) (bif_f (x := true) c1 c6)) (bif_f (x := true) c2 c7)) c8) (aa tt (aa (show Ent 78 S0 (⟨[(4, aE 66 (fi A i))], []⟩) from (ent_les (.le (le_err (by simp only [fi, isB12, isS12, beq_l c0, c1, c2, c3, c4, c5, c6, c7, c8, no1 c5, no2 c5, bs, Int.reduceBEq, Int.reduceBNe]) rfl) .nil))) ke))))))))))) (fun c8 => (aa (cP Tryz.f15 9 1 (knumber_ok A)) (aa (not_f c5) (aa (bif_f (x := true) (not_f c5) (bif_f (x := true) c1 c6)) (aa (bif_f (x := true) (bif_f (x := true) (not_f c5) (bif_f (x := true) c1 c6)) (bif_f (x := true) c2 c7)) (aa (bif_f (x := true) (bif_f (x := true) (not_f c5) (bif_f (x := true) c1 c6)) (bif_f (x := true) c2 c7)) (aa (bif_f (x := true) (bif_f (x := true) (bif_f (x := true) (not_f c5) (bif_f (x := true) c1 c6)) (bif_f (x := true) c2 c7)) c8) (aa (bif_f (x := true) (bif_f (x := true) (bif_f (x := true) (not_f c5) (bif_f (x := true) c1 c6)) (bif_f (x := true) c2 c7)) c8) (sb (decide (i > (16 : Int))) (fun c9 => (aa (bif_f (x := true) (bif_f (x := true) (bif_f (x := true) (bif_f (x := true) (not_f c5) (bif_f (x := true) c1 c6)) (bif_f (x := true) c2 c7)) c8) c9) (aa (show Ent 78 S0 (⟨[(4, aE 66 (fi A i))], []⟩) from (ent_les (.le (le_err (by simp only [fi, isB12, isS12, beq_l c0, c1, c2, c3, c4, c5, c6, c7, c8, c9, no1 c5, no2 c5, bs, Int.reduceBEq, Int.reduceBNe]) rfl) .nil))) ke))) (fun c9 => (aa (bif_f (x := true) (bif_f (x := true) (bif_f (x := true) (bif_f (x := true) (not_f c5) (bif_f (x := true) c1 c6)) (bif_f (x := true) c2 c7)) c8) c9) (sb (i == (11 : Int)) (fun c10 => (aa c10 (aa c10 (aa c10 (aa tt (aa (show Ent 78 ⟨[(4, .c (.sc (.v .nilIface)))], []⟩ (⟨[(4, aE 66 (fi A i))], []⟩) from (ent_les (.le (le_nil (by simp only [fi, isB12, isS12, beq_l c0, c1, c2, c3, c4, c5, c6, c7, c8, c9, beq_l c10, no1 c5, no2 c5, bs, Int.reduceBEq, Int.reduceBNe])) .nil))) ke)))))) (fun c10 => (aa c10 (aa c10 (sb (i == (16 : Int)) (fun c11 => (aa (bif_f (x := true) c10 c11) (aa (show Ent 78 ⟨[(4, .c (.sc (.v .nilIface)))], []⟩ (⟨[(4, aE 66 (fi A i))], []⟩) from (ent_les (.le (le_nil (by simp only [fi, isB12, isS12, beq_l c0, c1, c2, c3, c4, c5, c6, c7, c8, c9, c10, beq_l c11, no1 c5, no2 c5, bs, Int.reduceBEq, Int.reduceBNe])) .nil))) ke))) (fun c11 => (aa (bif_f (x := true) c10 c11) (aa (cP Tryz.f15 13 2 (whg A.n A.x A.m A.y hA.x hA.y)) (sb (whB A.n A.x A.m A.y) (fun c12 => (aa (not_f c12) (aa (cP Tryz.f15 15 4 (show Fn PR 52 [.ag (nS A.n A.x), kI i] (aB (insB (kp A) i)) from (by rw [can_N c0 c5]; exact kinside_ok (kp A) i (ck_rt hA c0 c5).pt))) (sb (insB (kp A) i) (fun c13 => (aa (not_f c13) (aa (show Ent 78 ⟨[(4, .c (.sc (.v .nilIface)))], []⟩ (⟨[(4, aE 66 (fi A i))], []⟩) from (ent_les (.le (le_nil (by simp only [fi, isB12, isS12, beq_l c0, c1, c2, c3, c4, c5, c6, c7, c8, c9, c10, c11, c12, c13, no1 c5, no2 c5, bs, Int.reduceBEq, Int.reduceBNe])) .nil))) ke))) (fun c13 => (aa (not_t c13) (aa (show Ent 78 ⟨[(4, .c (.sc (.v (.iface 66 (.int .i64 9)))))], []⟩ (⟨[(4, aE 66 (fi A i))], []⟩) from (ent_les (.le (le_err (by simp only [fi, isB12, isS12, beq_l c0, c1, c2, c3, c4, c5, c6, c7, c8, c9, c10, c11, c12, c13, no1 c5, no2 c5, bs, Int.reduceBEq, Int.reduceBNe]) rfl) .nil))) ke))))))) (fun c12 => (aa (not_t c12) (aa (show Ent 78 ⟨[(4, .c (.sc (.v (.iface 66 (.int .i64 1)))))], []⟩ (⟨[(4, aE 66 (fi A i))], []⟩) from (ent_les (.le (le_err (by simp only [fi, isB12, isS12, beq_l c0, c1, c2, c3, c4, c5, c6, c7, c8, c9, c10, c11, c12, no1 c5, no2 c5, bs, Int.reduceBEq, Int.reduceBNe]) rfl) .nil))) ke))))))))))))))))))))))))))))) (fun c5 => (aa (cP Tryz.f15 9 1 (knumber_ok A)) (aa (not_t c5) (aa (not_t c5) (aa tt (aa tt (aa tt (aa tt (aa tt (aa tt (aa tt (aa tt (aa tt (aa (show Ent 78 S0 (⟨[(4, aE 66 (fi A i))], []⟩) from (ent_les (.le (le_err (by simp only [fi, isB12, isS12, beq_l c0, c1, c2, c3, c4, c5, no3 c5, no4 c5, no5 c5, bs, Int.reduceBEq, Int.reduceBNe]) rfl) .nil))) ke))))))))))))))))))))))))))))))))))) (fun c0 => (aa (not_t c0) (aa (show Ent 78 ⟨[(4, aE 66 (ckE A))], []⟩ (⟨[(4, aE 66 (fi A i))], []⟩) from (ent_les (.le (le_ee (by simp only [fi, isB12, isS12, c0, bs])) .nil))) ke)))))) (by kernel_rfl)
theorem knot_ok (A : KC) (hA : A.ok) (i : Int) : Fn PR 32 [.ag (kG A), kI i] (.tu [.ag (kG ((nt12 A i).1)), kE 66 ((nt12 A i).2)]) := by
  have T0 : (clip ((1 : Int) * 2 ^ (bdN i).toNat)).natAbs < top := by first | exact hA.x | exact hA.y | exact clip_top _ | exact small_top (by decide) (by decide)
  have T1 : (1 : Int).natAbs < top := by first | exact hA.x | exact hA.y | exact clip_top _ | exact small_top (by decide) (by decide)
  have T2 : (clip ((clip ((1 : Int) * 2 ^ (bdN i).toNat)) - (1 : Int))).natAbs < top := by first | exact hA.x | exact hA.y | exact clip_top _ | exact small_top (by decide) (by decide)
  have T3 : A.x < top := by first | exact hA.x | exact hA.y | exact clip_top _ | exact small_top (by decide) (by decide)
  let S0 : St := ⟨[(4, aP 4 0), (5, aE 66 (ov ((clip ((clip ((1 : Int) * 2 ^ (bdN i).toNat)) - (1 : Int))) - (iz A.n A.x))))], [(4, .sg 30 (kG (whK A.k (clip ((clip ((clip ((1 : Int) * 2 ^ (bdN i).toNat)) - (1 : Int))) - (iz A.n A.x))) (ov ((clip ((clip ((1 : Int) * 2 ^ (bdN i).toNat)) - (1 : Int))) - (iz A.n A.x))))))]⟩
  let S2 : St := ⟨[(4, aP 4 0), (5, aE 66 (fi A i))], [(4, .sg 30 [.one (.v (.int .i64 0)), .one (.v (.bool false)), .one (.v (.string ByteArray.empty)), .one (.v (.bool false)), .row .u64 8 z8, .one (.v (.bool false)), .row .u64 8 z8])]⟩
  let S4 : St := ⟨[(4, aP 4 0), (5, aE 66 ((un (47 : Int) A).2))], [(4, .sg 30 (kG ((un (47 : Int) A).1)))]⟩
  let S5 : St := ⟨[(4, aP 4 0), (5, aE 66 ((nt12 A i).2))], [(4, .sg 30 (kG ((nt12 A i).1)))]⟩
  exact fwN (t := (.sp [oP 15 (aE 66 (ckE A))] ((ckE A) == (0 : Int)) (.sp [.b false] (A.k != (3 : Int)) (.sp [.b true, .b true, .b true] (A.k != (4 : Int)) (.leaf [.b true, .cut [4, 5] [4], .chk S5]) (.sp [.b false, oP 32 (.tu [kI (bdN i), kB (bdS i)])] ((bdN i) == (0 : Int)) (.leaf [.b true, .b true, oP 41 (.tu [.ag (kG ((un (47 : Int) A).1)), kE 66 ((un (47 : Int) A).2)]), .cut [4, 5] [4], .chk S5]) (.sp [.b false] (bdS i) (.leaf [.b true, oP 41 (.tu [.ag (kG ((un (47 : Int) A).1)), kE 66 ((un (47 : Int) A).2)]), .cut [4, 5] [4], .chk S5]) (.sp [.b false, oP 46 (aE 66 (fi A i))] ((fi A i) == (0 : Int)) (.leaf [.b false, oP 52 (aG (iS (1 : Int))), oP 54 (.tu [.ag (iS (clip ((1 : Int) * 2 ^ (bdN i).toNat))), kE 66 (ov ((1 : Int) * 2 ^ (bdN i).toNat))]), oP 59 (aG (iS (1 : Int))), oP 60 (.tu [.ag (iS (clip ((clip ((1 : Int) * 2 ^ (bdN i).toNat)) - (1 : Int)))), kE 66 (ov ((clip ((1 : Int) * 2 ^ (bdN i).toNat)) - (1 : Int)))]), oP 68 (.tu [.ag (iS (clip ((clip ((clip ((1 : Int) * 2 ^ (bdN i).toNat)) - (1 : Int))) - (iz A.n A.x)))), kE 66 (ov ((clip ((clip ((1 : Int) * 2 ^ (bdN i).toNat)) - (1 : Int))) - (iz A.n A.x)))]), oP 75 (.tu [.ag (kG (whK A.k (clip ((clip ((clip ((1 : Int) * 2 ^ (bdN i).toNat)) - (1 : Int))) - (iz A.n A.x))) (ov ((clip ((clip ((1 : Int) * 2 ^ (bdN i).toNat)) - (1 : Int))) - (iz A.n A.x))))), kE 66 (ov ((clip ((clip ((1 : Int) * 2 ^ (bdN i).toNat)) - (1 : Int))) - (iz A.n A.x)))]), .cut [4, 5] [4], .chk S5]) (.leaf [.b true, .cut [4, 5] [4], .chk S5]))))) (.sp [.b false, .b false, .b false, .b false, oP 32 (.tu [kI (bdN i), kB (bdS i)])] ((bdN i) == (0 : Int)) (.leaf [.b true, .b true, oP 41 (.tu [.ag (kG ((un (47 : Int) A).1)), kE 66 ((un (47 : Int) A).2)]), .cut [4, 5] [4], .chk S5]) (.sp [.b false] (bdS i) (.leaf [.b true, oP 41 (.tu [.ag (kG ((un (47 : Int) A).1)), kE 66 ((un (47 : Int) A).2)]), .cut [4, 5] [4], .chk S5]) (.sp [.b false, oP 46 (aE 66 (fi A i))] ((fi A i) == (0 : Int)) (.leaf [.b false, oP 52 (aG (iS (1 : Int))), oP 54 (.tu [.ag (iS (clip ((1 : Int) * 2 ^ (bdN i).toNat))), kE 66 (ov ((1 : Int) * 2 ^ (bdN i).toNat))]), oP 59 (aG (iS (1 : Int))), oP 60 (.tu [.ag (iS (clip ((clip ((1 : Int) * 2 ^ (bdN i).toNat)) - (1 : Int)))), kE 66 (ov ((clip ((1 : Int) * 2 ^ (bdN i).toNat)) - (1 : Int)))]), oP 68 (.tu [.ag (iS (clip ((clip ((clip ((1 : Int) * 2 ^ (bdN i).toNat)) - (1 : Int))) - (iz A.n A.x)))), kE 66 (ov ((clip ((clip ((1 : Int) * 2 ^ (bdN i).toNat)) - (1 : Int))) - (iz A.n A.x)))]), oP 75 (.tu [.ag (kG (whK A.k (clip ((clip ((clip ((1 : Int) * 2 ^ (bdN i).toNat)) - (1 : Int))) - (iz A.n A.x))) (ov ((clip ((clip ((1 : Int) * 2 ^ (bdN i).toNat)) - (1 : Int))) - (iz A.n A.x))))), kE 66 (ov ((clip ((clip ((1 : Int) * 2 ^ (bdN i).toNat)) - (1 : Int))) - (iz A.n A.x)))]), .cut [4, 5] [4], .chk S5]) (.leaf [.b true, .cut [4, 5] [4], .chk S5]))))) (.leaf [.b true, .cut [4, 5] [4], .chk S5]))) Tryz.func32 (fun ke => (aa (cP Tryz.f32 1 1 (kcheck_ok A hA)) (sb ((ckE A) == (0 : Int)) (fun c0 => (aa (not_f c0) (sb (A.k != (3 : Int)) (fun c1 => (aa c1 (aa c1 (aa c1 (sb (A.k != (4 : Int)) (fun c2 => (aa (bif_t (y := false) c1 c2) (aa (show Ent 78 ⟨[(4, aP 4 0), (5, .c (.sc (.v (.iface 66 (.int .i64 11)))))], [(4, .sg 30 [.one (.v (.int .i64 0)), .one (.v (.bool false)), .one (.v (.string ByteArray.empty)), .one (.v (.bool false)), .row .u64 8 z8, .one (.v (.bool false)), .row .u64 8 z8])]⟩ S5 from ((ent_les (.cons rfl (.le (le_err (by simp only [nt12, hi12, beq_l c0, c1, c2, bs, Int.reduceBEq, Int.reduceBNe]) rfl) .nil))).trans (ent_eqs (.cons rfl (.cons rfl .nil)) (.cons (by simp only [nt12, hi12, beq_l c0, c1, c2, bs, Int.reduceBEq, Int.reduceBNe] <;> first | exact bZ | rfl) .nil)))) ke))) (fun c2 => (aa (bif_t (y := false) c1 c2) (aa (cP Tryz.f32 6 1 (kbounds_ok i)) (sb ((bdN i) == (0 : Int)) (fun c3 => (aa c3 (aa c3 (aa tt (aa (cP Tryz.f32 8 1 (kunary_ok (47 : Int) A hA)) (aa (show Ent 78 S4 S5 from ((ent_les (.cons rfl (.le (le_ee (by simp only [nt12, hi12, beq_l c0, c1, c2, beq_l c3, bs, Int.reduceBEq, Int.reduceBNe])) .nil))).trans (ent_eqs (.cons rfl (.cons rfl .nil)) (.cons (by simp only [nt12, hi12, beq_l c0, c1, c2, beq_l c3, bs, Int.reduceBEq, Int.reduceBNe] <;> first | exact bZ | rfl) .nil)))) ke)))))) (fun c3 => (aa c3 (sb (bdS i) (fun c4 => (aa (bif_f (x := true) c3 c4) (aa (cP Tryz.f32 8 1 (kunary_ok (47 : Int) A hA)) (aa (show Ent 78 S4 S5 from ((ent_les (.cons rfl (.le (le_ee (by simp only [nt12, hi12, beq_l c0, c1, c2, c3, c4, bs, Int.reduceBEq, Int.reduceBNe])) .nil))).trans (ent_eqs (.cons rfl (.cons rfl .nil)) (.cons (by simp only [nt12, hi12, beq_l c0, c1, c2, c3, c4, bs, Int.reduceBEq, Int.reduceBNe] <;> first | exact bZ | rfl) .nil)))) ke)))) (fun c4 => (aa (bif_f (x := true) c3 c4) (aa (cP Tryz.f32 9 2 (kfits_ok A hA i)) (sb ((fi A i) == (0 : Int)) (fun c5 => (aa (not_f c5) (aa (cP Tryz.f32 12 0 (of_ok (1 : Int) (by first | omega | decide | exact w64_lo _) (by first | omega | decide | exact w64_hi _))) (aa (cP Tryz.f32 12 2 (show Fn PR 47 [.ag (iS (1 : Int)), kI (bdN i)] (.tu [.ag (iS (clip ((1 : Int) * 2 ^ (bdN i).toNat))), kE 66 (ov ((1 : Int) * 2 ^ (bdN i).toNat))]) from (by have hq := shl_u (decide ((1 : Int) < 0)) (1 : Int).natAbs (small_top (by decide) (by decide)) (1 : Int) (iz_can _) (bdN i).toNat; rw [Int.toNat_of_nonneg (bdN_b i).1] at hq; exact hq))) (aa (cP Tryz.f32 13 1 (of_ok (1 : Int) (by first | omega | decide | exact w64_lo _) (by first | omega | decide | exact w64_hi _))) (aa (cP Tryz.f32 13 2 (sub_u (decide (clip ((1 : Int) * 2 ^ (bdN i).toNat) < 0)) (decide ((1 : Int) < 0)) ((clip ((1 : Int) * 2 ^ (bdN i).toNat)).natAbs) ((1 : Int).natAbs) T0 T1 (clip ((1 : Int) * 2 ^ (bdN i).toNat)) (1 : Int) (iz_can _) (iz_can _))) (aa (cP Tryz.f32 14 4 (sub_u (decide (clip ((clip ((1 : Int) * 2 ^ (bdN i).toNat)) - (1 : Int)) < 0)) A.n ((clip ((clip ((1 : Int) * 2 ^ (bdN i).toNat)) - (1 : Int))).natAbs) A.x T2 T3 (clip ((clip ((1 : Int) * 2 ^ (bdN i).toNat)) - (1 : Int))) (iz A.n A.x) (iz_can _) rfl)) (aa (cP Tryz.f32 15 4 (kwhole_ok A.k (clip ((clip ((clip ((1 : Int) * 2 ^ (bdN i).toNat)) - (1 : Int))) - (iz A.n A.x))) (ov ((clip ((clip ((1 : Int) * 2 ^ (bdN i).toNat)) - (1 : Int))) - (iz A.n A.x))))) (aa (show Ent 78 S0 S5 from ((ent_les (.cons rfl (.le (le_ee (by simp only [nt12, hi12, beq_l c0, c1, c2, c3, c4, beq_l c5, bs, Int.reduceBEq, Int.reduceBNe])) .nil))).trans (ent_eqs (.cons rfl (.cons rfl .nil)) (.cons (by simp only [nt12, hi12, beq_l c0, c1, c2, c3, c4, beq_l c5, bs, Int.reduceBEq, Int.reduceBNe] <;> first | exact bZ | rfl) .nil)))) ke))))))))) (fun c5 => (aa (not_t c5) (aa (show Ent 78 S2 S5 from ((ent_les (.cons rfl (.le (le_ee (by simp only [nt12, hi12, beq_l c0, c1, c2, c3, c4, c5, bs, Int.reduceBEq, Int.reduceBNe])) .nil))).trans (ent_eqs (.cons rfl (.cons rfl .nil)) (.cons (by simp only [nt12, hi12, beq_l c0, c1, c2, c3, c4, c5, bs, Int.reduceBEq, Int.reduceBNe] <;> first | exact bZ | rfl) .nil)))) ke))))))))))))))))))) (fun c1 => (aa c1 (aa c1 (aa c1 (aa c1 (aa ff (aa (cP Tryz.f32 6 1 (kbounds_ok i)) (sb ((bdN i) == (0 : Int)) (fun c2 => (aa c2 (aa c2 (aa tt (aa (cP Tryz.f32 8 1 (kunary_ok (47 : Int) A hA)) (aa (show Ent 78 S4 S5 from ((ent_les (.cons rfl (.le (le_ee (by simp only [nt12, hi12, beq_l c0, c1, beq_l c2, bs, Int.reduceBEq, Int.reduceBNe])) .nil))).trans (ent_eqs (.cons rfl (.cons rfl .nil)) (.cons (by simp only [nt12, hi12, beq_l c0, c1, beq_l c2, bs, Int.reduceBEq, Int.reduceBNe] <;> first | exact bZ | rfl) .nil)))) ke)))))) (fun c2 => (aa c2 (sb (bdS i) (fun c3 => (aa (bif_f (x := true) c2 c3) (aa (cP Tryz.f32 8 1 (kunary_ok (47 : Int) A hA)) (aa (show Ent 78 S4 S5 from ((ent_les (.cons rfl (.le (le_ee (by simp only [nt12, hi12, beq_l c0, c1, c2, c3, bs, Int.reduceBEq, Int.reduceBNe])) .nil))).trans (ent_eqs (.cons rfl (.cons rfl .nil)) (.cons (by simp only [nt12, hi12, beq_l c0, c1, c2, c3, bs, Int.reduceBEq, Int.reduceBNe] <;> first | exact bZ | rfl) .nil)))) ke)))) (fun c3 => (aa (bif_f (x := true) c2 c3) (aa (cP Tryz.f32 9 2 (kfits_ok A hA i)) (sb ((fi A i) == (0 : Int)) (fun c4 => (aa (not_f c4) (aa (cP Tryz.f32 12 0 (of_ok (1 : Int) (by first | omega | decide | exact w64_lo _) (by first | omega | decide | exact w64_hi _))) (aa (cP Tryz.f32 12 2 (show Fn PR 47 [.ag (iS (1 : Int)), kI (bdN i)] (.tu [.ag (iS (clip ((1 : Int) * 2 ^ (bdN i).toNat))), kE 66 (ov ((1 : Int) * 2 ^ (bdN i).toNat))]) from (by have hq := shl_u (decide ((1 : Int) < 0)) (1 : Int).natAbs (small_top (by decide) (by decide)) (1 : Int) (iz_can _) (bdN i).toNat; rw [Int.toNat_of_nonneg (bdN_b i).1] at hq; exact hq))) (aa (cP Tryz.f32 13 1 (of_ok (1 : Int) (by first | omega | decide | exact w64_lo _) (by first | omega | decide | exact w64_hi _))) (aa (cP Tryz.f32 13 2 (sub_u (decide (clip ((1 : Int) * 2 ^ (bdN i).toNat) < 0)) (decide ((1 : Int) < 0)) ((clip ((1 : Int) * 2 ^ (bdN i).toNat)).natAbs) ((1 : Int).natAbs) T0 T1 (clip ((1 : Int) * 2 ^ (bdN i).toNat)) (1 : Int) (iz_can _) (iz_can _))) (aa (cP Tryz.f32 14 4 (sub_u (decide (clip ((clip ((1 : Int) * 2 ^ (bdN i).toNat)) - (1 : Int)) < 0)) A.n ((clip ((clip ((1 : Int) * 2 ^ (bdN i).toNat)) - (1 : Int))).natAbs) A.x T2 T3 (clip ((clip ((1 : Int) * 2 ^ (bdN i).toNat)) - (1 : Int))) (iz A.n A.x) (iz_can _) rfl)) (aa (cP Tryz.f32 15 4 (kwhole_ok A.k (clip ((clip ((clip ((1 : Int) * 2 ^ (bdN i).toNat)) - (1 : Int))) - (iz A.n A.x))) (ov ((clip ((clip ((1 : Int) * 2 ^ (bdN i).toNat)) - (1 : Int))) - (iz A.n A.x))))) (aa (show Ent 78 S0 S5 from ((ent_les (.cons rfl (.le (le_ee (by simp only [nt12, hi12, beq_l c0, c1, c2, c3, beq_l c4, bs, Int.reduceBEq, Int.reduceBNe])) .nil))).trans (ent_eqs (.cons rfl (.cons rfl .nil)) (.cons (by simp only [nt12, hi12, beq_l c0, c1, c2, c3, beq_l c4, bs, Int.reduceBEq, Int.reduceBNe] <;> first | exact bZ | rfl) .nil)))) ke))))))))) (fun c4 => (aa (not_t c4) (aa (show Ent 78 S2 S5 from ((ent_les (.cons rfl (.le (le_ee (by simp only [nt12, hi12, beq_l c0, c1, c2, c3, c4, bs, Int.reduceBEq, Int.reduceBNe])) .nil))).trans (ent_eqs (.cons rfl (.cons rfl .nil)) (.cons (by simp only [nt12, hi12, beq_l c0, c1, c2, c3, c4, bs, Int.reduceBEq, Int.reduceBNe] <;> first | exact bZ | rfl) .nil)))) ke))))))))))))))))))))) (fun c0 => (aa (not_t c0) (aa (show Ent 78 ⟨[(4, aP 4 0), (5, aE 66 (ckE A))], [(4, .sg 30 [.one (.v (.int .i64 0)), .one (.v (.bool false)), .one (.v (.string ByteArray.empty)), .one (.v (.bool false)), .row .u64 8 z8, .one (.v (.bool false)), .row .u64 8 z8])]⟩ S5 from ((ent_les (.cons rfl (.le (le_ee (by simp only [nt12, hi12, c0, bs])) .nil))).trans (ent_eqs (.cons rfl (.cons rfl .nil)) (.cons (by simp only [nt12, hi12, c0, bs] <;> first | exact bZ | rfl) .nil)))) ke)))))) (by kernel_rfl)
theorem ktextn_ok (A : KC) (hA : A.ok) (h1 : (A.k == (1 : Int)) = false) (h2 : (A.k == (2 : Int)) = false) (hn : numB A = true) : Fn PR 29 [.ag (kG A)] (.c (.sc (.v (.string (qtx (kp A) (kq A)))))) := by
  let S1 : St := ⟨[(2, .c (.sc (.v (.string (qtx (kp A) (kq A))))))], []⟩
  exact fwN (t := (.leaf [.b false, .b false, .b false, .b false, .b false, oP 24 (aB (numB A)), .b true, oP 27 (.c (.sc (.v (.string (qtx (iz A.n A.x) (iz A.m A.y)))))), .cut [2] [], .chk S1])) Tryz.func29 (fun ke => (aa (show (A.k == (1 : Int)) = false from h1) (aa (show (A.k == (1 : Int)) = false from h1) (aa (show (A.k == (1 : Int)) = false from h1) (aa ff (aa (show (A.k == (1 : Int)) = false from h1) (aa (show (A.k == (2 : Int)) = false from h2) (aa (cP Tryz.f29 7 1 (knumber_ok A)) (aa (show (numB A) = true from hn) (aa (cP Tryz.f29 8 2 (qtext_ok A.n A.x A.m A.y (by first | exact hA.x | exact hA.y | exact hB.x | exact hB.y | assumption | exact small_top (by decide) (by decide)) (by first | exact hA.x | exact hA.y | exact hB.x | exact hB.y | assumption | exact small_top (by decide) (by decide)))) (aa (show Ent 28 ⟨[(2, .c (.sc (.v (.string (qtx (iz A.n A.x) (iz A.m A.y))))))], []⟩ S1 from (ent_eqs (.cons (by rfl) .nil) .nil)) ke))))))))))) (by kernel_rfl)
theorem vB_can {p q : Int} (h : Rt p q) : vB (decide (p < 0)) p.natAbs (decide (q < 0)) q.natAbs = true := by
  have hq := h.pos
  refine vB_t.2 ⟨fun e => ?_, decide_eq_false (by omega), by omega, ?_⟩
  · have := of_decide_eq_true e; omega
  · exact h.cop
theorem kp_c (k p q : Int) : kp (cN k p q) = p := iz_can p
theorem kq_c (k p q : Int) : kq (cN k p q) = q := iz_can q
theorem ck_5 {p q : Int} (h : Rt p q) : ckE (cN 5 p q) = 0 := by
  unfold ckE cN; rw [beq_self_eq_true EM.toList, rkE_t (vB_can h)]; rfl
theorem wh_can {p q : Int} (h : Rt p q) : whB (decide (p < 0)) p.natAbs (decide (q < 0)) q.natAbs = (q == 1) := by
  unfold whB; rw [vB_can h, Bool.true_and, iz_can]
theorem ck_34 {k p : Int} (hk : k = 3 ∨ k = 4) (h : Rt p 1) : ckE (cN k p 1) = 0 := by
  unfold ckE cN; simp only
  rw [beq_self_eq_true EM.toList, rkE_t (vB_can h), wh_can h]
  rcases hk with rfl | rfl <;> rfl
theorem rt_one {p : Int} (h : p.natAbs < top) : Rt p 1 := ⟨by decide, by rw [Int.gcd, show (1 : Int).natAbs = 1 from rfl, Nat.gcd_one_right], h, small_top (by decide) (by decide)⟩
theorem cN_ok {k p q : Int} (hp : p.natAbs < top) (hq : q.natAbs < top) : (cN k p q).ok := ⟨hp, hq⟩
theorem num_c {k p q : Int} (h : 3 ≤ k ∧ k ≤ 5) : numB (cN k p q) = true := numB_t.2 h
theorem whK_eq (k z : Int) : whK k z 0 = cN k z 1 := rfl
theorem qK_eq (k p q : Int) : qK k p q 0 = cN k p q := rfl
theorem al_2 {A B : KC} (hA : ckE A = 0) (hB : ckE B = 0) : alE A B = 0 := by unfold alE; rw [hA, hB]; rfl
theorem s3 : (3 : Int).natAbs < top := small_top (by decide) (by decide)
theorem rt7 : Rt 7 1 := rt_one (small_top (by decide) (by decide))
theorem rt2 : Rt 2 1 := rt_one (small_top (by decide) (by decide))
theorem fl_q (p q r s : Int) : flN 43 p q r s = quN p q r s ∧ flD 43 p q r s = quD p q r s ∧ flE 43 p q r s = quE p q r s := by unfold flN flD flE; exact ⟨rfl, rfl, rfl⟩
theorem st256 : (256 : Int).natAbs < top := small_top (by decide) (by decide)
theorem st255 : (255 : Int).natAbs < top := small_top (by decide) (by decide)
theorem st250 : (250 : Int).natAbs < top := small_top (by decide) (by decide)
theorem insB_8 : insB 5 8 = true := by
  unfold insB; rw [show bdN 8 = 8 by decide, show bdS 8 = false by decide]; decide +kernel
theorem insB_4 : insB 300 4 = false := by
  unfold insB; rw [show bdN 4 = 8 by decide, show bdS 4 = true by decide]; decide +kernel
theorem rt5 : Rt 5 1 := rt_one (small_top (by decide) (by decide))
theorem rt300 : Rt 300 1 := rt_one (small_top (by decide) (by decide))
theorem hi_8 : hi12 8 = 255 := by
  unfold hi12
  rw [show bdN 8 = 8 by decide, show (1 : Int) * 2 ^ (8 : Int).toNat = 256 by decide, clip_of st256, show (256 : Int) - 1 = 255 by decide, clip_of st255]
def X3 : ByteArray := ⟨#[51]⟩
def X72 : ByteArray := ⟨#[55, 47, 50]⟩
def X250 : ByteArray := ⟨#[50, 53, 48]⟩
theorem wk_t1 : qtx (kp (cN 3 3 1)) (kq (cN 3 3 1)) = X3 := by
  rw [kp_c, kq_c, qtx_one, show (3 : Int) = ((3 : Nat) : Int) from rfl, txt_d (by decide)]; rfl
theorem wk_t2 : qtx (kp (cN 5 7 2)) (kq (cN 5 7 2)) = X72 := by
  rw [kp_c, kq_c]
  unfold qtx
  rw [if_neg (by decide), show (7 : Int) = ((7 : Nat) : Int) from rfl, show (2 : Int) = ((2 : Nat) : Int) from rfl, txt_d (by decide), txt_d (by decide)]; rfl
theorem wk_t3 : qtx (kp (cN 3 250 1)) (kq (cN 3 250 1)) = X250 := by
  rw [kp_c, kq_c, qtx_one]
  unfold txt
  rw [show (250 : Int).natAbs = 250 from rfl, dl, if_neg (by decide), dl, if_neg (by decide), dl, if_pos (by decide)]; rfl
theorem fl_w : flK 43 7 1 2 1 = cN 5 7 2 ∧ flE 43 7 1 2 1 = 0 := by
  have hC : prC 7 1 1 2 := ⟨small_top (by decide) (by decide), small_top (by decide) (by decide)⟩
  have hN : quN 7 1 2 1 = 7 := by unfold quN prN; rw [if_neg (by decide), if_pos hC]; decide +kernel
  have hD : quD 7 1 2 1 = 2 := by unfold quD prD; rw [if_neg (by decide), if_pos hC]; decide +kernel
  have hE : quE 7 1 2 1 = 0 := by unfold quE prE; rw [if_neg (by decide), if_pos hC]
  refine ⟨?_, by rw [(fl_q 7 1 2 1).2.2, hE]⟩
  unfold flK
  rw [(fl_q 7 1 2 1).1, (fl_q 7 1 2 1).2.1, (fl_q 7 1 2 1).2.2, hN, hD, hE, qK_eq]
theorem nt_w : whK 3 (clip (hi12 8 - 5)) (ov (hi12 8 - 5)) = cN 3 250 1 ∧ ov (hi12 8 - 5) = 0 := by
  rw [hi_8, show (255 : Int) - 5 = 250 by decide, clip_of st250, ov_of st250, whK_eq]; exact ⟨rfl, rfl⟩
theorem it_w : whK 3 ((7 : Int).tdiv 2) 0 = cN 3 3 1 := by rw [whK_eq]; rfl
theorem ck_w3 {p : Int} (h : Rt p 1) : (ckE (cN 3 p 1) == (0 : Int)) = true := by rw [ck_34 (.inl rfl) h]; rfl
theorem al_w1 : (alE (cN 3 7 1) (cN 3 2 1) == (0 : Int)) = true := by rw [al_2 (ck_34 (.inl rfl) rt7) (ck_34 (.inl rfl) rt2)]; rfl
theorem al_w2 : (alE (cN 5 7 1) (cN 3 2 1) == (0 : Int)) = true := by rw [al_2 (ck_5 rt7) (ck_34 (.inl rfl) rt2)]; rfl
theorem wh_w {p : Int} (h : Rt p 1) : whB (decide (p < 0)) p.natAbs (decide ((1 : Int) < 0)) (1 : Int).natAbs = true := by rw [wh_can h]; rfl
theorem kints_w  : Fn PR 38 [kI 43, .ag (iS (7 : Int)), .ag (iS (2 : Int))] (.tu [.ag (iS ((7 : Int).tdiv (2 : Int))), kE 66 0]) := by
  let S1 : St := ⟨[(6, aP 6 0), (7, aE 66 0)], [(6, .sg 26 (iS ((7 : Int).tdiv (2 : Int))))]⟩
  exact fwN (t := (.leaf [.b false, .b false, .b false, .b true, oP 41 (.tu [.ag (iS ((7 : Int).tdiv (2 : Int))), .ag (iS ((7 : Int).tmod (2 : Int))), .sc (.v .nilIface)]), .cut [6, 7] [6], .chk S1])) Tryz.func38 (fun ke => (aa ff (aa ff (aa ff (aa tt (aa (cP Tryz.f38 9 2 (div_ok (decide ((7 : Int) < 0)) (decide ((2 : Int) < 0)) ((7 : Int).natAbs) ((2 : Int).natAbs) (small_top (by decide) (by decide)) (small_top (by decide) (by decide)) (7 : Int) (2 : Int) (iz_can _) (iz_can _) (by decide))) (aa (show Ent 88 ⟨[(6, aP 6 0), (7, .c (.sc (.v .nilIface)))], [(6, .sg 26 (iS ((7 : Int).tdiv (2 : Int))))]⟩ S1 from ((ent_les (.cons rfl (.le (le_nil (by first | rfl | (simp only [*]; rfl) | omega)) .nil))).trans (ent_eqs (.cons rfl (.cons rfl .nil)) (.cons (by rfl) .nil)))) ke))))))) (by kernel_rfl)
theorem kratios_w  : Fn PR 37 [kI 43, .ag (qS (7 : Int) (1 : Int)), .ag (qS (2 : Int) (1 : Int))] (.tu [.ag (kG (flK (43 : Int) (7 : Int) (1 : Int) (2 : Int) (1 : Int))), kE 66 (flE (43 : Int) (7 : Int) (1 : Int) (2 : Int) (1 : Int))]) := by
  let S1 : St := ⟨[(6, aP 6 0), (7, aE 66 (flE (43 : Int) (7 : Int) (1 : Int) (2 : Int) (1 : Int)))], [(6, .sg 30 (kG (flK (43 : Int) (7 : Int) (1 : Int) (2 : Int) (1 : Int))))]⟩
  exact fwN (t := (.leaf [.b false, .b false, .b false, .b true, oP 41 (.tu [.ag (qS (quN (7 : Int) (1 : Int) (2 : Int) (1 : Int)) (quD (7 : Int) (1 : Int) (2 : Int) (1 : Int))), kE 66 (quE (7 : Int) (1 : Int) (2 : Int) (1 : Int))]), oP 46 (.tu [.ag (kG (tdK (5 : Int) (decide (quN (7 : Int) (1 : Int) (2 : Int) (1 : Int) < 0)) ((quN (7 : Int) (1 : Int) (2 : Int) (1 : Int)).natAbs) (decide (quD (7 : Int) (1 : Int) (2 : Int) (1 : Int) < 0)) ((quD (7 : Int) (1 : Int) (2 : Int) (1 : Int)).natAbs) (quE (7 : Int) (1 : Int) (2 : Int) (1 : Int)))), kE 66 (quE (7 : Int) (1 : Int) (2 : Int) (1 : Int))]), .cut [6, 7] [6], .chk S1])) Tryz.func37 (fun ke => (aa ff (aa ff (aa ff (aa tt (aa (cP Tryz.f37 11 2 (qquo_ok (7 : Int) (1 : Int) (2 : Int) (1 : Int) rt7 rt2)) (aa (cP Tryz.f37 13 2 (told_ok (5 : Int) (decide (quN (7 : Int) (1 : Int) (2 : Int) (1 : Int) < 0)) ((quN (7 : Int) (1 : Int) (2 : Int) (1 : Int)).natAbs) (decide (quD (7 : Int) (1 : Int) (2 : Int) (1 : Int) < 0)) ((quD (7 : Int) (1 : Int) (2 : Int) (1 : Int)).natAbs) (quE (7 : Int) (1 : Int) (2 : Int) (1 : Int)))) (aa (show Ent 49 ⟨[(6, aP 6 0), (7, aE 66 (quE (7 : Int) (1 : Int) (2 : Int) (1 : Int)))], [(6, .sg 30 (kG (tdK (5 : Int) (decide (quN (7 : Int) (1 : Int) (2 : Int) (1 : Int) < 0)) ((quN (7 : Int) (1 : Int) (2 : Int) (1 : Int)).natAbs) (decide (quD (7 : Int) (1 : Int) (2 : Int) (1 : Int) < 0)) ((quD (7 : Int) (1 : Int) (2 : Int) (1 : Int)).natAbs) (quE (7 : Int) (1 : Int) (2 : Int) (1 : Int)))))]⟩ S1 from ((ent_les (.cons rfl (.le (le_ee (fl_q 7 1 2 1).2.2.symm) .nil))).trans (ent_eqs (.cons rfl (.cons rfl .nil)) (.cons (by unfold flK qK; rw [(fl_q 7 1 2 1).1, (fl_q 7 1 2 1).2.1, (fl_q 7 1 2 1).2.2]) .nil)))) ke)))))))) (by kernel_rfl)
theorem kbin_w1  : Fn PR 9 [kI 43, .ag (kG (cN (3 : Int) (7 : Int) (1 : Int))), .ag (kG (cN (3 : Int) (2 : Int) (1 : Int)))] (.tu [.ag (kG (cN (3 : Int) (3 : Int) (1 : Int))), kE 66 0]) := by
  let S0 : St := ⟨[(15, aE 66 (alE (cN (3 : Int) (7 : Int) (1 : Int)) (cN (3 : Int) (2 : Int) (1 : Int)))), (14, .c (.sc (.sl 14 0 2 2))), (13, aG (kG (cN (3 : Int) (2 : Int) (1 : Int)))), (12, aG (kG (cN (3 : Int) (7 : Int) (1 : Int)))), (7, .c (.sc (.v .nilIface))), (6, aP 6 0), (5, aP 5 0), (4, aP 4 0), (0, aI 43), (1, aG (kG (cN (3 : Int) (7 : Int) (1 : Int)))), (2, aG (kG (cN (3 : Int) (2 : Int) (1 : Int))))], [(14, .sg 30 (kG (cN (3 : Int) (7 : Int) (1 : Int)) ++ kG (cN (3 : Int) (2 : Int) (1 : Int)))), (14, .sg 30 (kG (cN (3 : Int) (7 : Int) (1 : Int)) ++ kG (cN (3 : Int) (2 : Int) (1 : Int)))), (6, .sg 30 [.one (.v (.int .i64 0)), .one (.v (.bool false)), .one (.v (.string ByteArray.empty)), .one (.v (.bool false)), .row .u64 8 z8, .one (.v (.bool false)), .row .u64 8 z8]), (5, .sg 30 (kG (cN (3 : Int) (2 : Int) (1 : Int)))), (4, .sg 30 (kG (cN (3 : Int) (7 : Int) (1 : Int))))]⟩
  exact fwP (t := (.leaf [.lp .n S0, .b false, oP 22 (aB (numB (cN (3 : Int) (7 : Int) (1 : Int)))), .b true, .b true, oP 25 (aB (numB (cN (3 : Int) (2 : Int) (1 : Int)))), .b true, .b false, oP 50 (.tu [.ag (iS ((7 : Int).tdiv (2 : Int))), kE 66 0]), oP 56 (.tu [.ag (kG (cN (3 : Int) (3 : Int) (1 : Int))), kE 66 0]), .cut [6, 7] [6]])) Tryz.func9 (fun ke => (aa (show OpT PR 113 (opr Tryz.f9 1 3) ⟨[(14, .c (.sc (.sl 14 0 2 2))), (13, aG (kG (cN (3 : Int) (2 : Int) (1 : Int)))), (12, aG (kG (cN (3 : Int) (7 : Int) (1 : Int)))), (7, .c (.sc (.v .nilIface))), (6, aP 6 0), (5, aP 5 0), (4, aP 4 0), (0, aI 43), (1, aG (kG (cN (3 : Int) (7 : Int) (1 : Int)))), (2, aG (kG (cN (3 : Int) (2 : Int) (1 : Int))))], [(14, .sg 30 (kG (cN (3 : Int) (7 : Int) (1 : Int)) ++ kG (cN (3 : Int) (2 : Int) (1 : Int)))), (6, .sg 30 [.one (.v (.int .i64 0)), .one (.v (.bool false)), .one (.v (.string ByteArray.empty)), .one (.v (.bool false)), .row .u64 8 z8, .one (.v (.bool false)), .row .u64 8 z8]), (5, .sg 30 (kG (cN (3 : Int) (2 : Int) (1 : Int)))), (4, .sg 30 (kG (cN (3 : Int) (7 : Int) (1 : Int))))]⟩ S0 from (callM (m := (fun _ => 14)) (show FnM PR 35 [.sc (.sl 1000 0 2 2)] [(1000, .sg 30 (kG (cN (3 : Int) (7 : Int) (1 : Int)) ++ kG (cN (3 : Int) (2 : Int) (1 : Int))))] (aE 66 (alE (cN (3 : Int) (7 : Int) (1 : Int)) (cN (3 : Int) (2 : Int) (1 : Int)))) [(1000, .sg 30 (kG (cN (3 : Int) (7 : Int) (1 : Int)) ++ kG (cN (3 : Int) (2 : Int) (1 : Int))))] from (kall_ok (cN (3 : Int) (7 : Int) (1 : Int)) (cN (3 : Int) (2 : Int) (1 : Int)) (cN_ok (k := (3 : Int)) (p := (7 : Int)) (q := (1 : Int)) (small_top (by decide) (by decide)) (small_top (by decide) (by decide))) (cN_ok (k := (3 : Int)) (p := (2 : Int)) (q := (1 : Int)) (small_top (by decide) (by decide)) (small_top (by decide) (by decide))))) (by kernel_rfl) rfl (by kernel_rfl) ⟨(by kernel_rfl), trivial⟩ (by kernel_rfl) (by kernel_rfl) (by kernel_rfl))) (aa (not_f (show ((alE (cN (3 : Int) (7 : Int) (1 : Int)) (cN (3 : Int) (2 : Int) (1 : Int))) == (0 : Int)) = true from al_w1)) (aa (cP Tryz.f9 4 1 (knumber_ok (cN (3 : Int) (7 : Int) (1 : Int)))) (aa (show (numB (cN (3 : Int) (7 : Int) (1 : Int))) = true from (num_c (k := 3) (p := 7) (q := 1) (by decide))) (aa (show (numB (cN (3 : Int) (7 : Int) (1 : Int))) = true from (num_c (k := 3) (p := 7) (q := 1) (by decide))) (aa (cP Tryz.f9 4 4 (knumber_ok (cN (3 : Int) (2 : Int) (1 : Int)))) (aa (bif_t (y := false) (show (numB (cN (3 : Int) (7 : Int) (1 : Int))) = true from (num_c (k := 3) (p := 7) (q := 1) (by decide))) (show (numB (cN (3 : Int) (2 : Int) (1 : Int))) = true from (num_c (k := 3) (p := 2) (q := 1) (by decide)))) (aa ff (aa (cP Tryz.f9 8 7 kints_w) (aa (cP Tryz.f9 9 3 (show Fn PR 39 [kI 3, .ag (iS ((7 : Int).tdiv (2 : Int))), kE 66 0] (.tu [.ag (kG (cN (3 : Int) (3 : Int) (1 : Int))), kE 66 0]) from (by have hq := kwhole_ok 3 ((7 : Int).tdiv 2) 0; rw [it_w] at hq; exact hq))) ke))))))))))) (by kernel_rfl)
theorem kbin_w2  : Fn PR 9 [kI 43, .ag (kG (cN (5 : Int) (7 : Int) (1 : Int))), .ag (kG (cN (3 : Int) (2 : Int) (1 : Int)))] (.tu [.ag (kG (cN (5 : Int) (7 : Int) (2 : Int))), kE 66 0]) := by
  let S0 : St := ⟨[(15, aE 66 (alE (cN (5 : Int) (7 : Int) (1 : Int)) (cN (3 : Int) (2 : Int) (1 : Int)))), (14, .c (.sc (.sl 14 0 2 2))), (13, aG (kG (cN (3 : Int) (2 : Int) (1 : Int)))), (12, aG (kG (cN (5 : Int) (7 : Int) (1 : Int)))), (7, .c (.sc (.v .nilIface))), (6, aP 6 0), (5, aP 5 0), (4, aP 4 0), (0, aI 43), (1, aG (kG (cN (5 : Int) (7 : Int) (1 : Int)))), (2, aG (kG (cN (3 : Int) (2 : Int) (1 : Int))))], [(14, .sg 30 (kG (cN (5 : Int) (7 : Int) (1 : Int)) ++ kG (cN (3 : Int) (2 : Int) (1 : Int)))), (14, .sg 30 (kG (cN (5 : Int) (7 : Int) (1 : Int)) ++ kG (cN (3 : Int) (2 : Int) (1 : Int)))), (6, .sg 30 [.one (.v (.int .i64 0)), .one (.v (.bool false)), .one (.v (.string ByteArray.empty)), .one (.v (.bool false)), .row .u64 8 z8, .one (.v (.bool false)), .row .u64 8 z8]), (5, .sg 30 (kG (cN (3 : Int) (2 : Int) (1 : Int)))), (4, .sg 30 (kG (cN (5 : Int) (7 : Int) (1 : Int))))]⟩
  exact fwP (t := (.leaf [.lp .n S0, .b false, oP 22 (aB (numB (cN (5 : Int) (7 : Int) (1 : Int)))), .b true, .b true, oP 25 (aB (numB (cN (3 : Int) (2 : Int) (1 : Int)))), .b true, .b true, oP 39 (.tu [.ag (kG (cN (5 : Int) (7 : Int) (2 : Int))), kE 66 0]), .cut [6, 7] [6]])) Tryz.func9 (fun ke => (aa (show OpT PR 113 (opr Tryz.f9 1 3) ⟨[(14, .c (.sc (.sl 14 0 2 2))), (13, aG (kG (cN (3 : Int) (2 : Int) (1 : Int)))), (12, aG (kG (cN (5 : Int) (7 : Int) (1 : Int)))), (7, .c (.sc (.v .nilIface))), (6, aP 6 0), (5, aP 5 0), (4, aP 4 0), (0, aI 43), (1, aG (kG (cN (5 : Int) (7 : Int) (1 : Int)))), (2, aG (kG (cN (3 : Int) (2 : Int) (1 : Int))))], [(14, .sg 30 (kG (cN (5 : Int) (7 : Int) (1 : Int)) ++ kG (cN (3 : Int) (2 : Int) (1 : Int)))), (6, .sg 30 [.one (.v (.int .i64 0)), .one (.v (.bool false)), .one (.v (.string ByteArray.empty)), .one (.v (.bool false)), .row .u64 8 z8, .one (.v (.bool false)), .row .u64 8 z8]), (5, .sg 30 (kG (cN (3 : Int) (2 : Int) (1 : Int)))), (4, .sg 30 (kG (cN (5 : Int) (7 : Int) (1 : Int))))]⟩ S0 from (callM (m := (fun _ => 14)) (show FnM PR 35 [.sc (.sl 1000 0 2 2)] [(1000, .sg 30 (kG (cN (5 : Int) (7 : Int) (1 : Int)) ++ kG (cN (3 : Int) (2 : Int) (1 : Int))))] (aE 66 (alE (cN (5 : Int) (7 : Int) (1 : Int)) (cN (3 : Int) (2 : Int) (1 : Int)))) [(1000, .sg 30 (kG (cN (5 : Int) (7 : Int) (1 : Int)) ++ kG (cN (3 : Int) (2 : Int) (1 : Int))))] from (kall_ok (cN (5 : Int) (7 : Int) (1 : Int)) (cN (3 : Int) (2 : Int) (1 : Int)) (cN_ok (k := (5 : Int)) (p := (7 : Int)) (q := (1 : Int)) (small_top (by decide) (by decide)) (small_top (by decide) (by decide))) (cN_ok (k := (3 : Int)) (p := (2 : Int)) (q := (1 : Int)) (small_top (by decide) (by decide)) (small_top (by decide) (by decide))))) (by kernel_rfl) rfl (by kernel_rfl) ⟨(by kernel_rfl), trivial⟩ (by kernel_rfl) (by kernel_rfl) (by kernel_rfl))) (aa (not_f (show ((alE (cN (5 : Int) (7 : Int) (1 : Int)) (cN (3 : Int) (2 : Int) (1 : Int))) == (0 : Int)) = true from al_w2)) (aa (cP Tryz.f9 4 1 (knumber_ok (cN (5 : Int) (7 : Int) (1 : Int)))) (aa (show (numB (cN (5 : Int) (7 : Int) (1 : Int))) = true from (num_c (k := 5) (p := 7) (q := 1) (by decide))) (aa (show (numB (cN (5 : Int) (7 : Int) (1 : Int))) = true from (num_c (k := 5) (p := 7) (q := 1) (by decide))) (aa (cP Tryz.f9 4 4 (knumber_ok (cN (3 : Int) (2 : Int) (1 : Int)))) (aa (bif_t (y := false) (show (numB (cN (5 : Int) (7 : Int) (1 : Int))) = true from (num_c (k := 5) (p := 7) (q := 1) (by decide))) (show (numB (cN (3 : Int) (2 : Int) (1 : Int))) = true from (num_c (k := 3) (p := 2) (q := 1) (by decide)))) (aa tt (aa (cP Tryz.f9 7 5 (show Fn PR 37 [kI 43, .ag (qS (7 : Int) (1 : Int)), .ag (qS (2 : Int) (1 : Int))] (.tu [.ag (kG (cN (5 : Int) (7 : Int) (2 : Int))), kE 66 0]) from (by have hq := kratios_w; rw [fl_w.1, fl_w.2] at hq; exact hq))) ke)))))))))) (by kernel_rfl)
theorem kfits_w1  : Fn PR 15 [.ag (kG (cN (3 : Int) (5 : Int) (1 : Int))), kI 8] (aE 66 0) := by
  exact fwN (t := (.leaf [oP 9 (aE 66 (ckE (cN (3 : Int) (5 : Int) (1 : Int)))), .b false, .b false, .b false, .b false, .b false, .b false, .b false, .b false, .b false, oP 40 (aB (numB (cN (3 : Int) (5 : Int) (1 : Int)))), .b false, .b false, .b false, .b false, .b false, .b false, .b false, .b false, .b false, .b false, oP 67 (aB (whB (decide ((5 : Int) < 0)) ((5 : Int).natAbs) (decide ((1 : Int) < 0)) ((1 : Int).natAbs))), .b false, oP 75 (aB (insB (5 : Int) (8 : Int))), .b false, .cut [4] [], .chk (⟨[(4, aE 66 0)], []⟩)])) Tryz.func15 (fun ke => (aa (cP Tryz.f15 1 1 (kcheck_ok (cN (3 : Int) (5 : Int) (1 : Int)) (cN_ok (k := (3 : Int)) (p := (5 : Int)) (q := (1 : Int)) (small_top (by decide) (by decide)) (small_top (by decide) (by decide))))) (aa (not_f (show ((ckE (cN (3 : Int) (5 : Int) (1 : Int))) == (0 : Int)) = true from (ck_w3 rt5))) (aa ff (aa ff (aa ff (aa ff (aa ff (aa ff (aa ff (aa ff (aa ff (aa ff (aa (cP Tryz.f15 9 1 (knumber_ok (cN (3 : Int) (5 : Int) (1 : Int)))) (aa (not_f (show (numB (cN (3 : Int) (5 : Int) (1 : Int))) = true from (num_c (k := 3) (p := 5) (q := 1) (by decide)))) (aa (bif_f (x := true) (not_f (show (numB (cN (3 : Int) (5 : Int) (1 : Int))) = true from (num_c (k := 3) (p := 5) (q := 1) (by decide)))) (bif_f (x := true) ff ff)) (aa (bif_f (x := true) (bif_f (x := true) (not_f (show (numB (cN (3 : Int) (5 : Int) (1 : Int))) = true from (num_c (k := 3) (p := 5) (q := 1) (by decide)))) (bif_f (x := true) ff ff)) (bif_f (x := true) ff ff)) (aa (bif_f (x := true) (bif_f (x := true) (not_f (show (numB (cN (3 : Int) (5 : Int) (1 : Int))) = true from (num_c (k := 3) (p := 5) (q := 1) (by decide)))) (bif_f (x := true) ff ff)) (bif_f (x := true) ff ff)) (aa (bif_f (x := true) (bif_f (x := true) (bif_f (x := true) (not_f (show (numB (cN (3 : Int) (5 : Int) (1 : Int))) = true from (num_c (k := 3) (p := 5) (q := 1) (by decide)))) (bif_f (x := true) ff ff)) (bif_f (x := true) ff ff)) ff) (aa (bif_f (x := true) (bif_f (x := true) (bif_f (x := true) (not_f (show (numB (cN (3 : Int) (5 : Int) (1 : Int))) = true from (num_c (k := 3) (p := 5) (q := 1) (by decide)))) (bif_f (x := true) ff ff)) (bif_f (x := true) ff ff)) ff) (aa (bif_f (x := true) (bif_f (x := true) (bif_f (x := true) (bif_f (x := true) (not_f (show (numB (cN (3 : Int) (5 : Int) (1 : Int))) = true from (num_c (k := 3) (p := 5) (q := 1) (by decide)))) (bif_f (x := true) ff ff)) (bif_f (x := true) ff ff)) ff) ff) (aa ff (aa ff (aa (bif_f (x := true) ff ff) (aa (cP Tryz.f15 13 2 (whg (decide ((5 : Int) < 0)) ((5 : Int).natAbs) (decide ((1 : Int) < 0)) ((1 : Int).natAbs) (small_top (by decide) (by decide)) (small_top (by decide) (by decide)))) (aa (not_f (show (whB (decide ((5 : Int) < 0)) ((5 : Int).natAbs) (decide ((1 : Int) < 0)) ((1 : Int).natAbs)) = true from (wh_w rt5))) (aa (cP Tryz.f15 15 4 (kinside_ok (5 : Int) (8 : Int) (small_top (by decide) (by decide)))) (aa (not_f (show (insB (5 : Int) (8 : Int)) = true from insB_8)) (aa (show Ent 78 ⟨[(4, .c (.sc (.v .nilIface)))], []⟩ (⟨[(4, aE 66 0)], []⟩) from (ent_les (.le (le_nil rfl) .nil))) ke))))))))))))))))))))))))))))) (by kernel_rfl)
theorem kfits_w2  : Fn PR 15 [.ag (kG (cN (3 : Int) (300 : Int) (1 : Int))), kI 4] (aE 66 9) := by
  exact fwN (t := (.leaf [oP 9 (aE 66 (ckE (cN (3 : Int) (300 : Int) (1 : Int)))), .b false, .b false, .b false, .b false, .b false, .b false, .b false, .b false, .b false, oP 40 (aB (numB (cN (3 : Int) (300 : Int) (1 : Int)))), .b false, .b false, .b false, .b false, .b false, .b false, .b false, .b false, .b false, .b false, oP 67 (aB (whB (decide ((300 : Int) < 0)) ((300 : Int).natAbs) (decide ((1 : Int) < 0)) ((1 : Int).natAbs))), .b false, oP 75 (aB (insB (300 : Int) (4 : Int))), .b true, .cut [4] [], .chk (⟨[(4, aE 66 9)], []⟩)])) Tryz.func15 (fun ke => (aa (cP Tryz.f15 1 1 (kcheck_ok (cN (3 : Int) (300 : Int) (1 : Int)) (cN_ok (k := (3 : Int)) (p := (300 : Int)) (q := (1 : Int)) (small_top (by decide) (by decide)) (small_top (by decide) (by decide))))) (aa (not_f (show ((ckE (cN (3 : Int) (300 : Int) (1 : Int))) == (0 : Int)) = true from (ck_w3 rt300))) (aa ff (aa ff (aa ff (aa ff (aa ff (aa ff (aa ff (aa ff (aa ff (aa ff (aa (cP Tryz.f15 9 1 (knumber_ok (cN (3 : Int) (300 : Int) (1 : Int)))) (aa (not_f (show (numB (cN (3 : Int) (300 : Int) (1 : Int))) = true from (num_c (k := 3) (p := 300) (q := 1) (by decide)))) (aa (bif_f (x := true) (not_f (show (numB (cN (3 : Int) (300 : Int) (1 : Int))) = true from (num_c (k := 3) (p := 300) (q := 1) (by decide)))) (bif_f (x := true) ff ff)) (aa (bif_f (x := true) (bif_f (x := true) (not_f (show (numB (cN (3 : Int) (300 : Int) (1 : Int))) = true from (num_c (k := 3) (p := 300) (q := 1) (by decide)))) (bif_f (x := true) ff ff)) (bif_f (x := true) ff ff)) (aa (bif_f (x := true) (bif_f (x := true) (not_f (show (numB (cN (3 : Int) (300 : Int) (1 : Int))) = true from (num_c (k := 3) (p := 300) (q := 1) (by decide)))) (bif_f (x := true) ff ff)) (bif_f (x := true) ff ff)) (aa (bif_f (x := true) (bif_f (x := true) (bif_f (x := true) (not_f (show (numB (cN (3 : Int) (300 : Int) (1 : Int))) = true from (num_c (k := 3) (p := 300) (q := 1) (by decide)))) (bif_f (x := true) ff ff)) (bif_f (x := true) ff ff)) ff) (aa (bif_f (x := true) (bif_f (x := true) (bif_f (x := true) (not_f (show (numB (cN (3 : Int) (300 : Int) (1 : Int))) = true from (num_c (k := 3) (p := 300) (q := 1) (by decide)))) (bif_f (x := true) ff ff)) (bif_f (x := true) ff ff)) ff) (aa (bif_f (x := true) (bif_f (x := true) (bif_f (x := true) (bif_f (x := true) (not_f (show (numB (cN (3 : Int) (300 : Int) (1 : Int))) = true from (num_c (k := 3) (p := 300) (q := 1) (by decide)))) (bif_f (x := true) ff ff)) (bif_f (x := true) ff ff)) ff) ff) (aa ff (aa ff (aa (bif_f (x := true) ff ff) (aa (cP Tryz.f15 13 2 (whg (decide ((300 : Int) < 0)) ((300 : Int).natAbs) (decide ((1 : Int) < 0)) ((1 : Int).natAbs) (small_top (by decide) (by decide)) (small_top (by decide) (by decide)))) (aa (not_f (show (whB (decide ((300 : Int) < 0)) ((300 : Int).natAbs) (decide ((1 : Int) < 0)) ((1 : Int).natAbs)) = true from (wh_w rt300))) (aa (cP Tryz.f15 15 4 (kinside_ok (300 : Int) (4 : Int) (small_top (by decide) (by decide)))) (aa (not_t (show (insB (300 : Int) (4 : Int)) = false from insB_4)) (aa (show Ent 78 ⟨[(4, .c (.sc (.v (.iface 66 (.int .i64 9)))))], []⟩ (⟨[(4, aE 66 9)], []⟩) from (ent_les (.le (le_err rfl rfl) .nil))) ke))))))))))))))))))))))))))))) (by kernel_rfl)
theorem knot_w  : Fn PR 32 [.ag (kG (cN (3 : Int) (5 : Int) (1 : Int))), kI 8] (.tu [.ag (kG (whK (3 : Int) (clip (hi12 (8 : Int) - (5 : Int))) (ov (hi12 (8 : Int) - (5 : Int))))), kE 66 (ov (hi12 (8 : Int) - (5 : Int)))]) := by
  let S1 : St := ⟨[(4, aP 4 0), (5, aE 66 (ov (hi12 (8 : Int) - (5 : Int))))], [(4, .sg 30 (kG (whK (3 : Int) (clip (hi12 (8 : Int) - (5 : Int))) (ov (hi12 (8 : Int) - (5 : Int))))))]⟩
  exact fwN (t := (.leaf [oP 15 (aE 66 (ckE (cN (3 : Int) (5 : Int) (1 : Int)))), .b false, .b false, .b false, .b false, .b false, oP 32 (.tu [kI (bdN (8 : Int)), kB (bdS (8 : Int))]), .b false, .b false, oP 46 (aE 66 0), .b false, oP 52 (aG (iS (1 : Int))), oP 54 (.tu [.ag (iS (clip ((1 : Int) * 2 ^ (bdN (8 : Int)).toNat))), kE 66 (ov ((1 : Int) * 2 ^ (bdN (8 : Int)).toNat))]), oP 59 (aG (iS (1 : Int))), oP 60 (.tu [.ag (iS (clip ((clip ((1 : Int) * 2 ^ (bdN (8 : Int)).toNat)) - (1 : Int)))), kE 66 (ov ((clip ((1 : Int) * 2 ^ (bdN (8 : Int)).toNat)) - (1 : Int)))]), oP 68 (.tu [.ag (iS (clip ((clip ((clip ((1 : Int) * 2 ^ (bdN (8 : Int)).toNat)) - (1 : Int))) - (5 : Int)))), kE 66 (ov ((clip ((clip ((1 : Int) * 2 ^ (bdN (8 : Int)).toNat)) - (1 : Int))) - (5 : Int)))]), oP 75 (.tu [.ag (kG (whK (3 : Int) (clip ((clip ((clip ((1 : Int) * 2 ^ (bdN (8 : Int)).toNat)) - (1 : Int))) - (5 : Int))) (ov ((clip ((clip ((1 : Int) * 2 ^ (bdN (8 : Int)).toNat)) - (1 : Int))) - (5 : Int))))), kE 66 (ov ((clip ((clip ((1 : Int) * 2 ^ (bdN (8 : Int)).toNat)) - (1 : Int))) - (5 : Int)))]), .cut [4, 5] [4], .chk S1])) Tryz.func32 (fun ke => (aa (cP Tryz.f32 1 1 (kcheck_ok (cN (3 : Int) (5 : Int) (1 : Int)) (cN_ok (k := (3 : Int)) (p := (5 : Int)) (q := (1 : Int)) (small_top (by decide) (by decide)) (small_top (by decide) (by decide))))) (aa (not_f (show ((ckE (cN (3 : Int) (5 : Int) (1 : Int))) == (0 : Int)) = true from (ck_w3 rt5))) (aa ff (aa ff (aa ff (aa ff (aa ff (aa (cP Tryz.f32 6 1 (kbounds_ok (8 : Int))) (aa (show ((bdN (8 : Int)) == (0 : Int)) = false from (by decide)) (aa (bif_f (x := true) (show ((bdN (8 : Int)) == (0 : Int)) = false from (by decide)) (show (bdS (8 : Int)) = false from (by decide))) (aa (cP Tryz.f32 9 2 kfits_w1) (aa (not_f tt) (aa (cP Tryz.f32 12 0 (of_ok (1 : Int) (by first | omega | decide | exact w64_lo _) (by first | omega | decide | exact w64_hi _))) (aa (cP Tryz.f32 12 2 (show Fn PR 47 [.ag (iS (1 : Int)), kI (bdN (8 : Int))] (.tu [.ag (iS (clip ((1 : Int) * 2 ^ (bdN (8 : Int)).toNat))), kE 66 (ov ((1 : Int) * 2 ^ (bdN (8 : Int)).toNat))]) from (by have hq := shl_u (decide ((1 : Int) < 0)) (1 : Int).natAbs (small_top (by decide) (by decide)) (1 : Int) (iz_can _) (bdN 8).toNat; rw [Int.toNat_of_nonneg (bdN_b 8).1] at hq; exact hq))) (aa (cP Tryz.f32 13 1 (of_ok (1 : Int) (by first | omega | decide | exact w64_lo _) (by first | omega | decide | exact w64_hi _))) (aa (cP Tryz.f32 13 2 (sub_u (decide (clip ((1 : Int) * 2 ^ (bdN (8 : Int)).toNat) < 0)) (decide ((1 : Int) < 0)) ((clip ((1 : Int) * 2 ^ (bdN (8 : Int)).toNat)).natAbs) ((1 : Int).natAbs) (by first | exact clip_top _ | exact (small_top (by decide) (by decide))) (by first | exact clip_top _ | exact (small_top (by decide) (by decide))) (clip ((1 : Int) * 2 ^ (bdN (8 : Int)).toNat)) (1 : Int) (iz_can _) (iz_can _))) (aa (cP Tryz.f32 14 4 (sub_u (decide (clip ((clip ((1 : Int) * 2 ^ (bdN (8 : Int)).toNat)) - (1 : Int)) < 0)) (decide ((5 : Int) < 0)) ((clip ((clip ((1 : Int) * 2 ^ (bdN (8 : Int)).toNat)) - (1 : Int))).natAbs) ((5 : Int).natAbs) (by first | exact clip_top _ | exact (small_top (by decide) (by decide))) (by first | exact clip_top _ | exact (small_top (by decide) (by decide))) (clip ((clip ((1 : Int) * 2 ^ (bdN (8 : Int)).toNat)) - (1 : Int))) (5 : Int) (iz_can _) (iz_can _))) (aa (cP Tryz.f32 15 4 (kwhole_ok (3 : Int) (clip ((clip ((clip ((1 : Int) * 2 ^ (bdN (8 : Int)).toNat)) - (1 : Int))) - (5 : Int))) (ov ((clip ((clip ((1 : Int) * 2 ^ (bdN (8 : Int)).toNat)) - (1 : Int))) - (5 : Int))))) (aa (show Ent 78 ⟨[(4, aP 4 0), (5, aE 66 (ov ((clip ((clip ((1 : Int) * 2 ^ (bdN (8 : Int)).toNat)) - (1 : Int))) - (5 : Int))))], [(4, .sg 30 (kG (whK (3 : Int) (clip ((clip ((clip ((1 : Int) * 2 ^ (bdN (8 : Int)).toNat)) - (1 : Int))) - (5 : Int))) (ov ((clip ((clip ((1 : Int) * 2 ^ (bdN (8 : Int)).toNat)) - (1 : Int))) - (5 : Int))))))]⟩ S1 from ((ent_les (.cons rfl (.le (le_ee rfl) .nil))).trans (ent_eqs (.cons rfl (.cons rfl .nil)) (.cons (by unfold hi12; try rfl) .nil)))) ke)))))))))))))))))))) (by kernel_rfl)
theorem works12_ok  : Fn PR 14 [] (aB true) := by
  exact fwN (t := (.leaf [oP 9 (aG (kG (cN (3 : Int) (7 : Int) (1 : Int)))), oP 10 (aG (kG (cN (3 : Int) (2 : Int) (1 : Int)))), oP 11 (.tu [.ag (kG (cN (3 : Int) (3 : Int) (1 : Int))), kE 66 0]), oP 14 (aG (qS (7 : Int) (1 : Int))), oP 18 (aG (kG (cN (3 : Int) (2 : Int) (1 : Int)))), oP 19 (.tu [.ag (kG (cN (5 : Int) (7 : Int) (2 : Int))), kE 66 0]), oP 23 (aG (kG (cN (3 : Int) (5 : Int) (1 : Int)))), oP 24 (.tu [.ag (kG (cN (3 : Int) (250 : Int) (1 : Int))), kE 66 0]), .b true, .b true, oP 31 (.c (.sc (.v (.string (⟨#[51]⟩ : ByteArray))))), .b true, .b true, .b true, .b true, .b true, oP 40 (.c (.sc (.v (.string (⟨#[55, 47, 50]⟩ : ByteArray))))), .b true, .b true, .b true, .b true, .b true, oP 49 (.c (.sc (.v (.string (⟨#[50, 53, 48]⟩ : ByteArray))))), .b true, .b true, oP 53 (aG (kG (cN (3 : Int) (300 : Int) (1 : Int)))), .b true, oP 54 (aE 66 9), .b true, oP 55 (aI 9), .b true, .cut [0] [], .chk (⟨[(0, aB true)], []⟩)])) Tryz.func14 (fun ke => (aa (cP Tryz.f14 1 0 (kof_ok (7 : Int) (by decide) (by decide))) (aa (cP Tryz.f14 1 1 (kof_ok (2 : Int) (by decide) (by decide))) (aa (cP Tryz.f14 1 2 kbin_w1) (aa (cP Tryz.f14 2 0 (qof_ok (7 : Int) (by first | omega | decide) (by first | omega | decide))) (aa (cP Tryz.f14 3 1 (kof_ok (2 : Int) (by decide) (by decide))) (aa (cP Tryz.f14 3 2 kbin_w2) (aa (cP Tryz.f14 4 0 (kof_ok (5 : Int) (by decide) (by decide))) (aa (cP Tryz.f14 4 1 (show Fn PR 32 [.ag (kG (cN (3 : Int) (5 : Int) (1 : Int))), kI 8] (.tu [.ag (kG (cN (3 : Int) (250 : Int) (1 : Int))), kE 66 0]) from (by have hq := knot_w; rw [nt_w.1, nt_w.2] at hq; exact hq))) (aa tt (aa tt (aa (cP Tryz.f14 5 4 (show Fn PR 29 [.ag (kG (cN (3 : Int) (3 : Int) (1 : Int)))] (.c (.sc (.v (.string (⟨#[51]⟩ : ByteArray))))) from (by have hq := ktextn_ok (cN (3 : Int) (3 : Int) (1 : Int)) (cN_ok (small_top (by decide) (by decide)) (small_top (by decide) (by decide))) (by decide) (by decide) (num_c (by decide)); rw [wk_t1] at hq; exact hq))) (aa tt (aa (bif_t (y := false) tt (beq_self_eq_true ((⟨#[51]⟩ : ByteArray).toList))) (aa (bif_t (y := false) tt (beq_self_eq_true ((⟨#[51]⟩ : ByteArray).toList))) (aa (bif_t (y := false) (bif_t (y := false) tt (beq_self_eq_true ((⟨#[51]⟩ : ByteArray).toList))) tt) (aa (bif_t (y := false) (bif_t (y := false) tt (beq_self_eq_true ((⟨#[51]⟩ : ByteArray).toList))) tt) (aa (cP Tryz.f14 5 13 (show Fn PR 29 [.ag (kG (cN (5 : Int) (7 : Int) (2 : Int)))] (.c (.sc (.v (.string (⟨#[55, 47, 50]⟩ : ByteArray))))) from (by have hq := ktextn_ok (cN (5 : Int) (7 : Int) (2 : Int)) (cN_ok (small_top (by decide) (by decide)) (small_top (by decide) (by decide))) (by decide) (by decide) (num_c (by decide)); rw [wk_t2] at hq; exact hq))) (aa (bif_t (y := false) (bif_t (y := false) tt (beq_self_eq_true ((⟨#[51]⟩ : ByteArray).toList))) tt) (aa (bif_t (y := false) (bif_t (y := false) (bif_t (y := false) tt (beq_self_eq_true ((⟨#[51]⟩ : ByteArray).toList))) tt) (beq_self_eq_true ((⟨#[55, 47, 50]⟩ : ByteArray).toList))) (aa (bif_t (y := false) (bif_t (y := false) (bif_t (y := false) tt (beq_self_eq_true ((⟨#[51]⟩ : ByteArray).toList))) tt) (beq_self_eq_true ((⟨#[55, 47, 50]⟩ : ByteArray).toList))) (aa (bif_t (y := false) (bif_t (y := false) (bif_t (y := false) (bif_t (y := false) tt (beq_self_eq_true ((⟨#[51]⟩ : ByteArray).toList))) tt) (beq_self_eq_true ((⟨#[55, 47, 50]⟩ : ByteArray).toList))) tt) (aa (bif_t (y := false) (bif_t (y := false) (bif_t (y := false) (bif_t (y := false) tt (beq_self_eq_true ((⟨#[51]⟩ : ByteArray).toList))) tt) (beq_self_eq_true ((⟨#[55, 47, 50]⟩ : ByteArray).toList))) tt) (aa (cP Tryz.f14 5 22 (show Fn PR 29 [.ag (kG (cN (3 : Int) (250 : Int) (1 : Int)))] (.c (.sc (.v (.string (⟨#[50, 53, 48]⟩ : ByteArray))))) from (by have hq := ktextn_ok (cN (3 : Int) (250 : Int) (1 : Int)) (cN_ok (small_top (by decide) (by decide)) (small_top (by decide) (by decide))) (by decide) (by decide) (num_c (by decide)); rw [wk_t3] at hq; exact hq))) (aa (bif_t (y := false) (bif_t (y := false) (bif_t (y := false) (bif_t (y := false) tt (beq_self_eq_true ((⟨#[51]⟩ : ByteArray).toList))) tt) (beq_self_eq_true ((⟨#[55, 47, 50]⟩ : ByteArray).toList))) tt) (aa (bif_t (y := false) (bif_t (y := false) (bif_t (y := false) (bif_t (y := false) (bif_t (y := false) tt (beq_self_eq_true ((⟨#[51]⟩ : ByteArray).toList))) tt) (beq_self_eq_true ((⟨#[55, 47, 50]⟩ : ByteArray).toList))) tt) (beq_self_eq_true ((⟨#[50, 53, 48]⟩ : ByteArray).toList))) (aa (cP Tryz.f14 5 26 (kof_ok (300 : Int) (by decide) (by decide))) (aa (bif_t (y := false) (bif_t (y := false) (bif_t (y := false) (bif_t (y := false) (bif_t (y := false) tt (beq_self_eq_true ((⟨#[51]⟩ : ByteArray).toList))) tt) (beq_self_eq_true ((⟨#[55, 47, 50]⟩ : ByteArray).toList))) tt) (beq_self_eq_true ((⟨#[50, 53, 48]⟩ : ByteArray).toList))) (aa (cP Tryz.f14 5 27 kfits_w2) (aa (bif_t (y := false) (bif_t (y := false) (bif_t (y := false) (bif_t (y := false) (bif_t (y := false) tt (beq_self_eq_true ((⟨#[51]⟩ : ByteArray).toList))) tt) (beq_self_eq_true ((⟨#[55, 47, 50]⟩ : ByteArray).toList))) tt) (beq_self_eq_true ((⟨#[50, 53, 48]⟩ : ByteArray).toList))) (aa (cP Tryz.f14 5 28 (code_ok 9 (by decide) (by decide))) (aa (bif_t (y := false) (bif_t (y := false) (bif_t (y := false) (bif_t (y := false) (bif_t (y := false) tt (beq_self_eq_true ((⟨#[51]⟩ : ByteArray).toList))) tt) (beq_self_eq_true ((⟨#[55, 47, 50]⟩ : ByteArray).toList))) tt) (beq_self_eq_true ((⟨#[50, 53, 48]⟩ : ByteArray).toList))) (aa (show Ent 58 ⟨[(0, aB (bif (bif (bif (bif (bif (bif true then ((⟨#[51]⟩ : ByteArray).toList == (⟨#[51]⟩ : ByteArray).toList) else false) then true else false) then ((⟨#[55, 47, 50]⟩ : ByteArray).toList == (⟨#[55, 47, 50]⟩ : ByteArray).toList) else false) then true else false) then ((⟨#[50, 53, 48]⟩ : ByteArray).toList == (⟨#[50, 53, 48]⟩ : ByteArray).toList) else false) then true else false))], []⟩ (⟨[(0, aB true)], []⟩) from (ent_eqs (.cons (congrArg bA (show (bif (bif (bif (bif (bif (bif true then ((⟨#[51]⟩ : ByteArray).toList == (⟨#[51]⟩ : ByteArray).toList) else false) then true else false) then ((⟨#[55, 47, 50]⟩ : ByteArray).toList == (⟨#[55, 47, 50]⟩ : ByteArray).toList) else false) then true else false) then ((⟨#[50, 53, 48]⟩ : ByteArray).toList == (⟨#[50, 53, 48]⟩ : ByteArray).toList) else false) then true else false) = true from (bif_t (y := false) (bif_t (y := false) (bif_t (y := false) (bif_t (y := false) (bif_t (y := false) (bif_t (y := false) tt (beq_self_eq_true ((⟨#[51]⟩ : ByteArray).toList))) tt) (beq_self_eq_true ((⟨#[55, 47, 50]⟩ : ByteArray).toList))) tt) (beq_self_eq_true ((⟨#[50, 53, 48]⟩ : ByteArray).toList))) tt))) .nil) .nil)) ke))))))))))))))))))))))))))))))))) (by kernel_rfl)
theorem pow_top {e b : Nat} (he : e = 65) (hb : b < e) : 2 ^ b < top := by
  have h1 : bl (2 ^ b) ≤ e := bl_le_of_lt (Nat.pow_lt_pow_right (by decide) hb)
  exact (bl_lt_top (e := 8) rfl).2 (by omega)
theorem hi_eq (i : Int) : hi12 i = ((2 ^ (bdN i).toNat - 1 : Nat) : Int) := by
  have hb := bdN_b i
  have hp := pow_top (e := 65) (b := (bdN i).toNat) rfl (by omega)
  have h1 : 0 < 2 ^ (bdN i).toNat := Nat.pow_pos (by decide)
  have e : (1 : Int) * 2 ^ (bdN i).toNat = ((2 ^ (bdN i).toNat : Nat) : Int) := by rw [Int.one_mul]; push_cast; rfl
  unfold hi12
  rw [e]
  generalize 2 ^ (bdN i).toNat = m at hp h1
  rw [clip_of (z := (m : Int)) (by omega), clip_of (z := (m : Int) - 1) (by omega)]; omega
theorem ins_u {p i : Int} (h0 : ((bdN i == (0 : Int)) || bdS i) = false) : insB p i = true ↔ 0 ≤ p ∧ p ≤ hi12 i := by
  have hb := bdN_b i
  rw [Bool.or_eq_false_iff] at h0
  unfold insB
  rw [h0.1, h0.2, cond_false, cond_false, hi_eq]
  have h1 : 0 < 2 ^ (bdN i).toNat := Nat.pow_pos (by decide)
  simp only [Bool.and_eq_true, Bool.not_eq_true', decide_eq_false_iff_not, decide_eq_true_eq]
  constructor
  · rintro ⟨h2, h3⟩
    have h4 : p.natAbs < 2 ^ (bdN i).toNat := lt_bl (by omega)
    generalize 2 ^ (bdN i).toNat = m at h1 h4
    omega
  · rintro ⟨h2, h3⟩
    refine ⟨by omega, ?_⟩
    have h4 : p.natAbs < 2 ^ (bdN i).toNat := by
      generalize 2 ^ (bdN i).toNat = m at h1 h3
      omega
    have := bl_le_of_lt h4
    omega
def seq (a b : ByteArray) : Bool := a.data.toList == b.data.toList
theorem numB_eq (A : KC) : numB A = ((A.k == (3 : Int)) || ((A.k == (4 : Int)) || (A.k == (5 : Int)))) := by
  rw [Bool.eq_iff_iff, numB_t]; simp; omega
def ckR (A : KC) : Int :=
  bif A.k == (1 : Int) then (bif (A.s.toList == EM.toList) && zr A then 0 else 8)
  else bif A.k == (2 : Int) then (bif (A.b == false) && zr A then 0 else 8)
  else bif numB A then (bif (A.b == false) && (A.s.toList == EM.toList) then (bif rkE A.n A.x A.m A.y == (0 : Int) then (bif (A.k == (5 : Int)) || whB A.n A.x A.m A.y then 0 else 8) else 8) else 8)
  else 8
theorem ck_R (A : KC) : ckE A = ckR A := by
  unfold ckE ckR
  cases h1 : A.k == (1 : Int) with
  | true => rfl
  | false =>
    cases h2 : A.k == (2 : Int) with
    | true => rfl
    | false =>
      simp only [cond_false]
      rw [numB_eq]
      have hw : vB A.n A.x A.m A.y = false → whB A.n A.x A.m A.y = false := fun h => by unfold whB; rw [h]; rfl
      cases hv : vB A.n A.x A.m A.y with
      | false =>
        rw [rkE_f hv, hw hv]
        cases A.k == (3 : Int) <;> cases A.k == (4 : Int) <;> cases A.k == (5 : Int) <;> cases A.b == false <;> cases A.s.toList == EM.toList <;> rfl
      | true =>
        rw [rkE_t hv]
        cases h3 : A.k == (3 : Int) <;> cases h4 : A.k == (4 : Int) <;> cases h5 : A.k == (5 : Int) <;> cases A.b == false <;> cases A.s.toList == EM.toList <;> cases whB A.n A.x A.m A.y <;> first
          | rfl
          | (have a := eq_of_beq h3; have b := eq_of_beq h5; omega)
          | (have a := eq_of_beq h4; have b := eq_of_beq h5; omega)
theorem rk_v {n m : Bool} {x y : Nat} (h : (rkE n x m y == (0 : Int)) = true) : vB n x m y = true := by
  cases hv : vB n x m y with
  | true => rfl
  | false => rw [rkE_f hv] at h; cases h
theorem wt_eq {p q : Int} : ((qtx p q).toList == (txt p).toList) = (q == (1 : Int)) := by
  by_cases hq : q = 1
  · subst hq; rw [qtx_one, beq_self_eq_true]; rfl
  · rw [show (q == (1 : Int)) = false by simpa using hq, beq_eq_false_iff_ne, ByteArray.toList_eq, ByteArray.toList_eq]
    intro e
    have e := congrArg List.length e
    unfold qtx at e
    rw [if_neg hq] at e
    simp only [ByteArray.data_append, Array.toList_append, List.length_append] at e
    have : SLASH.data.toList.length = 1 := rfl
    omega
theorem wh_v {n m : Bool} {x y : Nat} (h : vB n x m y = true) : whB n x m y = (iz m y == (1 : Int)) := by unfold whB; rw [h, Bool.true_and]
theorem ndi_top {z : Int} : nd z.natAbs ≤ 32 ↔ z.natAbs < top := by rw [← nd_le, ← top_pB rfl]
theorem wK_ok {k z : Int} (h : nd z.natAbs ≤ 32) : whK k (clip z) (ov z) = cN k z 1 := by rw [clip_of (ndi_top.1 h), ov_of (ndi_top.1 h)]; rfl
theorem wK_no {k z : Int} (h : ¬ nd z.natAbs ≤ 32) : whK k (clip z) (ov z) = kZ := by rw [ndi_top] at h; rw [ov_no h]; rfl
theorem wE_ok {z : Int} (h : nd z.natAbs ≤ 32) : ov z = 0 := ov_of (ndi_top.1 h)
theorem wE_no {z : Int} (h : ¬ nd z.natAbs ≤ 32) : ov z = 9 := ov_no (by rwa [ndi_top] at h)
theorem bnt_ {x a : Int} (h : (x == a) = false) : (x != a) = true := by show (!(x == a)) = true; rw [h]; rfl
theorem bnf_ {x a : Int} (h : (x == a) = true) : (x != a) = false := by show (!(x == a)) = false; rw [h]; rfl
theorem bs2 : (false == false) = true ∧ (true == false) = false ∧ (false == true) = false ∧ (true == true) = true := ⟨rfl, rfl, rfl, rfl⟩
theorem rknum_ok (A : KC) : Fn PR 25 [.ag (kG A)] (aB (numB A)) := by
  let S1 : St := ⟨[(2, aB (numB A))], []⟩
  exact fwN (t := (.sp [] (A.k == (3 : Int)) (.leaf [.b true, .b true, .b true, .b true, .b true, .b true, .cut [2] [], .chk S1]) (.sp [] (A.k == (4 : Int)) (.leaf [.b false, .b false, .b false, .b true, .b true, .b true, .cut [2] [], .chk S1]) (.leaf [.b false, .b false, .b false, .b false, .b false, .b false, .cut [2] [], .chk S1])))) Tryz.func25 (fun ke => (sb (A.k == (3 : Int)) (fun c0 => (aa c0 (aa c0 (aa c0 (aa c0 (aa tt (aa tt (aa tt (aa tt (aa (show Ent 16 ⟨[(2, aB true)], []⟩ S1 from (ent_eqs (.cons (by rw [numB_eq]; simp only [cond, beq_l c0, nl3 c0, bs, Int.reduceBEq, Int.reduceBNe]) .nil) .nil)) ke)))))))))) (fun c0 => (sb (A.k == (4 : Int)) (fun c1 => (aa c0 (aa c0 (aa c0 (aa (bif_f (x := true) c0 c1) (aa (bif_f (x := true) c0 c1) (aa (bif_f (x := true) c0 c1) (aa (bif_f (x := true) c0 c1) (aa (show Ent 16 ⟨[(2, aB true)], []⟩ S1 from (ent_eqs (.cons (by rw [numB_eq]; simp only [cond, c0, beq_l c1, nl4 c1, bs, Int.reduceBEq, Int.reduceBNe]) .nil) .nil)) ke))))))))) (fun c1 => (aa c0 (aa c0 (aa c0 (aa (bif_f (x := true) c0 c1) (aa (bif_f (x := true) c0 c1) (aa (bif_f (x := true) c0 c1) (aa (show Ent 16 ⟨[(2, aB (bif (bif (A.k == (3 : Int)) then true else (A.k == (4 : Int))) then true else (A.k == (5 : Int))))], []⟩ S1 from (ent_eqs (.cons (by rw [numB_eq]; simp only [cond, c0, c1, bs]) .nil) .nil)) ke)))))))))))) (by kernel_rfl)
theorem rktop_ok (A : KC) (hA : A.ok) : Fn PR 56 [.ag (kG A)] (aG (dS (kp A))) := by
  let S0 : St := ⟨[(2, aP 2 0)], [(2, .sg 86 (dS (kp A)))]⟩
  exact fwN (t := (.leaf [oP 6 (aG (dS (kp A))), .cut [2] [2], .chk S0])) Tryz.func56 (fun ke => (aa (cP Tryz.f56 1 3 (show Fn PR 107 [.ag (nS A.n A.x)] (aG (dS (kp A))) from (rfrom_ok A.n A.x (by first | exact hA.x | exact hA.y | exact hB.x | exact hB.y | assumption | exact small_top (by decide) (by decide)) _ rfl))) (aa (show Ent 7 S0 S0 from (ent_eqs (.cons rfl .nil) (.cons (by rfl) .nil))) ke))) (by kernel_rfl)
theorem rkwhole_ok (k z : Int) : Fn PR 58 [kI k, .ag (dS z)] (.tu [.ag (kG (whK k (clip z) (ov z))), kI (ov z)]) := by
  let S1 : St := ⟨[(4, aP 4 0), (5, aI (ov z))], [(4, .sg 30 (kG (whK k (clip z) (ov z))))]⟩
  exact fwN (t := (.spP [] (nd z.natAbs ≤ 32) (.leaf [oP 10 (.tu [.ag (iS z), kB true]), .b false, oP 18 (aG (qS (1 : Int) (1 : Int))), .cut [4, 5] [4], .chk S1]) (.leaf [oP 10 (.tu [.ag zI, kB false]), .b true, .cut [4, 5] [4], .chk S1]))) Tryz.func58 (fun ke => (sp (nd z.natAbs ≤ 32) (fun c0 => (aa (cP Tryz.f58 1 1 (rto_ok z c0)) (aa ff (aa (cP Tryz.f58 4 2 (rqof_ok (1 : Int) (by first | omega | decide))) (aa (show Ent 22 ⟨[(4, aP 4 0), (5, aI 0)], [(4, .sg 30 (kG (cN k z (1 : Int))))]⟩ S1 from (ent_eqs (.cons rfl (.cons (by first | (rw [wK_ok c0]; done) | (rw [wK_ok c0]; rfl) | (rw [wK_no c0]; exact bZ) | rw [wE_ok c0] | rw [wE_no c0]) .nil)) (.cons (by first | (rw [wK_ok c0]; done) | (rw [wK_ok c0]; rfl) | (rw [wK_no c0]; exact bZ) | rw [wE_ok c0] | rw [wE_no c0]) .nil))) ke))))) (fun c0 => (aa (cP Tryz.f58 1 1 (rto_no z c0)) (aa tt (aa (show Ent 22 ⟨[(4, aP 4 0), (5, aI 9)], [(4, .sg 30 [.one (.v (.int .i64 0)), .one (.v (.bool false)), .one (.v (.string ByteArray.empty)), .one (.v (.bool false)), .row .u64 8 z8, .one (.v (.bool false)), .row .u64 8 z8])]⟩ S1 from (ent_eqs (.cons rfl (.cons (by first | (rw [wK_ok c0]; done) | (rw [wK_ok c0]; rfl) | (rw [wK_no c0]; exact bZ) | rw [wE_ok c0] | rw [wE_no c0]) .nil)) (.cons (by first | (rw [wK_ok c0]; done) | (rw [wK_ok c0]; rfl) | (rw [wK_no c0]; exact bZ) | rw [wE_ok c0] | rw [wE_no c0]) .nil))) ke)))))) (by kernel_rfl)
theorem rkWhole_ok (p q : Int) (h : Rt p q) : Fn PR 54 [.ag (qS p q)] (aB (q == (1 : Int))) := by
  have T0 : p.natAbs < top := by first | assumption | exact top_pos | exact clip_top _ | exact h.pt | exact h.qt | exact gcd_top h.pt h.qt | exact small_top (by omega) (by omega)
  let S1 : St := ⟨[(2, aB (q == (1 : Int)))], []⟩
  exact fwN (t := (.leaf [oP 4 (.c (.sc (.v (.string (qtx p q))))), oP 7 (aG (dS p)), oP 8 (.c (.sc (.v (.string (txt p))))), .cut [2] [], .chk S1])) Tryz.func54 (fun ke => (aa (cP Tryz.f54 1 1 (show Fn PR 77 [.ag (qS p q)] (.c (.sc (.v (.string (qtx p q))))) from (by have hq := (by have hq := (rqtext_ok (decide (p < 0)) p.natAbs (decide (q < 0)) q.natAbs T0 (by first | assumption | exact top_pos | exact clip_top _ | exact h.pt | exact h.qt | exact gcd_top h.pt h.qt | exact small_top (by omega) (by omega))); rw [iz_can] at hq; exact hq); rw [iz_can] at hq; exact hq))) (aa (cP Tryz.f54 1 4 (show Fn PR 107 [.ag (iS p)] (aG (dS p)) from (rfrom_ok (decide (p < 0)) p.natAbs T0 _ (iz_can _)))) (aa (cP Tryz.f54 1 5 (rtext_ok p (by have := nd_of_top h.pt; have := nd_of_top h.qt; omega))) (aa (show Ent 10 ⟨[(2, aB ((qtx p q).toList == (txt p).toList))], []⟩ S1 from (ent_eqs (.cons (by rw [wt_eq]) .nil) .nil)) ke))))) (by kernel_rfl)
theorem rkWhole_g (n : Bool) (x : Nat) (m : Bool) (y : Nat) (hx : x < top) (hy : y < top) (h : vB n x m y = true) : Fn PR 54 [.ag (rS n x m y)] (.c (.sc (.v (.bool (whB n x m y))))) := by
  rw [wh_v h, vld_can (vB_t.1 h)]; exact rkWhole_ok _ _ (vld_rt hx hy (vB_t.1 h))
theorem rkCheck_g (n : Bool) (x : Nat) (m : Bool) (y : Nat) (hx : x < top) (hy : y < top) : Fn PR 72 [.ag (rS n x m y)] (.c (.sc (.v (.int .i64 (rkE n x m y))))) := by
  cases h : vB n x m y with
  | true => rw [rkE_t h, vld_can (vB_t.1 h)]; exact rck_ok _ _ (vld_rt hx hy (vB_t.1 h))
  | false => rw [rkE_f h]; exact rck_no n x m y hx hy (vB_f.1 h)
theorem rkcheck_ok (A : KC) (hA : A.ok) : Fn PR 26 [.ag (kG A)] (aI (ckE A)) := by
  let S0 : St := ⟨[(2, aI (ckE A))], []⟩
  exact fwN (t := (.sp [] (A.k == (1 : Int)) (.sp [] (A.s.toList == ByteArray.empty.toList) (.sp [.b true, .b true, .b true, .b true, .b true, .b true, .b true] (A.n == false) (.sp [] ((ofN A.x) == z8) (.sp [] (A.m == false) (.sp [] ((ofN A.y) == z8) (.leaf [.b true, .cut [2] [], .chk S0]) (.leaf [.b false, .b false, .b false, .b false, .b false, .b false, .b false, .b false, .b false, oP 32 (aB (numB A)), .b false, .b false, .b false, .b false, .b false, .b false, .b false, .b false, .b false, .b false, .b false, .b false, .b false, .b false, .b false, .b false, .cut [2] [], .chk S0])) (.leaf [.b false, .b false, .b false, .b false, .b false, .b false, .b false, .b false, .b false, oP 32 (aB (numB A)), .b false, .b false, .b false, .b false, .b false, .b false, .b false, .b false, .b false, .b false, .b false, .b false, .b false, .b false, .b false, .b false, .cut [2] [], .chk S0])) (.leaf [.b false, .b false, .b false, .b false, .b false, .b false, .b false, .b false, .b false, oP 32 (aB (numB A)), .b false, .b false, .b false, .b false, .b false, .b false, .b false, .b false, .b false, .b false, .b false, .b false, .b false, .b false, .b false, .b false, .cut [2] [], .chk S0])) (.leaf [.b false, .b false, .b false, .b false, .b false, .b false, .b false, .b false, .b false, oP 32 (aB (numB A)), .b false, .b false, .b false, .b false, .b false, .b false, .b false, .b false, .b false, .b false, .b false, .b false, .b false, .b false, .b false, .b false, .cut [2] [], .chk S0])) (.leaf [.b true, .b true, .b true, .b false, .b false, .b false, .b false, .b false, .b false, .b false, .b false, .b false, .b false, .b false, .b false, .b false, oP 32 (aB (numB A)), .b false, .b false, .b false, .b false, .b false, .b false, .b false, .b false, .b false, .b false, .b false, .b false, .b false, .b false, .b false, .b false, .cut [2] [], .chk S0])) (.sp [.b false, .b false, .b false, .b false, .b false, .b false, .b false, .b false] (A.k == (2 : Int)) (.sp [] (A.b) (.leaf [.b true, .b true, .b true, .b false, .b false, .b false, .b false, .b false, oP 32 (aB (numB A)), .b false, .b false, .b false, .b false, .b false, .b false, .b false, .b false, .b false, .b false, .b false, .b false, .b false, .b false, .b false, .b false, .cut [2] [], .chk S0]) (.sp [.b true, .b true, .b true, .b true, .b true, .b true, .b true] (A.n == false) (.sp [] ((ofN A.x) == z8) (.sp [] (A.m == false) (.sp [] ((ofN A.y) == z8) (.leaf [.b true, .cut [2] [], .chk S0]) (.leaf [.b false, oP 32 (aB (numB A)), .b false, .b false, .b false, .b false, .b false, .b false, .b false, .b false, .b false, .b false, .b false, .b false, .b false, .b false, .b false, .b false, .cut [2] [], .chk S0])) (.leaf [.b false, oP 32 (aB (numB A)), .b false, .b false, .b false, .b false, .b false, .b false, .b false, .b false, .b false, .b false, .b false, .b false, .b false, .b false, .b false, .b false, .cut [2] [], .chk S0])) (.leaf [.b false, oP 32 (aB (numB A)), .b false, .b false, .b false, .b false, .b false, .b false, .b false, .b false, .b false, .b false, .b false, .b false, .b false, .b false, .b false, .b false, .cut [2] [], .chk S0])) (.leaf [.b false, oP 32 (aB (numB A)), .b false, .b false, .b false, .b false, .b false, .b false, .b false, .b false, .b false, .b false, .b false, .b false, .b false, .b false, .b false, .b false, .cut [2] [], .chk S0]))) (.sp [.b false, .b false, .b false, .b false, .b false, .b false, .b false, .b false] (numB A) (.sp [] (A.b) (.leaf [oP 32 (aB (numB A)), .b true, .b true, .b true, .b false, .b false, .b false, .b false, .b false, .b false, .b false, .b false, .b false, .b false, .b false, .b false, .b false, .cut [2] [], .chk S0]) (.sp [] (A.s.toList == ByteArray.empty.toList) (.sp [] ((rkE A.n A.x A.m A.y) == (0 : Int)) (.sp [] (A.k == (5 : Int)) (.leaf [oP 32 (aB (numB A)), .b true, .b true, .b true, .b true, .b true, .b true, .b true, .b true, .b true, oP 46 (aI (rkE A.n A.x A.m A.y)), .b true, .b true, .b true, .b true, .b true, .b true, .b true, .b true, .b true, .b true, .cut [2] [], .chk S0]) (.sp [oP 32 (aB (numB A)), .b true, .b true, .b true, .b true, .b true, .b true, .b true, .b true, .b true, oP 46 (aI (rkE A.n A.x A.m A.y)), .b true, .b true, .b true, .b true, .b true, .b false, .b false, .b false, oP 56 (aB (whB A.n A.x A.m A.y)), .b true] (whB A.n A.x A.m A.y) (.leaf [.b true, .cut [2] [], .chk S0]) (.leaf [.b false, .cut [2] [], .chk S0]))) (.leaf [oP 32 (aB (numB A)), .b true, .b true, .b true, .b true, .b true, .b true, .b true, .b true, .b true, oP 46 (aI (rkE A.n A.x A.m A.y)), .b true, .b false, .b false, .b false, .b false, .b false, .b false, .cut [2] [], .chk S0])) (.leaf [oP 32 (aB (numB A)), .b true, .b true, .b true, .b true, .b true, .b true, .b false, .b false, .b false, .b false, .b false, .b false, .b false, .b false, .b false, .b false, .cut [2] [], .chk S0]))) (.leaf [oP 32 (aB (numB A)), .b false, .b false, .b false, .b false, .b false, .b false, .b false, .b false, .b false, .b false, .b false, .b false, .b false, .b false, .b false, .b false, .cut [2] [], .chk S0]))))) Tryz.func26 (fun ke => (sb (A.k == (1 : Int)) (fun c0 => (sb (A.s.toList == ByteArray.empty.toList) (fun c1 => (aa c0 (aa c0 (aa c0 (aa (bif_t (y := false) c0 c1) (aa (bif_t (y := false) c0 c1) (aa (bif_t (y := false) c0 c1) (aa (bif_t (y := false) c0 c1) (sb (A.n == false) (fun c2 => (sb ((ofN A.x) == z8) (fun c3 => (sb (A.m == false) (fun c4 => (sb ((ofN A.y) == z8) (fun c5 => (aa (bif_t (y := false) (bif_t (y := false) c0 c1) (and_t (and_t c2 (and_t c3 tt)) (and_t (and_t c4 (and_t c5 tt)) tt))) (aa (show Ent 59 ⟨[(2, aI 0)], []⟩ S0 from (ent_eqs (.cons (by rw [ck_R]; simp only [ckR, zr, beq_l c0, c1, c2, c3, c4, c5, nl1 c0, bs, bs2, Int.reduceBEq, Int.reduceBNe]) .nil) .nil)) ke))) (fun c5 => (aa (bif_t (y := false) (bif_t (y := false) c0 c1) (and_fr (a := (A.n == false) && (((ofN A.x) == z8) && true)) (and_fl (b := true) (and_fr (a := A.m == false) (and_fl (b := true) c5))))) (aa (eq_other (b := (2 : Int)) c0 rfl) (aa (eq_other (b := (2 : Int)) c0 rfl) (aa (eq_other (b := (2 : Int)) c0 rfl) (aa (eq_other (b := (2 : Int)) c0 rfl) (aa ff (aa ff (aa ff (aa ff (aa ff (aa ff (aa (cP Tryz.f26 5 1 (rknum_ok A)) (aa (numB_l (A := A) c0 rfl) (aa (numB_l (A := A) c0 rfl) (aa (numB_l (A := A) c0 rfl) (aa (numB_l (A := A) c0 rfl) (aa ff (aa ff (aa ff (aa ff (aa ff (aa ff (aa ff (aa ff (aa ff (aa ff (aa ff (aa ff (aa ff (aa ff (aa ff (aa ff (aa (show Ent 59 ⟨[(2, aI 8)], []⟩ S0 from (ent_eqs (.cons (by rw [ck_R]; simp only [ckR, zr, beq_l c0, c1, c2, c3, c4, c5, nl1 c0, bs, bs2, Int.reduceBEq, Int.reduceBNe]) .nil) .nil)) ke)))))))))))))))))))))))))))))))))))) (fun c4 => (aa (bif_t (y := false) (bif_t (y := false) c0 c1) (and_fr (a := (A.n == false) && (((ofN A.x) == z8) && true)) (and_fl (b := true) (and_fl (b := ((ofN A.y) == z8) && true) c4)))) (aa (eq_other (b := (2 : Int)) c0 rfl) (aa (eq_other (b := (2 : Int)) c0 rfl) (aa (eq_other (b := (2 : Int)) c0 rfl) (aa (eq_other (b := (2 : Int)) c0 rfl) (aa ff (aa ff (aa ff (aa ff (aa ff (aa ff (aa (cP Tryz.f26 5 1 (rknum_ok A)) (aa (numB_l (A := A) c0 rfl) (aa (numB_l (A := A) c0 rfl) (aa (numB_l (A := A) c0 rfl) (aa (numB_l (A := A) c0 rfl) (aa ff (aa ff (aa ff (aa ff (aa ff (aa ff (aa ff (aa ff (aa ff (aa ff (aa ff (aa ff (aa ff (aa ff (aa ff (aa ff (aa (show Ent 59 ⟨[(2, aI 8)], []⟩ S0 from (ent_eqs (.cons (by rw [ck_R]; simp only [ckR, zr, beq_l c0, c1, c2, c3, c4, nl1 c0, bs, bs2, Int.reduceBEq, Int.reduceBNe]) .nil) .nil)) ke)))))))))))))))))))))))))))))))))))) (fun c3 => (aa (bif_t (y := false) (bif_t (y := false) c0 c1) (and_fl (b := ((A.m == false) && (((ofN A.y) == z8) && true)) && true) (and_fr (a := A.n == false) (and_fl (b := true) c3)))) (aa (eq_other (b := (2 : Int)) c0 rfl) (aa (eq_other (b := (2 : Int)) c0 rfl) (aa (eq_other (b := (2 : Int)) c0 rfl) (aa (eq_other (b := (2 : Int)) c0 rfl) (aa ff (aa ff (aa ff (aa ff (aa ff (aa ff (aa (cP Tryz.f26 5 1 (rknum_ok A)) (aa (numB_l (A := A) c0 rfl) (aa (numB_l (A := A) c0 rfl) (aa (numB_l (A := A) c0 rfl) (aa (numB_l (A := A) c0 rfl) (aa ff (aa ff (aa ff (aa ff (aa ff (aa ff (aa ff (aa ff (aa ff (aa ff (aa ff (aa ff (aa ff (aa ff (aa ff (aa ff (aa (show Ent 59 ⟨[(2, aI 8)], []⟩ S0 from (ent_eqs (.cons (by rw [ck_R]; simp only [ckR, zr, beq_l c0, c1, c2, c3, nl1 c0, bs, bs2, Int.reduceBEq, Int.reduceBNe]) .nil) .nil)) ke)))))))))))))))))))))))))))))))))))) (fun c2 => (aa (bif_t (y := false) (bif_t (y := false) c0 c1) (and_fl (b := ((A.m == false) && (((ofN A.y) == z8) && true)) && true) (and_fl (b := ((ofN A.x) == z8) && true) c2))) (aa (eq_other (b := (2 : Int)) c0 rfl) (aa (eq_other (b := (2 : Int)) c0 rfl) (aa (eq_other (b := (2 : Int)) c0 rfl) (aa (eq_other (b := (2 : Int)) c0 rfl) (aa ff (aa ff (aa ff (aa ff (aa ff (aa ff (aa (cP Tryz.f26 5 1 (rknum_ok A)) (aa (numB_l (A := A) c0 rfl) (aa (numB_l (A := A) c0 rfl) (aa (numB_l (A := A) c0 rfl) (aa (numB_l (A := A) c0 rfl) (aa ff (aa ff (aa ff (aa ff (aa ff (aa ff (aa ff (aa ff (aa ff (aa ff (aa ff (aa ff (aa ff (aa ff (aa ff (aa ff (aa (show Ent 59 ⟨[(2, aI 8)], []⟩ S0 from (ent_eqs (.cons (by rw [ck_R]; simp only [ckR, zr, beq_l c0, c1, c2, nl1 c0, bs, bs2, Int.reduceBEq, Int.reduceBNe]) .nil) .nil)) ke))))))))))))))))))))))))))))))))))))))))))) (fun c1 => (aa c0 (aa c0 (aa c0 (aa (bif_t (y := false) c0 c1) (aa (bif_t (y := false) c0 c1) (aa (bif_t (y := false) c0 c1) (aa (bif_t (y := false) c0 c1) (aa (bif_t (y := false) c0 c1) (aa ff (aa (eq_other (b := (2 : Int)) c0 rfl) (aa (eq_other (b := (2 : Int)) c0 rfl) (aa (eq_other (b := (2 : Int)) c0 rfl) (aa (eq_other (b := (2 : Int)) c0 rfl) (aa ff (aa ff (aa ff (aa ff (aa ff (aa ff (aa (cP Tryz.f26 5 1 (rknum_ok A)) (aa (numB_l (A := A) c0 rfl) (aa (numB_l (A := A) c0 rfl) (aa (numB_l (A := A) c0 rfl) (aa (numB_l (A := A) c0 rfl) (aa ff (aa ff (aa ff (aa ff (aa ff (aa ff (aa ff (aa ff (aa ff (aa ff (aa ff (aa ff (aa ff (aa ff (aa ff (aa ff (aa (show Ent 59 ⟨[(2, aI 8)], []⟩ S0 from (ent_eqs (.cons (by rw [ck_R]; simp only [ckR, zr, beq_l c0, c1, nl1 c0, bs, bs2, Int.reduceBEq, Int.reduceBNe]) .nil) .nil)) ke)))))))))))))))))))))))))))))))))))))))))))) (fun c0 => (aa c0 (aa c0 (aa c0 (aa c0 (aa ff (aa ff (aa ff (aa ff (aa ff (aa ff (sb (A.k == (2 : Int)) (fun c1 => (sb (A.b) (fun c2 => (aa c1 (aa c1 (aa c1 (aa (bif_t (y := false) c1 (not_f c2)) (aa (bif_t (y := false) c1 (not_f c2)) (aa (bif_t (y := false) c1 (not_f c2)) (aa (bif_t (y := false) c1 (not_f c2)) (aa (bif_t (y := false) c1 (not_f c2)) (aa ff (aa (cP Tryz.f26 5 1 (rknum_ok A)) (aa (numB_l (A := A) c1 rfl) (aa (numB_l (A := A) c1 rfl) (aa (numB_l (A := A) c1 rfl) (aa (numB_l (A := A) c1 rfl) (aa ff (aa ff (aa ff (aa ff (aa ff (aa ff (aa ff (aa ff (aa ff (aa ff (aa ff (aa ff (aa ff (aa ff (aa ff (aa ff (aa (show Ent 59 ⟨[(2, aI 8)], []⟩ S0 from (ent_eqs (.cons (by rw [ck_R]; simp only [ckR, zr, c0, beq_l c1, c2, nl2 c1, bs, bs2, Int.reduceBEq, Int.reduceBNe]) .nil) .nil)) ke)))))))))))))))))))))))))))))))) (fun c2 => (aa c1 (aa c1 (aa c1 (aa (bif_t (y := false) c1 (not_t c2)) (aa (bif_t (y := false) c1 (not_t c2)) (aa (bif_t (y := false) c1 (not_t c2)) (aa (bif_t (y := false) c1 (not_t c2)) (sb (A.n == false) (fun c3 => (sb ((ofN A.x) == z8) (fun c4 => (sb (A.m == false) (fun c5 => (sb ((ofN A.y) == z8) (fun c6 => (aa (bif_t (y := false) (bif_t (y := false) c1 (not_t c2)) (and_t (and_t c3 (and_t c4 tt)) (and_t (and_t c5 (and_t c6 tt)) tt))) (aa (show Ent 59 ⟨[(2, aI 0)], []⟩ S0 from (ent_eqs (.cons (by rw [ck_R]; simp only [ckR, zr, c0, beq_l c1, c2, c3, c4, c5, c6, nl2 c1, bs, bs2, Int.reduceBEq, Int.reduceBNe]) .nil) .nil)) ke))) (fun c6 => (aa (bif_t (y := false) (bif_t (y := false) c1 (not_t c2)) (and_fr (a := (A.n == false) && (((ofN A.x) == z8) && true)) (and_fl (b := true) (and_fr (a := A.m == false) (and_fl (b := true) c6))))) (aa (cP Tryz.f26 5 1 (rknum_ok A)) (aa (numB_l (A := A) c1 rfl) (aa (numB_l (A := A) c1 rfl) (aa (numB_l (A := A) c1 rfl) (aa (numB_l (A := A) c1 rfl) (aa ff (aa ff (aa ff (aa ff (aa ff (aa ff (aa ff (aa ff (aa ff (aa ff (aa ff (aa ff (aa ff (aa ff (aa ff (aa ff (aa (show Ent 59 ⟨[(2, aI 8)], []⟩ S0 from (ent_eqs (.cons (by rw [ck_R]; simp only [ckR, zr, c0, beq_l c1, c2, c3, c4, c5, c6, nl2 c1, bs, bs2, Int.reduceBEq, Int.reduceBNe]) .nil) .nil)) ke)))))))))))))))))))))))))) (fun c5 => (aa (bif_t (y := false) (bif_t (y := false) c1 (not_t c2)) (and_fr (a := (A.n == false) && (((ofN A.x) == z8) && true)) (and_fl (b := true) (and_fl (b := ((ofN A.y) == z8) && true) c5)))) (aa (cP Tryz.f26 5 1 (rknum_ok A)) (aa (numB_l (A := A) c1 rfl) (aa (numB_l (A := A) c1 rfl) (aa (numB_l (A := A) c1 rfl) (aa (numB_l (A := A) c1 rfl) (aa ff (aa ff (aa ff (aa ff (aa ff (aa ff (aa ff (aa ff (aa ff (aa ff (aa ff (aa ff (aa ff (aa ff (aa ff (aa ff (aa (show Ent 59 ⟨[(2, aI 8)], []⟩ S0 from (ent_eqs (.cons (by rw [ck_R]; simp only [ckR, zr, c0, beq_l c1, c2, c3, c4, c5, nl2 c1, bs, bs2, Int.reduceBEq, Int.reduceBNe]) .nil) .nil)) ke)))))))))))))))))))))))))) (fun c4 => (aa (bif_t (y := false) (bif_t (y := false) c1 (not_t c2)) (and_fl (b := ((A.m == false) && (((ofN A.y) == z8) && true)) && true) (and_fr (a := A.n == false) (and_fl (b := true) c4)))) (aa (cP Tryz.f26 5 1 (rknum_ok A)) (aa (numB_l (A := A) c1 rfl) (aa (numB_l (A := A) c1 rfl) (aa (numB_l (A := A) c1 rfl) (aa (numB_l (A := A) c1 rfl) (aa ff (aa ff (aa ff (aa ff (aa ff (aa ff (aa ff (aa ff (aa ff (aa ff (aa ff (aa ff (aa ff (aa ff (aa ff (aa ff (aa (show Ent 59 ⟨[(2, aI 8)], []⟩ S0 from (ent_eqs (.cons (by rw [ck_R]; simp only [ckR, zr, c0, beq_l c1, c2, c3, c4, nl2 c1, bs, bs2, Int.reduceBEq, Int.reduceBNe]) .nil) .nil)) ke)))))))))))))))))))))))))) (fun c3 => (aa (bif_t (y := false) (bif_t (y := false) c1 (not_t c2)) (and_fl (b := ((A.m == false) && (((ofN A.y) == z8) && true)) && true) (and_fl (b := ((ofN A.x) == z8) && true) c3))) (aa (cP Tryz.f26 5 1 (rknum_ok A)) (aa (numB_l (A := A) c1 rfl) (aa (numB_l (A := A) c1 rfl) (aa (numB_l (A := A) c1 rfl) (aa (numB_l (A := A) c1 rfl) (aa ff (aa ff (aa ff (aa ff (aa ff (aa ff (aa ff (aa ff (aa ff (aa ff (aa ff (aa ff (aa ff (aa ff (aa ff (aa ff (aa (show Ent 59 ⟨[(2, aI 8)], []⟩ S0 from (ent_eqs (.cons (by rw [ck_R]; simp only [ckR, zr, c0, beq_l c1, c2, c3, nl2 c1, bs, bs2, Int.reduceBEq, Int.reduceBNe]) .nil) .nil)) ke))))))))))))))))))))))))))))))))))) (fun c1 => (aa c1 (aa c1 (aa c1 (aa c1 (aa ff (aa ff (aa ff (aa ff (aa ff (aa ff (sb (numB A) (fun c2 => (sb (A.b) (fun c3 => (aa (cP Tryz.f26 5 1 (rknum_ok A)) (aa c2 (aa c2 (aa c2 (aa (bif_t (y := false) c2 (not_f c3)) (aa (bif_t (y := false) c2 (not_f c3)) (aa (bif_t (y := false) c2 (not_f c3)) (aa (bif_t (y := false) c2 (not_f c3)) (aa ff (aa ff (aa ff (aa ff (aa ff (aa ff (aa ff (aa ff (aa ff (aa ff (aa ff (aa ff (aa (show Ent 59 ⟨[(2, aI 8)], []⟩ S0 from (ent_eqs (.cons (by rw [ck_R]; simp only [ckR, zr, c0, c1, c2, c3, no1 c2, no2 c2, bs, bs2]) .nil) .nil)) ke)))))))))))))))))))))) (fun c3 => (sb (A.s.toList == ByteArray.empty.toList) (fun c4 => (sb ((rkE A.n A.x A.m A.y) == (0 : Int)) (fun c5 => (sb (A.k == (5 : Int)) (fun c6 => (aa (cP Tryz.f26 5 1 (rknum_ok A)) (aa c2 (aa c2 (aa c2 (aa (bif_t (y := false) c2 (not_t c3)) (aa (bif_t (y := false) c2 (not_t c3)) (aa (bif_t (y := false) c2 (not_t c3)) (aa (bif_t (y := false) (bif_t (y := false) c2 (not_t c3)) c4) (aa (bif_t (y := false) (bif_t (y := false) c2 (not_t c3)) c4) (aa (bif_t (y := false) (bif_t (y := false) c2 (not_t c3)) c4) (aa (cP Tryz.f26 5 15 (rkCheck_g A.n A.x A.m A.y hA.x hA.y)) (aa (bif_t (y := false) (bif_t (y := false) c2 (not_t c3)) c4) (aa (bif_t (y := false) (bif_t (y := false) (bif_t (y := false) c2 (not_t c3)) c4) c5) (aa (bif_t (y := false) (bif_t (y := false) (bif_t (y := false) c2 (not_t c3)) c4) c5) (aa (bif_t (y := false) (bif_t (y := false) (bif_t (y := false) c2 (not_t c3)) c4) c5) (aa (bif_t (y := false) (bif_t (y := false) (bif_t (y := false) c2 (not_t c3)) c4) c5) (aa c6 (aa c6 (aa c6 (aa (bif_t (y := false) (bif_t (y := false) (bif_t (y := false) c2 (not_t c3)) c4) c5) (aa c6 (aa (bif_t (y := false) (bif_t (y := false) (bif_t (y := false) (bif_t (y := false) c2 (not_t c3)) c4) c5) tt) (aa (show Ent 59 ⟨[(2, aI 0)], []⟩ S0 from (ent_eqs (.cons (by rw [ck_R]; simp only [ckR, zr, c0, c1, c2, c3, c4, beq_l c5, beq_l c6, no1 c2, no2 c2, nl5 c6, bs, bs2, Int.reduceBEq, Int.reduceBNe]) .nil) .nil)) ke)))))))))))))))))))))))) (fun c6 => (aa (cP Tryz.f26 5 1 (rknum_ok A)) (aa c2 (aa c2 (aa c2 (aa (bif_t (y := false) c2 (not_t c3)) (aa (bif_t (y := false) c2 (not_t c3)) (aa (bif_t (y := false) c2 (not_t c3)) (aa (bif_t (y := false) (bif_t (y := false) c2 (not_t c3)) c4) (aa (bif_t (y := false) (bif_t (y := false) c2 (not_t c3)) c4) (aa (bif_t (y := false) (bif_t (y := false) c2 (not_t c3)) c4) (aa (cP Tryz.f26 5 15 (rkCheck_g A.n A.x A.m A.y hA.x hA.y)) (aa (bif_t (y := false) (bif_t (y := false) c2 (not_t c3)) c4) (aa (bif_t (y := false) (bif_t (y := false) (bif_t (y := false) c2 (not_t c3)) c4) c5) (aa (bif_t (y := false) (bif_t (y := false) (bif_t (y := false) c2 (not_t c3)) c4) c5) (aa (bif_t (y := false) (bif_t (y := false) (bif_t (y := false) c2 (not_t c3)) c4) c5) (aa (bif_t (y := false) (bif_t (y := false) (bif_t (y := false) c2 (not_t c3)) c4) c5) (aa c6 (aa c6 (aa c6 (aa (cP Tryz.f26 5 25 (rkWhole_g A.n A.x A.m A.y hA.x hA.y (rk_v c5))) (aa (bif_t (y := false) (bif_t (y := false) (bif_t (y := false) c2 (not_t c3)) c4) c5) (sb (whB A.n A.x A.m A.y) (fun c7 => (aa (bif_t (y := false) (bif_t (y := false) (bif_t (y := false) (bif_t (y := false) c2 (not_t c3)) c4) c5) (bif_f (x := true) c6 c7)) (aa (show Ent 59 ⟨[(2, aI 0)], []⟩ S0 from (ent_eqs (.cons (by rw [ck_R]; simp only [ckR, zr, c0, c1, c2, c3, c4, beq_l c5, c6, c7, no1 c2, no2 c2, bs, bs2, Int.reduceBEq, Int.reduceBNe]) .nil) .nil)) ke))) (fun c7 => (aa (bif_t (y := false) (bif_t (y := false) (bif_t (y := false) (bif_t (y := false) c2 (not_t c3)) c4) c5) (bif_f (x := true) c6 c7)) (aa (show Ent 59 ⟨[(2, aI 8)], []⟩ S0 from (ent_eqs (.cons (by rw [ck_R]; simp only [ckR, zr, c0, c1, c2, c3, c4, beq_l c5, c6, c7, no1 c2, no2 c2, bs, bs2, Int.reduceBEq, Int.reduceBNe]) .nil) .nil)) ke)))))))))))))))))))))))))))) (fun c5 => (aa (cP Tryz.f26 5 1 (rknum_ok A)) (aa c2 (aa c2 (aa c2 (aa (bif_t (y := false) c2 (not_t c3)) (aa (bif_t (y := false) c2 (not_t c3)) (aa (bif_t (y := false) c2 (not_t c3)) (aa (bif_t (y := false) (bif_t (y := false) c2 (not_t c3)) c4) (aa (bif_t (y := false) (bif_t (y := false) c2 (not_t c3)) c4) (aa (bif_t (y := false) (bif_t (y := false) c2 (not_t c3)) c4) (aa (cP Tryz.f26 5 15 (rkCheck_g A.n A.x A.m A.y hA.x hA.y)) (aa (bif_t (y := false) (bif_t (y := false) c2 (not_t c3)) c4) (aa (bif_t (y := false) (bif_t (y := false) (bif_t (y := false) c2 (not_t c3)) c4) c5) (aa (bif_t (y := false) (bif_t (y := false) (bif_t (y := false) c2 (not_t c3)) c4) c5) (aa (bif_t (y := false) (bif_t (y := false) (bif_t (y := false) c2 (not_t c3)) c4) c5) (aa (bif_t (y := false) (bif_t (y := false) (bif_t (y := false) c2 (not_t c3)) c4) c5) (aa (bif_t (y := false) (bif_t (y := false) (bif_t (y := false) c2 (not_t c3)) c4) c5) (aa (bif_t (y := false) (bif_t (y := false) (bif_t (y := false) c2 (not_t c3)) c4) c5) (aa ff (aa (show Ent 59 ⟨[(2, aI 8)], []⟩ S0 from (ent_eqs (.cons (by rw [ck_R]; simp only [ckR, zr, c0, c1, c2, c3, c4, c5, no1 c2, no2 c2, bs, bs2]) .nil) .nil)) ke))))))))))))))))))))))) (fun c4 => (aa (cP Tryz.f26 5 1 (rknum_ok A)) (aa c2 (aa c2 (aa c2 (aa (bif_t (y := false) c2 (not_t c3)) (aa (bif_t (y := false) c2 (not_t c3)) (aa (bif_t (y := false) c2 (not_t c3)) (aa (bif_t (y := false) (bif_t (y := false) c2 (not_t c3)) c4) (aa (bif_t (y := false) (bif_t (y := false) c2 (not_t c3)) c4) (aa (bif_t (y := false) (bif_t (y := false) c2 (not_t c3)) c4) (aa (bif_t (y := false) (bif_t (y := false) c2 (not_t c3)) c4) (aa (bif_t (y := false) (bif_t (y := false) c2 (not_t c3)) c4) (aa ff (aa ff (aa ff (aa ff (aa ff (aa ff (aa ff (aa (show Ent 59 ⟨[(2, aI 8)], []⟩ S0 from (ent_eqs (.cons (by rw [ck_R]; simp only [ckR, zr, c0, c1, c2, c3, c4, no1 c2, no2 c2, bs, bs2]) .nil) .nil)) ke))))))))))))))))))))))))) (fun c2 => (aa (cP Tryz.f26 5 1 (rknum_ok A)) (aa c2 (aa c2 (aa c2 (aa c2 (aa ff (aa ff (aa ff (aa ff (aa ff (aa ff (aa ff (aa ff (aa ff (aa ff (aa ff (aa ff (aa ff (aa ff (aa ff (aa ff (aa (show Ent 59 ⟨[(2, aI 8)], []⟩ S0 from (ent_eqs (.cons (by rw [ck_R]; simp only [ckR, zr, c0, c1, c2, no3 c2, no4 c2, no5 c2, bs, bs2]) .nil) .nil)) ke))))))))))))))))))))))))))))))))))))))))))))))))) (by kernel_rfl)
theorem bif_b {c : Bool} {x y : Int} (hx : 0 ≤ x ∧ x ≤ 25) (hy : 0 ≤ y ∧ y ≤ 25) : 0 ≤ (bif c then x else y) ∧ (bif c then x else y) ≤ 25 := by cases c <;> assumption
theorem bif_b2 {α : Type} {c : Bool} {x y : α × Int} (hx : 0 ≤ x.2 ∧ x.2 ≤ 25) (hy : 0 ≤ y.2 ∧ y.2 ≤ 25) : 0 ≤ (bif c then x else y).2 ∧ (bif c then x else y).2 ≤ 25 := by cases c <;> assumption
theorem pr_b {α : Type} {x : α} {z : Int} (h : 0 ≤ z ∧ z ≤ 25) : 0 ≤ (x, z).2 ∧ (x, z).2 ≤ 25 := h
theorem ov_b (z : Int) : 0 ≤ ov z ∧ ov z ≤ 25 := by unfold ov; cases fit z <;> simp
theorem rk_b (n : Bool) (x : Nat) (m : Bool) (y : Nat) : 0 ≤ rkE n x m y ∧ rkE n x m y ≤ 25 := by unfold rkE; cases vB n x m y <;> simp
theorem ck_b25 (A : KC) : 0 ≤ ckE A ∧ ckE A ≤ 25 := by
  unfold ckE
  have h0 : (0 : Int) ≤ 0 ∧ (0 : Int) ≤ 25 := by decide
  have h8 : (0 : Int) ≤ 8 ∧ (8 : Int) ≤ 25 := by decide
  have hr := rk_b A.n A.x A.m A.y
  exact bif_b (bif_b h0 h8) (bif_b (bif_b h0 h8) (bif_b (bif_b (bif_b hr h8) h8) (bif_b (bif_b hr h8) h8)))
theorem b11 : (0 : Int) ≤ 11 ∧ (11 : Int) ≤ 25 := by decide
theorem b00 : (0 : Int) ≤ 0 ∧ (0 : Int) ≤ 25 := by decide
theorem un_b25 (op : Int) (A : KC) : 0 ≤ (un op A).2 ∧ (un op A).2 ≤ 25 := by
  unfold un
  exact bif_b2 (bif_b2 (pr_b b00) (bif_b2 (pr_b b00) (bif_b2 (pr_b b00) (bif_b2 (pr_b (ov_b _)) (pr_b b11))))) (pr_b (ck_b25 A))
theorem fi_b25 (A : KC) (i : Int) : 0 ≤ fi A i ∧ fi A i ≤ 25 := by
  unfold fi
  exact bif_b (bif_b b00 (bif_b b11 (bif_b b00 (bif_b (bif_b b00 (by decide)) (by decide))))) (ck_b25 A)
theorem nt_b25 (A : KC) (i : Int) : 0 ≤ (nt12 A i).2 ∧ (nt12 A i).2 ≤ 25 := by
  unfold nt12
  exact bif_b2 (bif_b2 (pr_b b11) (bif_b2 (un_b25 47 A) (bif_b2 (pr_b (ov_b _)) (pr_b (fi_b25 A i))))) (pr_b (ck_b25 A))
theorem bnes : ∀ x a : Int, (x != a) = !(x == a) := fun _ _ => rfl
def k3 (A : KC) : Int := bif A.k == (5 : Int) then 3 else A.k
theorem sh_neg {B : KC} (h : (ckE B == (0 : Int)) = true) (hn : numB B = true) : decide (kp B < (0 : Int)) = B.n := by
  have hv := ck_vld h hn
  unfold kp iz
  cases hb : B.n with
  | true => have := hv.1 hb; simp; omega
  | false => simp
section
variable {P : Program} {n : Nat} {eff : Op → Option Nat → List AV → List (Nat × Blk) → Option (Dl × List Prop)}
def reach (ops : List Oper) : Nat → Nat → Nat → Bool
  | 0, _, _ => false
  | f + 1, i, j => match ops[i]? with
    | some o => o.after.toList.any fun e => Region.binds .any e && (Nat.beq e.on j || reach ops f e.on j)
    | none => false
def tailOk (m : Nat) (ops : List Oper) : Bool := (List.range ops.length).all fun i => Nat.blt i m || ((List.range i).all (fun j => reach ops ops.length i j) && match ops[i]? with
  | some o => o.after.toList.all fun e => !Region.binds .any e || Nat.blt e.on i
  | none => false)
def Closed (ops : Array Oper) (listed : Array Bool) : Prop := ∀ j o, ops[j]? = some o → listed.getD j true = true → ∀ e ∈ o.after, Region.binds .any e = true → listed.getD e.on false = true
theorem getD_ft {listed : Array Bool} {i : Nat} (h : listed.getD i false = true) : listed.getD i true = true := by
  rcases Nat.lt_or_ge i listed.size with h' | h'
  · simpa [h'] using h
  · simp [h'] at h
theorem reach_listed {ops : Array Oper} {listed : Array Bool} (hc : Closed ops listed) : ∀ (f i j : Nat), (∀ o, ops[i]? = some o → ∀ e ∈ o.after, Region.binds .any e = true → listed.getD e.on false = true) → reach ops.toList f i j = true → listed.getD j false = true
  | 0, _, _, _, h => by cases h
  | f + 1, i, j, hi, h => by
    unfold reach at h
    split at h
    · rename_i o ho
      have ho : ops[i]? = some o := by simpa using ho
      rw [List.any_eq_true] at h
      obtain ⟨e, he, h⟩ := h
      rw [Bool.and_eq_true, Bool.or_eq_true] at h
      have h1 := hi o ho e (by simpa using he) h.1
      rcases h.2 with h2 | h2
      · rw [← Nat.eq_of_beq_eq_true h2]; exact h1
      · exact reach_listed hc f e.on j (fun o' ho' => hc e.on o' ho' (getD_ft h1)) h2
    · cases h
theorem tail_spec {m : Nat} {ops : Array Oper} (h : tailOk m ops.toList = true) {i : Nat} (hm : m ≤ i) (hi : i < ops.size) :
    (∀ j, j < i → ∀ listed, Closed ops listed → (∀ o, ops[i]? = some o → ∀ e ∈ o.after, Region.binds .any e = true → listed.getD e.on false = true) → listed.getD j false = true) ∧
    (∀ o, ops[i]? = some o → ∀ e ∈ o.after, Region.binds .any e = true → e.on < i) := by
  unfold tailOk at h
  rw [List.all_eq_true] at h
  have h := h i (List.mem_range.2 (by simpa using hi))
  rw [Bool.or_eq_true, Bool.and_eq_true] at h
  have h := h.resolve_left (by simp; omega)
  constructor
  · intro j hj listed hc ha
    have h1 := List.all_eq_true.1 h.1 j (List.mem_range.2 hj)
    exact reach_listed hc _ i j ha h1
  · intro o ho e he hb
    have h2 := h.2
    have ho' : ops.toList[i]? = some o := by simpa using ho
    rw [ho'] at h2
    have := List.all_eq_true.1 h2 e (by simpa using he)
    rw [hb] at this
    simpa using this
theorem any_tail {ops : Array Oper} {xs : List Rec} {s0 : St} (hlen : xs.length ≤ ops.size) (htl : tailOk xs.length ops.toList = true)
    (hf : ∀ i o x, ops[i]? = some o → xs[i]? = some x → Fact P n ops o x ∧ (∀ t u, (t, u) ∈ x.ev → look ((xs.take i).foldl (fun s x => s.put x.d) s0).L t = some u) ∧ (∀ id B, (id, B) ∈ x.bl → look ((xs.take i).foldl (fun s x => s.put x.d) s0).H id = some B))
    (hord : ordOk s0 0 ops.toList xs = true) {C : Cx} {Q : Exit → Act → World → Prop}
    (hK : ∀ E a W fuel (listed : Array Bool), listed.size = ops.size → unl ops.size listed ≤ fuel → (∀ j, listed.getD j false = decide (j < xs.length)) → Sat C n E (xs.foldl (fun s x => s.put x.d) s0) a W → wpAny P .any ops Q fuel listed a W) :
    ∀ (fuel : Nat) (listed : Array Bool) (E : En) (a : Act) (W : World), listed.size = ops.size → unl ops.size listed ≤ fuel → Closed ops listed → (∀ j, xs.length ≤ j → listed.getD j false = false) →
      Sat C n E (sift (fun j => listed.getD j false) 0 xs s0) a W → wpAny P .any ops Q fuel listed a W := by
  have hready : ∀ (listed : Array Bool), listed.size = ops.size → Region.ready .any ops listed = [] → ∀ j, j < xs.length → listed.getD j false = true := by
    intro listed hsz hr j
    induction j using Nat.strongRecOn with
    | _ j ih =>
      intro hj
      cases hl : listed.getD j true with
      | true =>
        have hin : j < listed.size := by omega
        simpa [hin] using hl
      | false =>
        exfalso
        obtain ⟨o, ho⟩ : ∃ o, ops[j]? = some o := ⟨ops[j]'(by omega), Array.getElem?_eq_getElem (by omega)⟩
        obtain ⟨x, hx⟩ : ∃ x, xs[j]? = some x := ⟨xs[j]'(by omega), List.getElem?_eq_getElem (by omega)⟩
        have hm : j ∈ Region.ready .any ops listed := mem_ready.2 ⟨hl, o, ho, fun e he hb => by
          have hlt := (ordOk_spec hord j o x (by simpa using ho) hx).1 e (by simpa using he) hb
          exact ih e.on (by omega) (by omega)⟩
        rw [hr] at hm
        cases hm
  intro fuel
  induction fuel with
  | zero =>
    intro listed E a W hsz hu hcl htail hS
    refine hK E a W 0 listed hsz hu (fun j => ?_) ?_
    · have hr : Region.ready .any ops listed = [] := by
        cases hr : Region.ready .any ops listed with
        | nil => rfl
        | cons i l =>
          have hm : i ∈ Region.ready .any ops listed := by rw [hr]; exact List.mem_cons_self
          obtain ⟨h1, o, ho, _⟩ := mem_ready.1 hm
          have := unl_set (Array.getElem?_eq_some_iff.1 ho).1 h1
          omega
      rcases Nat.lt_or_ge j xs.length with hj | hj
      · rw [hready listed hsz hr j hj, decide_eq_true hj]
      · rw [htail j hj, decide_eq_false (by omega)]
    · have hr : Region.ready .any ops listed = [] := by
        cases hr : Region.ready .any ops listed with
        | nil => rfl
        | cons i l =>
          have hm : i ∈ Region.ready .any ops listed := by rw [hr]; exact List.mem_cons_self
          obtain ⟨h1, o, ho, _⟩ := mem_ready.1 hm
          have := unl_set (Array.getElem?_eq_some_iff.1 ho).1 h1
          omega
      rw [← sift_all (sel := fun j => listed.getD j false) xs 0 s0 (fun j hj => by simpa using hready listed hsz hr j hj)]
      exact hS
  | succ fuel ih =>
    intro listed E a W hsz hu hcl htail hS
    by_cases hall0 : ∀ j, j < xs.length → listed.getD j false = true
    · refine hK E a W (fuel + 1) listed hsz hu (fun j => ?_) ?_
      · rcases Nat.lt_or_ge j xs.length with hj | hj
        · rw [hall0 j hj, decide_eq_true hj]
        · rw [htail j hj, decide_eq_false (by omega)]
      · rw [← sift_all (sel := fun j => listed.getD j false) xs 0 s0 (fun j hj => by simpa using hall0 j hj)]
        exact hS
    refine ⟨fun hr => absurd (hready listed hsz hr) hall0, fun i hi => ?_⟩
    obtain ⟨hun, o, ho, hall⟩ := mem_ready.1 hi
    have hi' : i < ops.size := (Array.getElem?_eq_some_iff.1 ho).1
    have him : i < xs.length := by
      refine Decidable.byContradiction fun hn => hall0 (fun j hj => ?_)
      exact (tail_spec htl (i := i) (by omega) hi').1 j (by omega) listed hcl (fun o' ho' => by rw [ho] at ho'; cases ho'; exact hall)
    obtain ⟨x, hx⟩ : ∃ x, xs[i]? = some x := ⟨xs[i]'(by omega), List.getElem?_eq_getElem (by omega)⟩
    obtain ⟨hF, hev, hbl⟩ := hf i o x ho hx
    have hin : i < listed.size := by omega
    have hsel : listed.getD i false = false := by
      have : listed[i] = false := by simpa [hin] using hun
      simp [hin, this]
    obtain ⟨hlt, hfresh, hap⟩ := ordOk_spec hord i o x (by simpa using ho) hx
    simp only [Nat.zero_add] at hlt hap
    -- the others keep apart from this one
    have sep : ∀ j y, xs[j]? = some y → j ≠ i → (j < i → listed.getD j false = false) → (i < j → listed.getD j false = true) → Apart x y ∧ Apart y x := by
      intro j y hy hji h1 h2
      have hj : j < ops.size := by have := (List.getElem?_eq_some_iff.1 hy).1; omega
      obtain ⟨oj, hoj⟩ : ∃ o, ops[j]? = some o := ⟨ops[j], Array.getElem?_eq_getElem hj⟩
      rcases Nat.lt_or_gt_of_ne hji with hlt' | hgt
      · obtain ⟨_, _, hap'⟩ := ordOk_spec hord j oj y (by simpa using hoj) hy
        rcases (hap' i o x hlt' (by simpa using ho) hx).1 with hw | hw
        · exfalso
          simp only [waitsFor, List.any_eq_true, Bool.and_eq_true, Nat.zero_add] at hw
          obtain ⟨e, he, hb, heq⟩ := hw
          have := hall e (by simpa using he) hb
          rw [Nat.eq_of_beq_eq_true heq, h1 hlt'] at this
          cases this
        · exact (apart2_spec hw).symm
      · rcases (hap j oj y hgt (by simpa using hoj) hy).1 with hw | hw
        · exfalso
          simp only [waitsFor, List.any_eq_true, Bool.and_eq_true] at hw
          obtain ⟨e, he, hb, heq⟩ := hw
          have hjl : listed.getD j true = true := by
            have := h2 hgt
            have hjn : j < listed.size := by omega
            simpa [hjn] using this
          have := hcl j oj hoj hjl e (by simpa using he) hb
          rw [Nat.eq_of_beq_eq_true heq, hsel] at this
          cases this
        · exact apart2_spec hw
    have diff : ∀ j y, xs[j]? = some y → listed.getD j false ≠ decide (j < i) → Apart x y ∧ Apart y x := by
      intro j y hy hne
      refine sep j y hy (fun e => by subst e; rw [hsel] at hne; simp at hne) (fun h => by simpa [h] using hne) (fun h => by
        have : ¬ j < i := by omega
        simpa [this] using hne)
    have hev' : ∀ t u, (t, u) ∈ x.ev → look (sift (fun j => listed.getD j false) 0 xs s0).L t = some u := by
      intro t u hm
      rw [← hev t u hm, ← sift_take xs i 0 s0]
      refine sift_L xs 0 s0 s0 rfl (fun j y hy hne he => ?_)
      simp only [Nat.zero_add] at hne
      exact (diff j y hy hne).2.ev t he t u hm rfl
    have hbl' : ∀ id B, (id, B) ∈ x.bl → look (sift (fun j => listed.getD j false) 0 xs s0).H id = some B := by
      intro t u hm
      rw [← hbl t u hm, ← sift_take xs i 0 s0]
      refine sift_H xs 0 s0 s0 rfl (fun j y hy hne he => ?_)
      simp only [Nat.zero_add] at hne
      exact (diff j y hy hne).2.bl t he t u hm rfl
    have hfr' : x.d.fr = true → ∀ id B, x.d.upd = some (id, B) → (sift (fun j => listed.getD j false) 0 xs s0).fresh id = true := by
      intro hfx id B hu
      refine sift_fresh xs 0 s0 (freshOk_spec hfresh hfx id B hu) (fun j y hy hs => ?_)
      simp only [Nat.zero_add] at hs
      have hid : x.d.id = some id := by simp [Dl.id, hu]
      have hji : j ≠ i := fun e => by subst e; rw [hsel] at hs; cases hs
      -- whatever was carried out before this one does not wait for it
      have hj : j < ops.size := by have := (List.getElem?_eq_some_iff.1 hy).1; omega
      obtain ⟨oj, hoj⟩ : ∃ o, ops[j]? = some o := ⟨ops[j], Array.getElem?_eq_getElem hj⟩
      rcases Nat.lt_or_gt_of_ne hji with hlt' | hgt
      · obtain ⟨_, _, hap'⟩ := ordOk_spec hord j oj y (by simpa using hoj) hy
        exact (hap' i o x hlt' (by simpa using ho) hx).2 hfx id hid
      · exact (sep j y hy hji (fun h => by omega) (fun _ => hs)).1.fr hfx id hid
    have hF := hF.2 C E (sift (fun j => listed.getD j false) 0 xs s0) a W Q hS hev' hbl' hfr'
    -- the state behind it is that of one more
    have hget : ∀ j, (listed.setIfInBounds i true).getD j false = if j = i then true else listed.getD j false := by
      intro j
      by_cases hj : j = i
      · subst hj; simp [hin]
      · rw [getD_set_ne false (fun e => hj e.symm), if_neg hj]
    have later : ∀ j y, i < j → xs[j]? = some y → listed.getD j false = true → Apart x y := fun j y hij hy hs => (sep j y hy (by omega) (fun h => by omega) (fun _ => hs)).1
    have hL : ∀ t, look (sift (fun j => (listed.setIfInBounds i true).getD j false) 0 xs s0).L t = look ((sift (fun j => listed.getD j false) 0 xs s0).put x.d).L t := by
      intro t
      rw [put_L]
      split
      · rename_i ht
        refine sift_last xs 0 s0 i x hx (by simp only [Nat.zero_add, hget, if_true]) ht (fun j y hij hy hs he => ?_)
        simp only [Nat.zero_add, hget, if_neg (show ¬ j = i by omega)] at hs
        exact (later j y hij hy hs).dst t ht he
      · rename_i ht
        refine sift_L xs 0 s0 s0 rfl (fun j y hy hne => ?_)
        simp only [Nat.zero_add, hget] at hne
        by_cases hj : j = i
        · subst hj; rw [hx] at hy; cases hy; exact ht
        · rw [if_neg hj] at hne; exact absurd rfl hne
    have hH : ∀ t, look (sift (fun j => (listed.setIfInBounds i true).getD j false) 0 xs s0).H t = look ((sift (fun j => listed.getD j false) 0 xs s0).put x.d).H t := by
      intro t
      by_cases ht : x.d.id = some t
      · cases hu : x.d.upd with
        | none => simp [Dl.id, hu] at ht
        | some q =>
          obtain ⟨t', B⟩ := q
          simp only [Dl.id, hu, Option.map_some, Option.some.injEq] at ht
          subst ht
          rw [put_H, hu]
          simp only [if_true]
          refine sift_lastH xs 0 s0 i x hx (by simp only [Nat.zero_add, hget, if_true]) hu (fun j y hij hy hs he => ?_)
          simp only [Nat.zero_add, hget, if_neg (show ¬ j = i by omega)] at hs
          exact (later j y hij hy hs).id t' (by simp [Dl.id, hu]) he
      · rw [put_H_ne _ _ _ ht]
        refine sift_H xs 0 s0 s0 rfl (fun j y hy hne => ?_)
        simp only [Nat.zero_add, hget] at hne
        by_cases hj : j = i
        · subst hj; rw [hx] at hy; cases hy; exact ht
        · rw [if_neg hj] at hne; exact absurd rfl hne
    have goOn : ∀ E' a' W', Sat C n E' ((sift (fun j => listed.getD j false) 0 xs s0).put x.d) a' W' → wpAny P .any ops Q fuel (listed.setIfInBounds i true) a' W' := by
      intro E' a' W' hS'
      refine ih (listed.setIfInBounds i true) E' a' W' (by simp [hsz]) (by have := unl_set hi' hun; omega) ?_ ?_ (hS'.look_congr hL hH)
      · intro j oj hoj hl e he hb
        by_cases hj : i = j
        · subst hj
          rw [ho] at hoj; cases hoj
          exact getD_set_true (hall e he hb)
        · rw [getD_set_ne true hj] at hl
          exact getD_set_true (hcl j oj hoj hl e he hb)
      · intro j hj
        rw [getD_set_ne false (by omega)]; exact htail j hj
    unfold wpOp
    simp only [ho]
    split
    · rename_i hw
      rw [if_pos hw] at hF
      exact .inl (Oper.wp_mono (fun a' W' ⟨E', hS'⟩ => goOn E' a' W' hS') hF)
    · rename_i hw
      rw [if_neg hw] at hF
      obtain ⟨E', hS'⟩ := hF
      exact goOn E' _ W hS'
theorem tail_list {ops : Array Oper} {Q : Exit → Act → World → Prop} {m : Nat} (ht : tailOk m ops.toList = true) : ∀ (d k : Nat), k + d = ops.size → m ≤ k → ∀ (fuel : Nat) (listed : Array Bool) (a : Act) (W : World), listed.size = ops.size → d ≤ fuel →
    Closed ops listed → (∀ j, listed.getD j false = decide (j < k)) → wpList P ops Q (ops.toList.drop k) a W → wpAny P .any ops Q fuel listed a W := by
  intro d
  induction d with
  | zero =>
    intro k hk hm fuel listed a W hsz hd hc hl hw
    have hr : Region.ready .any ops listed = [] := by
      cases hr : Region.ready .any ops listed with
      | nil => rfl
      | cons i l =>
        have hmem : i ∈ Region.ready .any ops listed := by rw [hr]; exact List.mem_cons_self
        obtain ⟨h1, o, ho, _⟩ := mem_ready.1 hmem
        have hi := (Array.getElem?_eq_some_iff.1 ho).1
        have := hl i
        rw [decide_eq_true (show i < k by omega)] at this
        rw [getD_ft this] at h1; cases h1
    rw [List.drop_eq_nil_of_le (by simp; omega)] at hw
    cases fuel with
    | zero => exact ⟨hr, hw⟩
    | succ f => exact ⟨fun _ => hw, fun i hi => by rw [hr] at hi; cases hi⟩
  | succ d ih =>
    intro k hk hm fuel listed a W hsz hd hc hl hw
    obtain ⟨f, rfl⟩ : ∃ f, fuel = f + 1 := ⟨fuel - 1, by omega⟩
    have hk' : k < ops.size := by omega
    have hok : ops[k]? = some ops[k] := Array.getElem?_eq_getElem hk'
    have hkr : k ∈ Region.ready .any ops listed := mem_ready.2 ⟨by
      have h1 := hl k
      rw [decide_eq_false (by omega)] at h1
      have hin : k < listed.size := by omega
      simpa [hin] using h1, ops[k], hok, fun e he hb => by
      have := (tail_spec ht hm hk').2 _ hok e he hb
      rw [hl e.on, decide_eq_true this]⟩
    refine ⟨fun hr => (by rw [hr] at hkr; cases hkr), fun i hi => ?_⟩
    obtain ⟨hun, o, ho, hall⟩ := mem_ready.1 hi
    have hi' := (Array.getElem?_eq_some_iff.1 ho).1
    have hik : i = k := by
      rcases Nat.lt_trichotomy i k with h | h | h
      · have := hl i
        rw [decide_eq_true h] at this
        rw [getD_ft this] at hun; cases hun
      · exact h
      · have := (tail_spec ht (i := i) (by omega) hi').1 k h listed hc (fun o' ho' => by rw [ho] at ho'; cases ho'; exact hall)
        rw [hl k, decide_eq_false (by omega)] at this; cases this
    subst hik
    rw [List.drop_eq_getElem_cons (by simpa using hi')] at hw
    have goOn : ∀ a' W', wpList P ops Q (ops.toList.drop (i + 1)) a' W' → wpAny P .any ops Q f (listed.setIfInBounds i true) a' W' := by
      intro a' W' h
      refine ih (i + 1) (by omega) (by omega) f _ a' W' (by simp [hsz]) (by omega) ?_ ?_ h
      · intro j oj hoj hlj e he hb
        by_cases hj : i = j
        · subst hj
          rw [ho] at hoj; cases hoj
          exact getD_set_true (hall e he hb)
        · rw [getD_set_ne true hj] at hlj
          exact getD_set_true (hc j oj hoj hlj e he hb)
      · intro j
        by_cases hj : i = j
        · subst hj
          have hin : i < listed.size := by omega
          simp [hin]
        · rw [getD_set_ne false hj, hl j, decide_eq_decide]; omega
    unfold wpOp
    have ho2 : o = ops[i] := by rw [hok] at ho; cases ho; rfl
    subst ho2
    simp only [ho]
    unfold wpList at hw
    simp only [Array.getElem_toList] at hw
    split
    · rename_i hw1
      rw [if_pos hw1] at hw
      exact hw.imp (Oper.wp_mono goOn) id
    · rename_i hw1
      rw [if_neg hw1] at hw
      exact goOn _ _ hw
noncomputable def regC (P : Program) (n : Nat) (eff : Op → Option Nat → List AV → List (Nat × Blk) → Option (Dl × List Prop)) (m : Nat) (ops : Array Oper) (s s2 : St) (r : List Orc) : Option Prop :=
  match rops P n eff ops (ops.toList.take m) s r with
  | none => none
  | some (s1, r1, O1, xs) => match Nat.ble m ops.toList.length && (ordOk s 0 ops.toList xs && tailOk m ops.toList), rseq P n eff ops (ops.toList.drop m) s1 r1 with
    | true, some (s', [], O2) => some (andL O1 (andL O2 (s2 = s')))
    | _, _ => none
theorem regT (he : EffOk P eff) (hmix : P.follows .mixedOrders = true) {id m : Nat} {ops : Array Oper} {s s2 : St} {r : List Orc} {O : Prop} (hO : (s2 = s2) → O) (h : regC P n eff m ops s s2 r = some O) : RegT P n id ops s s2 := by
  unfold regC at h
  split at h
  · cases h
  · rename_i s1 r1 O1 xs h1
    split at h
    · rename_i s' O2 hb h2
      cases h
      simp only [Bool.and_eq_true] at hb
      obtain ⟨hb0, hb1, hb2⟩ := hb
      have hb0 := Nat.le_of_ble_eq_true hb0
      have h4 := andL_split (l := O1) (hO rfl)
      have h5 := andL_split (l := O2) h4.2
      have hO1 := h4.1
      have hO2 := h5.1
      have e := h5.2
      subst e
      obtain ⟨hl, hs1, hf⟩ := rops_facts he _ s r _ _ O1 xs h1 hO1
      have hl : xs.length = m := by rw [hl, List.length_take]; omega
      intro C E a W hS
      refine wp_region_any hmix ?_
      refine any_tail (xs := xs) (s0 := s) (by rw [hl]; simpa using hb0) (by rw [hl]; exact hb2) (fun i o x ho hx => hf i o x (by
        have hi : i < xs.length := (List.getElem?_eq_some_iff.1 hx).1
        rw [List.getElem?_take, if_pos (by omega)]; simpa using ho) hx) hb1 (C := C) ?_ ops.size _ E a _ Array.size_replicate ?_ ?_ ?_ ?_
      · intro E' a' W' fuel listed hsz hu hlist hS'
        rw [← hs1] at hS'
        refine tail_list (m := m) hb2 (ops.size - m) m (by simp at hb0; omega) (Nat.le_refl _) fuel listed a' W' hsz ?_ ?_ (by rw [← hl]; exact hlist) ?_
        · refine Nat.le_trans ?_ hu
          unfold unl
          have e : (List.range ops.size).filter (fun i => !listed.getD i true) = (List.range ops.size).filter (fun i => decide (m ≤ i)) := by
            refine List.filter_congr (fun i hi => ?_)
            have hi := List.mem_range.1 hi
            have h3 := hlist i
            have hin : i < listed.size := by omega
            rw [hl] at h3
            have h4 : listed.getD i true = decide (i < m) := by simpa [hin] using h3
            rw [h4, Bool.eq_iff_iff]; simp
          rw [e]
          have h5 : m ≤ ops.size := by simpa using hb0
          have h6 : List.range ops.size = List.range m ++ (List.range (ops.size - m)).map (m + ·) := by rw [← List.range_add]; congr 1; omega
          rw [h6, List.filter_append, List.length_append]
          have h7 : ((List.range (ops.size - m)).map (m + ·)).filter (fun i => decide (m ≤ i)) = (List.range (ops.size - m)).map (m + ·) := by
            refine List.filter_eq_self.2 (fun i hi => ?_)
            obtain ⟨j, _, rfl⟩ := List.mem_map.1 hi
            simp
          rw [h7]; simp
        · intro j o ho hlj e heo hbe
          have hj : j < ops.size := (Array.getElem?_eq_some_iff.1 ho).1
          have hin : j < listed.size := by omega
          have h3 := hlist j
          have h4 : listed.getD j true = decide (j < xs.length) := by simpa [hin] using h3
          rw [h4] at hlj
          have hjm := of_decide_eq_true hlj
          obtain ⟨x, hx⟩ : ∃ x, xs[j]? = some x := ⟨xs[j]'(by omega), List.getElem?_eq_getElem (by omega)⟩
          have := (ordOk_spec hb1 j o x (by simpa using ho) hx).1 e (by simpa using heo) hbe
          rw [hlist e.on, decide_eq_true (by omega)]
        · exact rseq_list he _ s1 r1 _ _ O2 h2 hO2 C E' a' W' _ hS' (fun E2 a2 W2 hS2 => ⟨.n, _, E2, rfl, ⟨rfl, rfl⟩, hS2⟩)
      · unfold unl
        exact Nat.le_trans (List.length_filter_le _ _) (by simp)
      · intro j o ho hl
        have hj : j < ops.size := (Array.getElem?_eq_some_iff.1 ho).1
        simp [hj] at hl
      · intro j hj
        by_cases h : j < ops.size <;> simp [h]
      · have : (fun j => (Array.replicate ops.size false).getD j false) = fun _ => false := by
          funext j
          by_cases hj : j < ops.size
          · simp [hj]
          · simp [hj]
        rw [this, sift_none]
        exact hS.drew
    · cases h
end
section
variable {P : Program} {tau : Tau}
def effBN (tau : Tau) (el : List (Nat × IntKind)) (t : TypeId) (len : Nat) (is : List Nat) (dst : Option Nat) (args : List AV) : Eff := match tau.und t, dst with
  | some (.slice e), some d => match look el e with
    | some k => match Nat.blt 1 len && Nat.ble len 1000 with
      | true => match fillA k len (List.replicate len 0) is args with
        | some ws => some (⟨dst, .c (.sc (.os d ws.length)), some (d, .gr e k ws), true⟩, [])
        | none => none
      | false => none
    | none => none
  | _, _ => none
theorem bn_ok (ht : TauOk P tau) {el : List (Nat × IntKind)} (hel : ∀ e k, look el e = some k → Elem P e k) {o : Oper} {t : TypeId} {len : Nat} {ps : Array (Nat × Operand)} (ho : o.op = .buildSlice t len ps) {args : List AV} {bl : List (Nat × Blk)} {d : Dl} {O : List Prop} (h : effBN tau el t len (ps.toList.map (·.1)) o.dst args = some (d, O)) :
    OpOk P o args bl { d with dst := o.dst } := by
  have parts : ∀ (ev : Operand → Value), (ps.map fun (i, x) => (i, ev x)).toList = (ps.toList.map (·.1)).zip ((ps.toList.map (·.2)).map ev) := by
    intro ev; rw [zip_map]; simp
  have opnds : ∀ (ev : Operand → Value), o.op.operands.toList.map ev = (ps.toList.map (·.2)).map ev := by
    intro ev; rw [ho]; simp [Op.operands]
  unfold effBN at h
  split at h
  · rename_i e dd hu hdst
    split at h
    · rename_i k hk
      split at h
      · rename_i hb
        simp only [Bool.and_eq_true] at hb
        have hb1 : 1 < len := by simpa [Nat.blt_eq] using hb.1
        have hb2 : len ≤ 1000 := Nat.le_of_ble_eq_true hb.2
        split at h
        · rename_i ws hfill
          cases h
          obtain ⟨i, z, hi, hz, hsz, hzc, hby⟩ := hel _ _ hk
          intro C nn E s a W Q hS hargs hbl hfr hn _
          rw [opnds] at hargs
          obtain ⟨g1, g2⟩ := fillA_run (E := E) (W := W) (k := k) (n := len) (fun i => some (i * 1, 1)) (fun i => by rw [Nat.mul_one]) _ _ _ (List.replicate len 0) ws (by simp) hargs hfill
          have h0 : ((Array.range (len * 1)).map fun k_ => (#[Value.int k 0] : Array Value)[k_ % 1]!) = ((List.replicate len (0 : Int)).map (Value.int k)).toArray := by
            apply Array.ext'
            rw [Array.toList_map, Nat.mul_one, Array.toList_range, List.map_replicate]
            refine List.ext_getElem (by simp) (fun j h1 h2 => ?_)
            simp [Nat.mod_one]
          have hex : (execOp a.eval o).run P W = .ok (.value (.slice (some ⟨W.heap.size, 0, none⟩) len len)) (W.alloc (.cells (ws.map (Value.int k)).toArray e)) := by
            have e0 : (execOp a.eval o) = (do pure (.value (← Instr.buildSlice t len (ps.map fun (i, x) => (i, a.eval x))))) := by simp only [execOp, ho]
            rw [e0]
            have h16 : ¬ len * 1 > 2 ^ 24 := by omega
            have hn0 : ¬ len * 1 = 0 := by omega
            simp only [Instr.buildSlice, Sem.run_bind, run_underlying (ht.und _ _ hu), Result.andThen_ok, sizeOf, typeInfo, run_program, hi, Sem.run_pure, hsz, if_neg h16, if_neg hn0, zeroValue, hz, hzc, parts, newRow, newObj]
            simp only [show (#[Value.int k 0] : Array Value).size = 1 from rfl]
            rw [h0, g1]
            rfl
          rw [← g2] at hex
          unfold Oper.wp
          rw [hex]
          show ∃ E', Sat C nn E' _ (a.put o.dst _) _
          rw [hdst] at hn hfr ⊢
          have := hS.newOs (xs := ws) (us := ws.map (Value.int k)) (k := k) (e := e) (hn dd rfl) (hfr rfl dd _ rfl) (by rw [List.take_of_length_le (by simp)]) (by simp) (by rw [List.length_map, g2]; unfold maxLen; omega) rfl
          rwa [List.length_map] at this
        · cases h
      · cases h
    · cases h
  · cases h
def effQ (tau : Tau) (el : List (Nat × IntKind)) (op : Op) (dst : Option Nat) (args : List AV) (bl : List (Nat × Blk)) : Eff := match op with
  | .buildSlice t len ps => effBN tau el t len (ps.toList.map (·.1)) dst args
  | _ => none
theorem effQ_ok (ht : TauOk P tau) {el : List (Nat × IntKind)} (hel : ∀ e k, look el e = some k → Elem P e k) : EffOk P (effQ tau el) := by
  intro o args bl d O h hO
  unfold effQ at h
  split at h
  · rename_i he; exact bn_ok ht hel he h
  · cases h
end
noncomputable abbrev efQ := effOr (effQ tau elL) efN
theorem efQ_ok : EffOk PR efQ := effOr_ok (effQ_ok tau_ok el_ok) efN_ok
theorem fwQ {f : FuncId} {fn : Func} {args : List Cm} {res : AV} {t : Tr} {O : Prop} (hf : PR.funcs[f]? = some fn) (hO : (csOf res, ([] : List (Nat × Blk))) = (csOf res, []) → O) (h : fnT efQ fn args [] res [] t = some O) : Fn PR f args res := fwX efQ_ok hf (hO rfl) h
def rg (f : Func) (i : Nat) : Array Oper := (rgs (bd f)).getD i #[]
theorem le_junk (s : Sc) : AV.le (.c (.sc s)) (.c (.sc .junk)) := fun _ _ _ h => Sc.R_one h
def ptrIds : List AV → Option (List Nat)
  | [] => some []
  | .c (.sc (.p id 0)) :: l => match ptrIds l with
    | some is => some (id :: is)
    | none => none
  | _ => none
theorem ptrIds_R {E : En} {W : World} : ∀ {l : List AV} {ids : List Nat} {us : List Value}, ptrIds l = some ids → avsR E W l us → us = ids.map fun i => Value.pointer (some ⟨E.rho i, 0, none⟩)
  | [], ids, us, h, hr => by cases h; exact hr
  | .c (.sc (.p id 0)) :: l, ids, us, h, hr => by
    simp only [ptrIds] at h
    split at h
    · rename_i is h'
      cases h
      obtain ⟨u, vs, rfl, h1, h2⟩ := hr
      rw [ptrIds_R h' h2, List.map_cons]
      congr 1
    · cases h
section
variable {P : Program} {tau : Tau}
def effMf (f : Go.Fn) (first : List Operand) (dst : Option Nat) (args : List AV) : Eff := match f, first, ptrIds args with
  | .func g, [], some ids => out dst (.c (.sc (.cl g ids))) []
  | _, _, _ => none
theorem mf_ok {o : Oper} {f : Go.Fn} {first cap : Array Operand} (ho : o.op = .makeFunc f first cap) {args : List AV} {bl : List (Nat × Blk)} {d : Dl} {O : List Prop} (h : effMf f first.toList o.dst args = some (d, O)) : OpOk P o args bl { d with dst := o.dst } := by
  unfold effMf at h
  split at h
  · rename_i g ids hf hids
    cases h
    have hfirst : first = #[] := by rw [← Array.toArray_toList (xs := first), hf]
    refine OpOk_pure (fun E W ev hR => ?_)
    rw [ho, hfirst] at hR
    have hR : avsR E W args (cap.toList.map ev) := by simpa [Op.operands] using hR
    refine ⟨.func (.func g) #[] (cap.map ev), ?_, ?_⟩
    · have e0 : (execOp ev o) = (do pure (.value (← Instr.makeFunc (.func g) (first.map ev) (cap.map ev)))) := by simp only [execOp, ho]
      rw [e0, hfirst]
      simp [Instr.makeFunc]
    · show _ = _
      rw [← ptrIds_R hids hR]
      congr 1
      apply Array.ext'; simp
  · cases h
def effRs (tau : Tau) (t u : TypeId) (dst : Option Nat) : List AV → Eff
  | [.c (.sc (.rs .u8 ws))] => match tau.und t, tau.und u with
    | some (.slice e), some .string => match tau.und e with
      | some (.int .u8) => out dst (.c (.sc (.v (.string (strOfNums ws))))) []
      | _ => none
    | _, _ => none
  | _ => none
theorem getD_of {l : List Int} {i : Nat} (h : i < l.length) : l[i]? = some (l.getD i 0) := by
  rw [List.getD_eq_getElem?_getD, List.getElem?_eq_getElem h]; rfl
theorem rs_ok (ht : TauOk P tau) {o : Oper} {t u : TypeId} {p : Operand} (ho : o.op = .convert t u p) {args : List AV} {bl : List (Nat × Blk)} {d : Dl} {O : List Prop} (h : effRs tau t u o.dst args = some (d, O)) : OpOk P o args bl { d with dst := o.dst } := by
  unfold effRs at h
  split at h
  · rename_i ws
    split at h
    · rename_i e ht1 hu1
      split at h
      · rename_i he
        cases h
        intro C nn E s a W Q hS hargs hbl _ hn _
        rw [ho] at hargs
        have hp : RoS E W .u8 ws (a.eval p) := av1 hargs
        have hex : (execOp a.eval o).run P W = .ok (.value (.string (strOfNums ws))) W := by
          rcases hp with ⟨rfl, hp⟩ | ⟨b, off, cp, hp, _, _, hx⟩
          · simp [execOp, ho, hp, run_convert_bytes_nil W t e (ht.und _ _ ht1) (ht.und _ _ he) 0 0 u (ht.und _ _ hu1), strOfNums, ByteArray.empty, ByteArray.emptyWithCapacity]
            rfl
          · have hcell : ∀ i, i < ws.length → W.cell? ⟨b, off + i, none⟩ = some (.int .u8 (ws.getD i 0)) := fun i hi => hx i _ (getD_of hi)
            simp [execOp, ho, hp, run_convert_bytes_arg W t e (ht.und _ _ ht1) (ht.und _ _ he) b off ws.length cp ws rfl hcell u (ht.und _ _ hu1)]
        unfold Oper.wp
        rw [hex]
        exact ⟨E, hS.pure hn rfl (fun _ => ⟨rfl, rfl⟩)⟩
      · cases h
    · cases h
  · cases h
def effS (tau : Tau) (op : Op) (dst : Option Nat) (args : List AV) (bl : List (Nat × Blk)) : Eff := match op with
  | .makeFunc f first _ => effMf f first.toList dst args
  | .convert t u _ => effRs tau t u dst args
  | _ => none
theorem effS_ok (ht : TauOk P tau) : EffOk P (effS tau) := by
  intro o args bl d O h hO
  unfold effS at h
  split at h
  · rename_i he; exact mf_ok he h
  · rename_i he; exact rs_ok ht he h
  · cases h
end
noncomputable abbrev efS := effOr (effS tau) (effOr (effQ tau elL) ef)
theorem efS_ok : EffOk PR efS := effOr_ok (effS_ok tau_ok) (effOr_ok (effQ_ok tau_ok el_ok) ef_ok)
theorem fwS {f : FuncId} {fn : Func} {args : List Cm} {res : AV} {t : Tr} {O : Prop} (hf : PR.funcs[f]? = some fn) (hO : (csOf res, ([] : List (Nat × Blk))) = (csOf res, []) → O) (h : fnT efS fn args [] res [] t = some O) : Fn PR f args res := fwX efS_ok hf (hO rfl) h
theorem fwMS {f : FuncId} {fn : Func} {args : List Cm} {H H' : List (Nat × Blk)} {res : AV} {t : Tr} {O : Prop} (hf : PR.funcs[f]? = some fn) (hO : (csOf res, H') = (csOf res, H') → O) (h : fnT efS fn args H res H' t = some O) : FnM PR f args H res H' := by
  obtain ⟨c, h1, h2, h3, h4, h5, hT⟩ := fnT_parts efS_ok h (hO rfl)
  have := FnM_of_T tau_ok (l := fn.results.toList) (cs := csOf res) (H' := H') hf h2 h1 (by simp) rfl h3 h4 hT
  rwa [okRes_eq h5] at this
noncomputable abbrev efT := effOr (effS tau) efQ
theorem efT_ok : EffOk PR efT := effOr_ok (effS_ok tau_ok) efQ_ok
theorem fwT {f : FuncId} {fn : Func} {args : List Cm} {res : AV} {t : Tr} {O : Prop} (hf : PR.funcs[f]? = some fn) (hO : (csOf res, ([] : List (Nat × Blk))) = (csOf res, []) → O) (h : fnT efT fn args [] res [] t = some O) : Fn PR f args res := fwX efT_ok hf (hO rfl) h
theorem callC {P : Program} {n : Nat} {m : Nat → Nat} {H H' : List (Nat × Blk)} {res : AV} {o : Oper} {f : Nat} {args xs : List Cm} {ids : List Nat} {s s' : St} {d : Nat} (h : FnM P f args H res H') (ho : isCall o = true) (hdst : o.dst = some d)
    (ha : evalAll s.L o.op.operands.toList = some (.c (.sc (.cl f ids)) :: xs.map .c)) (hx : xs ++ ids.map (fun i => .sc (.p i 0)) = cmsRen m args) (hheld : heldOk m s.H H) (hok : okM n m H H' res = true)
    (hd : Nat.blt d n = true) (hs : afterM m d res H H' s = s') : OpT P n o s s' := by
  intro C E a W Q hS
  subst hs
  unfold isCall at ho
  split at ho
  · rename_i c hc
    split at ho
    · rename_i x hx'
      have hargs := evalAll_R hS ha
      rw [hc] at hargs
      simp only [Op.operands, Call.operands, hx', Array.toList_append, List.singleton_append, List.map_cons] at hargs
      obtain ⟨u, us, e, hu, hus⟩ := hargs
      simp only [List.cons.injEq] at e
      obtain ⟨hxe, hus'⟩ := e
      subst hus'
      have hu : u = .func (.func f) #[] (ids.map fun i => Value.pointer (some ⟨E.rho i, 0, none⟩)).toArray := hu
      have hcx : cmsR E W xs (c.args.toList.map a.eval) := cms_avs hus
      have happ : ∀ {l : List Cm} {vs : List Value}, cmsR E W l vs → cmsR E W (l ++ ids.map (fun i => .sc (.p i 0))) (vs ++ ids.map fun i => Value.pointer (some ⟨E.rho i, 0, none⟩)) := by
        intro l
        induction l with
        | nil =>
          intro vs h
          have h : vs = [] := h
          subst h
          rw [List.nil_append, List.nil_append]
          have : ∀ js : List Nat, cmsR E W (js.map fun i => .sc (.p i 0)) (js.map fun i => Value.pointer (some ⟨E.rho i, 0, none⟩)) := by
            intro js
            induction js with
            | nil => rfl
            | cons j js ih => exact ⟨_, _, rfl, rfl, ih⟩
          exact this ids
        | cons x l ih =>
          rintro vs ⟨v, ws, rfl, h1, h2⟩
          exact ⟨v, _, rfl, h1, ih h2⟩
      have hcs := cms_via.2 (hx ▸ happ hcx)
      have hok' := hok
      simp only [okM, Bool.and_eq_true] at hok'
      have hO : Own (E.via m) W H := by
        refine ⟨fun i B hi => Blk.via.2 (hS.blks _ _ (heldOk_look hheld hi)), fun i j A B hi hj hA hB he => ?_, fun i A hi hA hr => ?_⟩
        · have := hS.inj (m i) (m j) _ _ (heldOk_look hheld hi) (heldOk_look hheld hj) (Blk.via_live.1 hA) (Blk.via_live.1 hB) he
          have h1 := (inv_of hok'.1 hi).1
          rw [this, (inv_of hok'.1 hj).1] at h1
          exact (Option.some.inj h1).symm
        · exact (hS.own _ _ (heldOk_look hheld hi) (Blk.via_live.1 hA)).2 hr
      obtain ⟨hv, hp⟩ := h (E.via m) W _ (fun b hb => (hS.ro b hb).1) hcs hO
      have hexec : (execOp a.eval o).run P W = (callFunc f ((c.args.toList.map a.eval ++ ids.map fun i => Value.pointer (some ⟨E.rho i, 0, none⟩)).toArray)).run P W := by
        unfold execOp
        simp only [hc, resolve, hx', hxe, hu, Deferred.ofValue, Sem.run_bind, Sem.run_pure, Result.andThen_ok, invoke]
        congr 2
        refine Array.ext' ?_
        simp
      unfold Oper.wp
      rw [hexec, hv]
      simp only [Oper.upon]
      refine hp.mono ?_
      rintro e W' ⟨v, rfl, E', hpost⟩
      show ∃ E'', Sat C n E'' _ (a.put o.dst v) W'
      rw [hdst]
      exact callM_sat hS (by simpa [Nat.blt_eq] using hd) hheld hok hpost
    · cases ho
  · cases ho
def vldR (r : Int) : Bool := decide (r ≥ (0 : Int)) && (decide (r ≤ (1114111 : Int)) && (decide (r < (55296 : Int)) || decide (r > (57343 : Int))))
theorem vldR_b {r : Int} (h : vldR r = true) : 0 ≤ r ∧ r ≤ 1114111 := by unfold vldR at h; simp at h; omega
def encL (r : Int) : List Int := bif vldR r then (bif decide (r < (128 : Int)) then [r] else bif decide (r ≥ (65536 : Int)) then [240 + r / 262144, 128 + r / 4096 % 64, 128 + r / 64 % 64, 128 + r % 64] else bif decide (r ≥ (2048 : Int)) then [224 + r / 4096, 128 + r / 64 % 64, 128 + r % 64] else [192 + r / 64, 128 + r % 64]) else []
def encE (r : Int) : Int := bif vldR r then 0 else 4
def contB (r n : Int) : Int := bits .or .u8 (128 : Int) (bits .and .u8 (IntKind.u8.wrap (r.fdiv (2 ^ (min n.toNat IntKind.i32.bits)))) (63 : Int))
theorem and63_t : ((List.range 256).all fun n => bits .and .u8 (n : Int) 63 == ((n % 64 : Nat) : Int)) = true := by decide +kernel
theorem or128_t : ((List.range 64).all fun n => bits .or .u8 128 (n : Int) == ((128 + n : Nat) : Int)) = true := by decide +kernel
theorem or192_t : ((List.range 32).all fun n => bits .or .u8 192 (n : Int) == ((192 + n : Nat) : Int)) = true := by decide +kernel
theorem or224_t : ((List.range 16).all fun n => bits .or .u8 224 (n : Int) == ((224 + n : Nat) : Int)) = true := by decide +kernel
theorem or240_t : ((List.range 8).all fun n => bits .or .u8 240 (n : Int) == ((240 + n : Nat) : Int)) = true := by decide +kernel
theorem and63 {x : Int} (h0 : 0 ≤ x) (h1 : x < 256) : bits .and .u8 x (63 : Int) = x % 64 := by
  obtain ⟨n, rfl⟩ := Int.eq_ofNat_of_zero_le h0
  rw [eq_of_beq (List.all_eq_true.1 and63_t n (List.mem_range.2 (by omega)))]; omega
theorem or128 {x : Int} (h0 : 0 ≤ x) (h1 : x < 64) : bits .or .u8 (128 : Int) x = 128 + x := by
  obtain ⟨n, rfl⟩ := Int.eq_ofNat_of_zero_le h0
  rw [eq_of_beq (List.all_eq_true.1 or128_t n (List.mem_range.2 (by omega)))]; omega
theorem or192 {x : Int} (h0 : 0 ≤ x) (h1 : x < 32) : bits .or .u8 (192 : Int) x = 192 + x := by
  obtain ⟨n, rfl⟩ := Int.eq_ofNat_of_zero_le h0
  rw [eq_of_beq (List.all_eq_true.1 or192_t n (List.mem_range.2 (by omega)))]; omega
theorem or224 {x : Int} (h0 : 0 ≤ x) (h1 : x < 16) : bits .or .u8 (224 : Int) x = 224 + x := by
  obtain ⟨n, rfl⟩ := Int.eq_ofNat_of_zero_le h0
  rw [eq_of_beq (List.all_eq_true.1 or224_t n (List.mem_range.2 (by omega)))]; omega
theorem or240 {x : Int} (h0 : 0 ≤ x) (h1 : x < 8) : bits .or .u8 (240 : Int) x = 240 + x := by
  obtain ⟨n, rfl⟩ := Int.eq_ofNat_of_zero_le h0
  rw [eq_of_beq (List.all_eq_true.1 or240_t n (List.mem_range.2 (by omega)))]; omega
theorem fdiv_p {r c : Int} (h : 0 ≤ r) (hc : 0 < c) : r.fdiv c = r / c := Int.fdiv_eq_ediv_of_nonneg r (Int.le_of_lt hc)
theorem cont_eq {r n c : Int} (h0 : 0 ≤ r) (hc : (2 : Int) ^ (min n.toNat IntKind.i32.bits) = c) (hp : 0 < c) : contB r n = 128 + r / c % 64 := by
  unfold contB
  rw [hc, fdiv_p h0 hp, w8_def, and63 (by omega) (by omega), or128 (by omega) (by omega)]
  omega
theorem cont12 {r : Int} (h0 : 0 ≤ r) : contB r 12 = 128 + r / 4096 % 64 := cont_eq h0 (by decide) (by decide)
theorem cont6 {r : Int} (h0 : 0 ≤ r) : contB r 6 = 128 + r / 64 % 64 := cont_eq h0 (by decide) (by decide)
theorem cont0 {r : Int} (h0 : 0 ≤ r) : contB r 0 = 128 + r % 64 := by rw [cont_eq (c := 1) h0 (by decide) (by decide), Int.ediv_one]
theorem enc_1 {r : Int} (h : vldR r = true) (h1 : decide (r < (128 : Int)) = true) : [IntKind.u8.wrap r] = encL r := by
  have hb := vldR_b h
  have := of_decide_eq_true h1
  unfold encL; rw [h, h1, w8_def, Int.emod_eq_of_lt hb.1 (by omega)]; rfl
theorem enc_4 {r : Int} (h : vldR r = true) (h1 : decide (r < (128 : Int)) = false) (h2 : decide (r ≥ (65536 : Int)) = true) : ((([] ++ [bits .or .u8 (240 : Int) (IntKind.u8.wrap (r.fdiv (262144 : Int)))]) ++ [contB r 12]) ++ [contB r 6]) ++ [contB r 0] = encL r := by
  have hb := vldR_b h
  have := of_decide_eq_true h2
  unfold encL
  rw [h, h1, h2, cont12 hb.1, cont6 hb.1, cont0 hb.1, fdiv_p hb.1 (by decide), w8_def, Int.emod_eq_of_lt (by omega) (by omega), or240 (by omega) (by omega)]; rfl
theorem enc_3 {r : Int} (h : vldR r = true) (h1 : decide (r < (128 : Int)) = false) (h2 : decide (r ≥ (65536 : Int)) = false) (h3 : decide (r ≥ (2048 : Int)) = true) : (([] ++ [bits .or .u8 (224 : Int) (IntKind.u8.wrap (r.fdiv (4096 : Int)))]) ++ [contB r 6]) ++ [contB r 0] = encL r := by
  have hb := vldR_b h
  have := of_decide_eq_false h2
  unfold encL
  rw [h, h1, h2, h3, cont6 hb.1, cont0 hb.1, fdiv_p hb.1 (by decide), w8_def, Int.emod_eq_of_lt (by omega) (by omega), or224 (by omega) (by omega)]; rfl
theorem enc_2 {r : Int} (h : vldR r = true) (h1 : decide (r < (128 : Int)) = false) (h2 : decide (r ≥ (65536 : Int)) = false) (h3 : decide (r ≥ (2048 : Int)) = false) : ([] ++ [bits .or .u8 (192 : Int) (IntKind.u8.wrap (r.fdiv (64 : Int)))]) ++ [contB r 0] = encL r := by
  have hb := vldR_b h
  have := of_decide_eq_false h3
  unfold encL
  rw [h, h1, h2, h3, cont0 hb.1, fdiv_p hb.1 (by decide), w8_def, Int.emod_eq_of_lt (by omega) (by omega), or192 (by omega) (by omega)]; rfl
end Go.Proofs.YtbbakacfhajohaaGreat.Av

import Derived.Test.YtbbakacfhajohaaRwb
import Derived.WalkKit
import Derived.LaidEql
import Derived.Stop.Asserts
import Derived.RowKitTokens
import Derived.Lib.IfaceEq
namespace Go.Proofs.Ytbbakacfhajohaa.Av
set_option linter.unusedVariables false
set_option linter.unusedSimpArgs false
set_option maxRecDepth 20000

open Go.RowKit Go.Extern.Stop Go.Stop Go.Extern
theorem is_typeOf (v : Value) (w : World) : (Extern.ReflectliteType.typeOf #[.iface 104 v]).run Try.prog w = .ok (.iface 176 (.agg #[.pointer (some ⟨3, 104, none⟩)])) w := by kernel_rfl
noncomputable def compE : Array Value → Sem Value := match Extern.find Try.f166 with | some e => e | none => fun _ => pure (.tuple #[])
theorem is_comparable (w : World) : (compE #[.agg #[.pointer (some ⟨3, 104, none⟩)]]).run Try.prog w = .ok (.bool true) w := by kernel_rfl
theorem is_method (v : Value) (w : World) : (Go.method 323 176 v "Comparable").run Try.prog w = .ok (166, v) w := by kernel_rfl
theorem is_comp : (Try.prog.info? 104).map (·.comparable) = some true := by kernel_rfl
theorem is_no0 (v : Value) (xT : TypeId) (w : World) : (Instr.typeAssert (.iface 104 v) xT 178 true).run Try.prog w = .ok (.tuple #[.nilIface, .bool false]) w := run_typeAssert_lacksB Try.underlying178 (by kernel_rfl) (by kernel_rfl) v xT w
theorem is_no1 (v : Value) (xT : TypeId) (w : World) : (Instr.typeAssert (.iface 104 v) xT 181 true).run Try.prog w = .ok (.tuple #[.nilIface, .bool false]) w := run_typeAssert_lacksB Try.underlying181 (by kernel_rfl) (by kernel_rfl) v xT w
theorem is_no2 (v : Value) (xT : TypeId) (w : World) : (Instr.typeAssert (.iface 104 v) xT 183 true).run Try.prog w = .ok (.tuple #[.nilIface, .bool false]) w := run_typeAssert_lacksB Try.underlying183 (by kernel_rfl) (by kernel_rfl) v xT w
theorem is_int (c k : Int) (w : World) : Calls Try.prog 91 #[.iface 104 (.int .i64 c), .iface 104 (.int .i64 k)] w fun e w' => e = .returned (.bool (c == k)) ∧ w' = w := by
  have h8 := @run_callFunc_extern Try.prog 131 _ Extern.ReflectliteType.typeOf Try.func131 (by kernel_rfl) (by kernel_rfl) (by kernel_rfl) (by kernel_rfl)
  have h32 := @run_callFunc_extern Try.prog 166 _ compE Try.func166 (by kernel_rfl) (by kernel_rfl) (by kernel_rfl) (by kernel_rfl)
  have tT := is_typeOf
  have cT := is_comparable
  have mR := is_method
  have n0 := is_no0
  have n1 := is_no1
  have n2 := is_no2
  have heq := fun w => Go.Lib.run_eql_iface_int (P := Try.prog) w (k := .i64) c k Try.underlying27 is_comp Try.underlying104
  cases hck : c == k <;> rw [hck] at heq
  · go_enter Try.func91, Try.ntmps91
    go_wp2
    refine wp_loop_rounds 1 ?_
    rw [rounds_succ]
    go_wp2
    go_ret
    exact ⟨rfl, rfl⟩
  · go_enter Try.func91, Try.ntmps91
    go_wp2
    refine wp_loop_rounds 1 ?_
    rw [rounds_succ]
    go_wp2
    go_ret
    exact ⟨rfl, rfl⟩
theorem is_nil (k : Int) (w : World) : Calls Try.prog 91 #[.nilIface, .iface 104 (.int .i64 k)] w fun e w' => e = .returned (.bool false) ∧ w' = w := by
  have hn := run_eql_iface_nil_left (P := Try.prog) w 104 (.int .i64 k) Try.underlying27
  go_enter Try.func91, Try.ntmps91
  go_wp2
  go_ret
  exact ⟨rfl, rfl⟩
theorem calls_Fn {f : FuncId} {fn : Func} {c : Code} {args : List Cm} {b : Bool} (hf : PR.funcs[f]? = some fn) (hname : (fn.name == "runtime.NumGoroutine") = false) (hb : fn.body = some c)
    (h : ∀ (E : En) (W : World) (us : List Value), cmsR E W args us → Calls PR f us.toArray W fun e w' => e = .returned (.bool b) ∧ w' = W) : Fn PR f args (.c (.sc (.v (.bool b)))) := by
  intro E W us hro hus
  right
  refine ⟨?_, (h E W us hus).mono ?_⟩
  · have h1 : fn.name ≠ "runtime.NumGoroutine" := by simpa using hname
    simp [callFunc, hf, h1, hb]
  · rintro e W' ⟨rfl, rfl⟩
    exact ⟨_, rfl, E, ⟨rfl, rfl⟩, ⟨rfl, rfl, rfl, Nat.le_refl _, fun _ _ => rfl⟩, fun b hb => ⟨hro b hb, .inl hb⟩⟩
theorem is_ok (c k : Int) (hk : (k == 0) = false) : Fn PR 91 [.sc (.ee 104 c), .sc (.v (.iface 104 (.int .i64 k)))] (.c (.sc (.v (.bool (c == k))))) := by
  refine calls_Fn Try.func91 (by kernel_rfl) (c := bd Try.f91) (by kernel_rfl) (fun E W us hus => ?_)
  obtain ⟨u, _, rfl, h1, v, _, rfl, ⟨h2, _⟩, rfl⟩ := hus
  have h1 : u = eeV 104 c := h1
  subst h2; subst h1
  unfold eeV
  cases hc : c == 0
  · exact is_int c k W
  · have : (c == k) = false := by
      rw [beq_eq_false_iff_ne] at hk ⊢
      have := eq_of_beq hc
      omega
    rw [this]
    exact is_nil k W

def coS (c : Int) (k : Nat) : St := ⟨[(0, .c (.sc (.ee 104 c))), (2, .c (.sc (.v (.int .i64 0)))), (3, .c (.sc (.v (.int .i64 ((k : Nat) : Int)))))], []⟩
def coE (c : Int) : St := ⟨[(2, .c (.sc (.v (.int .i64 c))))], []⟩
theorem co_loop {c : Int} (h0 : 1 ≤ c) (h1 : c ≤ 25) : LoopT PR 15 (lp Try.f26 0) (coS c 1) .r (coE c) := by
  refine loop_of (fun q s => ∃ k : Nat, 1 ≤ k ∧ (k : Int) ≤ c ∧ q = 26 - k ∧ s = coS c k) 25 ⟨1, Nat.le_refl _, h0, rfl, rfl⟩ ?_
  rintro q s ⟨k, hk, hkc, hq, rfl⟩
  · rcases Bool.eq_false_or_eq_true (c == ((k : Nat) : Int)) with c0 | c0
    · exact wayN (s' := coE c) (r := [.b true, .op ⟨some 13, .c (.sc (.v (.bool (c == ((k : Nat) : Int))))), none, false⟩, .b true, .cut [2] [], .chk (coE c)]) (e := .r) (O := [(decide (((k : Nat) : Int) ≤ (25 : Int))) = true, callP (opr Try.f26 5 3) 91 [.sc (.ee 104 c), .sc (.v (.iface 104 (.int .i64 ((k : Nat) : Int))))] (.c (.sc (.v (.bool (c == ((k : Nat) : Int)))))), (c == ((k : Nat) : Int)) = true, Ent 15 ⟨[(2, .c (.sc (.v (.int .i64 ((k : Nat) : Int)))))], []⟩ (coE c)]) (by kernel_rfl) (ac (decide_eq_true (by omega)) (ac (callP_of (is_ok c ((k : Nat) : Int) (by rw [beq_eq_false_iff_ne]; omega)) (fun _ => rfl) (by kernel_rfl)) (ac c0 (ac (ent_eqs (.cons (by rw [eq_of_beq c0]) .nil) .nil) an)))) (.inr ⟨by simp, rfl, rfl⟩)
    · exact wayN (s' := coS c (k + 1)) (r := [.b true, .op ⟨some 13, .c (.sc (.v (.bool (c == ((k : Nat) : Int))))), none, false⟩, .b false, .cut [0, 2, 3] [], .chk (coS c (k + 1))]) (e := .n) (O := [(decide (((k : Nat) : Int) ≤ (25 : Int))) = true, callP (opr Try.f26 5 3) 91 [.sc (.ee 104 c), .sc (.v (.iface 104 (.int .i64 ((k : Nat) : Int))))] (.c (.sc (.v (.bool (c == ((k : Nat) : Int)))))), (c == ((k : Nat) : Int)) = false, kLo .i64 ≤ (((k : Nat) : Int) + (1 : Int)), (((k : Nat) : Int) + (1 : Int)) ≤ kHi .i64, Ent 15 ⟨[(0, .c (.sc (.ee 104 c))), (2, .c (.sc (.v (.int .i64 0)))), (3, .c (.sc (.v (.int .i64 (((k : Nat) : Int) + (1 : Int))))))], []⟩ (coS c (k + 1))]) (by kernel_rfl) (ac (decide_eq_true (by omega)) (ac (callP_of (is_ok c ((k : Nat) : Int) (by rw [beq_eq_false_iff_ne]; omega)) (fun _ => rfl) (by kernel_rfl)) (ac c0 (ac (lo64 (by first | omega | (simp only [w64_def, u64_def, w8_def]; omega))) (ac (hi64 (by first | omega | (simp only [w64_def, u64_def, w8_def]; omega))) (ac (ent_eqs (.cons rfl (.cons rfl (.cons (by rfl) .nil))) .nil) an)))))) (.inl ⟨rfl, 26 - (k + 1), by omega, k + 1, by omega, by have h := beq_eq_false_iff_ne.1 c0; omega, rfl, rfl⟩)

theorem code_ok (c : Int) (h0 : 0 ≤ c) (h1 : c ≤ 25) : Fn PR 26 [.sc (.ee 104 c)] (.c (.sc (.v (.int .i64 c)))) := by
  rcases Bool.eq_false_or_eq_true (c == (0 : Int)) with c0 | c0
  · exact fn_wayN (fn := Try.f26) (n := 15) (l := [.tmp 2]) (args := [.sc (.ee 104 c)]) (cs := [.sc (.v (.int .i64 c))]) (s' := ⟨[(2, .c (.sc (.v (.int .i64 c))))], []⟩) (r := [.b true, .cut [2] [], .chk (⟨[(2, .c (.sc (.v (.int .i64 c))))], []⟩)]) (O := [(c == (0 : Int)) = true, Ent 15 ⟨[(2, .c (.sc (.v (.int .i64 0))))], []⟩ (⟨[(2, .c (.sc (.v (.int .i64 c))))], []⟩)]) Try.func26 (by kernel_rfl) (by kernel_rfl) (by kernel_rfl) (by kernel_rfl) (by kernel_rfl) (by kernel_rfl) (by kernel_rfl) (ac c0 (ac (ent_eqs (.cons (by rw [eq_of_beq c0]) .nil) .nil) an))
  · exact fn_wayN (fn := Try.f26) (n := 15) (l := [.tmp 2]) (args := [.sc (.ee 104 c)]) (cs := [.sc (.v (.int .i64 c))]) (s' := ⟨[(2, .c (.sc (.v (.int .i64 c))))], []⟩) (r := [.b false, .cut [0, 2, 3] [], .chk (coS c 1), .lp .r (coE c), .cut [2] []]) (O := [(c == (0 : Int)) = false, Ent 15 ⟨[(0, .c (.sc (.ee 104 c))), (2, .c (.sc (.v (.int .i64 0)))), (3, .c (.sc (.v (.int .i64 1))))], []⟩ (coS c 1), LoopT PR 15 (lp Try.f26 0) (coS c 1) .r (coE c)]) Try.func26 (by kernel_rfl) (by kernel_rfl) (by kernel_rfl) (by kernel_rfl) (by kernel_rfl) (by kernel_rfl) (by kernel_rfl) (ac c0 (ac (ent_eqs (.cons rfl (.cons rfl (.cons (by rfl) .nil))) .nil) (ac (co_loop (by have h := beq_eq_false_iff_ne.1 c0; omega) h1) an)))

end Go.Proofs.Ytbbakacfhajohaa.Av

/- The abstract run with arithmetic that stays within its kind (each operation owes its range), and its ways. -/
import Derived.Test.YtbbakacfhajohaaAvT
namespace Go.Proofs.Ytbbakacfhajohaa.Av
set_option linter.unusedVariables false
set_option linter.unusedSimpArgs false
open Go.RowKit
/-- The least and the greatest number of a kind. -/
def kLo (k : IntKind) : Int := match k with | .i64 => -9223372036854775808 | .i32 => -2147483648 | _ => 0
def kHi (k : IntKind) : Int := match k with | .i64 => 9223372036854775807 | .u64 => 18446744073709551615 | .u8 => 255 | .i32 => 2147483647 | _ => 0
theorem wrap_in {k : IntKind} {n : Int} (h0 : kLo k ≤ n) (h1 : n ≤ kHi k) : k.wrap n = n := by
  cases k <;> simp only [kLo, kHi] at h0 h1 <;> simp [IntKind.wrap, IntKind.bits, IntKind.signed] <;> (try split) <;> omega
theorem lo64 {x : Int} (h : -9223372036854775808 ≤ x) : kLo .i64 ≤ x := h
theorem hi64 {x : Int} (h : x ≤ 9223372036854775807) : x ≤ kHi .i64 := h
theorem lou {x : Int} (h : 0 ≤ x) : kLo .u64 ≤ x := h
theorem hiu {x : Int} (h : x ≤ 18446744073709551615) : x ≤ kHi .u64 := h
theorem lo8 {x : Int} (h : 0 ≤ x) : kLo .u8 ≤ x := h
theorem hi8 {x : Int} (h : x ≤ 255) : x ≤ kHi .u8 := h
theorem lo32 {x : Int} (h : -2147483648 ≤ x) : kLo .i32 ≤ x := h
theorem hi32 {x : Int} (h : x ≤ 2147483647) : x ≤ kHi .i32 := h
def effNW (tau : Tau) (op : Op) (dst : Option Nat) (args : List AV) (bl : List (Nat × Blk)) : Eff := match op, args with
  | .binOp b _ _ _ _, [.c (.sc (.v (.int k x))), .c (.sc (.v (.int k' y)))] => match decide (k = k'), b with
    | true, .add => out dst (iv k (x + y)) [kLo k ≤ x + y, x + y ≤ kHi k]
    | true, .sub => out dst (iv k (x - y)) [kLo k ≤ x - y, x - y ≤ kHi k]
    | true, .mul => out dst (iv k (x * y)) [kLo k ≤ x * y, x * y ≤ kHi k]
    | true, .quo => out dst (iv k (x / y)) [0 ≤ x, 0 < y, x ≤ kHi k]
    | true, .rem => out dst (iv k (x % y)) [0 ≤ x, 0 < y]
    | _, .shr => out dst (iv k (x / 2 ^ y.toNat)) [0 ≤ y, y ≤ (k.bits : Int)]
    | _, .shl => out dst (iv k (x * 2 ^ y.toNat)) [0 ≤ y, y ≤ (k.bits : Int), kLo k ≤ x * 2 ^ y.toNat, x * 2 ^ y.toNat ≤ kHi k]
    | true, .and => match y with
      | 1 => out dst (iv k (x % 2)) [0 ≤ x, x ≤ kHi k]
      | _ => none
    | _, _ => none
  | .convert a b _, [.c (.sc (.v (.int _ x)))] => match tau.und a, tau.und b with
    | some (.int _), some (.int k) => out dst (iv k x) [kLo k ≤ x, x ≤ kHi k]
    | _, _ => none
  | .unOp .neg _ _, [.c (.sc (.v (.int k x)))] => out dst (iv k (-x)) [kLo k ≤ -x, -x ≤ kHi k]
  | _, _ => none
theorem bits_one {k : IntKind} {x : Int} (h0 : 0 ≤ x) (h1 : x ≤ kHi k) : k.wrap ((BitVec.ofInt k.bits x &&& BitVec.ofInt k.bits 1).toNat : Int) = x % 2 := by
  have hb : x < 2 ^ k.bits := by cases k <;> simp only [kHi] at h1 <;> simp only [IntKind.bits] <;> omega
  have h1' : (1 : Int) % 2 ^ k.bits = 1 := by cases k <;> simp [IntKind.bits]
  have e1 : (BitVec.ofInt k.bits x).toNat = x.toNat := by rw [BitVec.toNat_ofInt]; congr 1; push_cast; exact Int.emod_eq_of_lt h0 hb
  have e2 : (BitVec.ofInt k.bits 1).toNat = 1 := by rw [BitVec.toNat_ofInt]; push_cast; rw [h1']; rfl
  rw [BitVec.toNat_and, e1, e2, Nat.and_one_is_mod]
  rw [wrap_in]
  · omega
  · have : kLo k ≤ 0 := by cases k <;> simp [kLo]
    omega
  · rcases Int.lt_or_le x 1 with h | h
    · omega
    · omega
theorem nw_ok {P : Program} {tau : Tau} (ht : TauOk P tau) : EffOk P (effNW tau) := by
  intro o args bl d O h hO
  unfold effNW at h
  split at h
  · rename_i b t p q u k x k' y ho
    have fin : ∀ (z : Int), (∀ W : World, (binOp b t (.int k x) (.int k' y)).run P W = .ok (.int k z) W) → OpOk P o [.c (.sc (.v (.int k x))), .c (.sc (.v (.int k' y)))] bl ⟨o.dst, iv k z, none, false⟩ := by
      intro z h1
      refine OpOk_pure (fun E W ev hR => ?_)
      rw [ho] at hR
      obtain ⟨⟨e1, _⟩, ⟨e2, _⟩⟩ := av2 (u := ev p) (v := ev q) (by simpa [Op.operands] using hR)
      refine ⟨.int k z, ?_, rfl, rfl⟩
      have : ∀ W : World, (eqGuard b t p q (.int k x) (.int k' y)).run P W = .ok () W := by
        intro W; cases b <;> simp [eqGuard]
      simp only [execOp, ho, e1, e2, Sem.run_bind, this, Result.andThen_ok, h1, Sem.run_pure]
    split at h
    · rename_i hk; obtain rfl := kind_ne hk
      cases h; obtain ⟨h0, h1, _⟩ := hO
      exact fin _ (fun W => by simp [binOp, Op.intArith, wrap_in h0 h1])
    · rename_i hk; obtain rfl := kind_ne hk
      cases h; obtain ⟨h0, h1, _⟩ := hO
      exact fin _ (fun W => by simp [binOp, Op.intArith, wrap_in h0 h1])
    · rename_i hk; obtain rfl := kind_ne hk
      cases h; obtain ⟨h0, h1, _⟩ := hO
      exact fin _ (fun W => by simp [binOp, Op.intArith, wrap_in h0 h1])
    · rename_i hk; obtain rfl := kind_ne hk
      cases h; obtain ⟨h0, h1, h2, _⟩ := hO
      refine fin _ (fun W => ?_)
      have hy : y ≠ 0 := by omega
      have hd : x.tdiv y = x / y := Int.tdiv_eq_ediv_of_nonneg h0
      have hlo : kLo k ≤ x / y := by
        have := Int.ediv_nonneg h0 (Int.le_of_lt h1)
        have : kLo k ≤ 0 := by cases k <;> simp [kLo]
        omega
      have hhi : x / y ≤ kHi k := Int.le_trans (Int.ediv_le_self _ h0) h2
      simp [binOp, Op.intDiv, hy, hd, wrap_in hlo hhi]
    · rename_i hk; obtain rfl := kind_ne hk
      cases h; obtain ⟨h0, h1, _⟩ := hO
      refine fin _ (fun W => ?_)
      have hy : y ≠ 0 := by omega
      simp [binOp, Op.intDiv, hy, Int.tmod_eq_emod_of_nonneg h0]
    · cases h; obtain ⟨h0, h1, _⟩ := hO
      refine fin _ (fun W => ?_)
      have hy : ¬ y < 0 := by omega
      have hm : min y.toNat k.bits = y.toNat := by omega
      simp [binOp, Op.shift, hy, hm, Int.fdiv_eq_ediv_of_nonneg x (show (0 : Int) ≤ 2 ^ y.toNat from Int.le_of_lt (Int.pow_pos (by decide)))]
    · cases h; obtain ⟨h0, h1, h2, h3, _⟩ := hO
      refine fin _ (fun W => ?_)
      have hy : ¬ y < 0 := by omega
      have hm : min y.toNat k.bits = y.toNat := by omega
      simp [binOp, Op.shift, hy, hm, wrap_in h2 h3]
    · rename_i hk; obtain rfl := kind_ne hk
      split at h
      · cases h; obtain ⟨h0, h1, _⟩ := hO
        refine fin _ (fun W => ?_)
        have := bits_one h0 h1
        simp only [binOp, beq_self_eq_true, if_true, Op.intBits, Sem.run_pure, this]
        simp [this]
      · cases h
    · cases h
  · rename_i a b p k0 x ho
    split at h
    · rename_i k1 k h1 h2
      cases h; obtain ⟨g0, g1, _⟩ := hO
      refine OpOk_pure (fun E W ev hR => ?_)
      rw [ho] at hR
      obtain ⟨h3, _⟩ := av1 hR
      exact ⟨.int k x, by simp [execOp, ho, h3, convert, run_underlying (ht.und _ _ h1), run_underlying (ht.und _ _ h2), Conv.intToInt, wrap_in g0 g1], rfl, rfl⟩
    · cases h
  · rename_i t p k x ho
    cases h; obtain ⟨g0, g1, _⟩ := hO
    refine OpOk_pure (fun E W ev hR => ?_)
    rw [ho] at hR
    obtain ⟨h3, _⟩ := av1 hR
    exact ⟨.int k (-x), by
      have e : (0 : Int) - x = -x := by omega
      simp [execOp, ho, h3, Op.unary, Op.intArith, e, wrap_in g0 g1], rfl, rfl⟩
  · cases h
noncomputable abbrev efN := effOr (effNW tau) ef
theorem efN_ok : EffOk PR efN := effOr_ok (nw_ok tau_ok) ef_ok
noncomputable def arunN (n : Nat) (c : Code) (s : St) (r : List Orc) : Option (AEx × St × List Orc × List Prop) := match arun PR n efN c s r with
  | some (e, s1, r1, O1) => match pre n s1 r1 with
    | (s2, r2, O2) => some (e, s2, r2, O1 ++ O2)
  | none => none
/-- One way through a piece of code. -/
theorem wayN {n : Nat} {c : Code} {s s' : St} {r : List Orc} {e : AEx} {O : List Prop} {Q : AEx → St → Prop} (h : arunN n c s r = some (e, s', [], O)) (hO : allP O) (hQ : Q e s') : T PR n c s Q := by
  unfold arunN at h
  split at h
  · rename_i e1 s1 r1 O1 h1
    rcases hp : pre n s1 r1 with ⟨s2, r2, O2⟩
    simp only [hp, Option.some.injEq, Prod.mk.injEq] at h
    obtain ⟨rfl, rfl, rfl, rfl⟩ := h
    obtain ⟨ha, hb⟩ := allP_append hO
    refine (arun_sound efN_ok mixed c h1 ha).post (fun x y ⟨hx, hy⟩ => ?_)
    subst hx; subst hy
    exact ⟨s2, hQ, pre_sound hp hb⟩
  · cases h
/-- One way through a function. -/
theorem fn_wayN {f : FuncId} {fn : Func} {n : Nat} {l : List ResultVar} {args cs : List Cm} {s' : St} {r : List Orc} {O : List Prop} (hf : PR.funcs[f]? = some fn) (hname : (fn.name == "runtime.NumGoroutine") = false) (hb : fn.body = some (bd fn))
    (hl : fn.results = l.toArray) (hn : fn.ntmps = n) (hargs : Nat.ble args.length n = true) (h : arunN n (bd fn) ⟨st0 0 args, []⟩ r = some (.r, s', [], O)) (hres : resA tau s' l = some cs) (hO : allP O) : Fn PR f args (resAV cs) :=
  Fn_of_T tau_ok hf hname hb hl hn hargs (wayN h hO ⟨.inl rfl, hres⟩)
/-! ### A call with a slice of the call's own, which is shut first -/
theorem OpT_ent {P : Program} {n : Nat} {o : Oper} {s s1 s2 : St} (h : Ent n s s1) (k : OpT P n o s1 s2) : OpT P n o s s2 := fun C E a W Q hS => let ⟨E1, h1⟩ := h C E a W hS; k C E1 a W Q h1
theorem callT {n : Nat} {o : Oper} {f : Nat} {args : List Cm} {res : AV} {s s' : St} (h : callP o f args res) (ha : evalAll s.L o.op.operands.toList = some (fnv f :: args.map .c)) (hn : inN n o.dst = true) (hs : s.put ⟨o.dst, res, none, false⟩ = s') : OpT PR n o s s' := by
  intro C E a W Q hS
  subst hs
  refine h C n E s a W Q hS (evalAll_R hS ha) (fun _ _ h => by cases h) (fun h => by cases h) (fun i hi => ?_) rfl
  rw [hi] at hn
  simpa [inN, Nat.blt_eq] using hn
end Go.Proofs.Ytbbakacfhajohaa.Av

/- The abstract run over this program: its types, and the short forms that the walks use. -/
import Derived.Test.YtbbakacfhajohaaAvK
import Derived.Test.YtbbakacfhajohaaProg
namespace Go.Proofs.Ytbbakacfhajohaa.Av
open Go.RowKit

abbrev bA (b : Bool) : AV := .c (.sc (.v (.bool b)))
def z8 : List Int := [0, 0, 0, 0, 0, 0, 0, 0]
def z9 : List Int := [0, 0, 0, 0, 0, 0, 0, 0, 0]
def b0 : Seg := .one (.v (.bool false))
def zI : List Seg := [b0, .row .u64 8 z8]
def zR : List Seg := [b0, .row .u64 8 z8, b0, .row .u64 8 z8]
def sE : Seg := .one (.v (.string ByteArray.empty))
def zC : List Seg := [.one (.v (.int .i64 0)), b0, sE, b0, .row .u64 8 z8, b0, .row .u64 8 z8]
def nilS : Seg := .one (.v (.slice none 0 0))
def zN : List Seg := [b0, nilS]
def nilE : Seg := .one (.v .nilIface)
def zl : List (Nat × List Seg) := [(22, [.one (.v (.int .u64 0))]), (23, [.row .u64 8 z8]), (25, zI), (63, zR), (95, zC), (37, zN), (161, [.row .u64 9 z9]), (142, [nilE])]
noncomputable def tau : Tau := ⟨fun t => Try.prog.underlying t, fun t => (Try.prog.info? t).map (·.size), fun t => look zl t⟩
def flatS : List Seg → Option (List Value)
  | [] => some []
  | .one (.v x) :: l => match x.oneCell', flatS l with
    | true, some r => some (x :: r)
    | _, _ => none
  | .row k n ws :: l => match Nat.beq ws.length n, flatS l with
    | true, some r => some (ws.map (Value.int k) ++ r)
    | _, _ => none
  | _ => none
theorem flatS_R {E : En} {W : World} : ∀ {l : List Seg} {us : List Value}, flatS l = some us → segsR E W l us
  | [], us, h => by cases h; rfl
  | .one s :: l, us, h => by
    cases s with
    | v x =>
      simp only [flatS] at h
      split at h
      · rename_i r h1 h2
        cases h
        exact ⟨[x], r, rfl, ⟨x, rfl, rfl, h1⟩, flatS_R h2⟩
      · cases h
    | _ => simp [flatS] at h
  | .row k n ws :: l, us, h => by
    simp only [flatS] at h
    split at h
    · rename_i r h1 h2
      cases h
      exact ⟨_, r, rfl, ⟨rfl, Nat.eq_of_beq_eq_true h1⟩, flatS_R h2⟩
    · cases h
theorem zero_of {P : Program} {t : TypeId} {l : List Seg} {us : List Value} (h1 : ((P.info? t).bind fun i => i.zero.map (·.cells.toList)) = some us) (h2 : flatS l = some us) :
    ∃ i v us, P.info? t = some i ∧ i.zero = some v ∧ v.cells = us.toArray ∧ ∀ E W, segsR E W l us := by
  cases hi : P.info? t with
  | none => rw [hi] at h1; cases h1
  | some i =>
    rw [hi] at h1
    cases hz : i.zero with
    | none => simp [hz] at h1
    | some v =>
      simp only [Option.bind_some, hz, Option.map_some, Option.some.injEq] at h1
      exact ⟨i, v, us, rfl, hz, by rw [← h1], fun E W => flatS_R h2⟩
set_option maxRecDepth 100000 in
theorem tau_ok : TauOk Try.prog tau where
  und := fun _ _ h => h
  size := fun t m h => by
    cases hi : Try.prog.info? t with
    | none => simp [tau, hi] at h
    | some i => simp only [tau, hi, Option.map_some, Option.some.injEq] at h; exact ⟨i, rfl, h⟩
  zero := fun t l h => by
    have h := look_mem (l := zl) h
    simp only [zl, List.mem_cons, List.not_mem_nil, or_false, Prod.mk.injEq] at h
    rcases h with ⟨rfl, rfl⟩ | ⟨rfl, rfl⟩ | ⟨rfl, rfl⟩ | ⟨rfl, rfl⟩ | ⟨rfl, rfl⟩ | ⟨rfl, rfl⟩ | ⟨rfl, rfl⟩ | ⟨rfl, rfl⟩
    · exact zero_of (us := [.int .u64 0]) (by kernel_rfl) (by kernel_rfl)
    · exact zero_of (us := z8.map (Value.int .u64)) (by kernel_rfl) (by kernel_rfl)
    · exact zero_of (us := .bool false :: z8.map (Value.int .u64)) (by kernel_rfl) (by kernel_rfl)
    · exact zero_of (us := .bool false :: z8.map (Value.int .u64) ++ .bool false :: z8.map (Value.int .u64)) (by kernel_rfl) (by kernel_rfl)
    · exact zero_of (us := .int .i64 0 :: .bool false :: .string ByteArray.empty :: .bool false :: z8.map (Value.int .u64) ++ .bool false :: z8.map (Value.int .u64)) (by kernel_rfl) (by kernel_rfl)
    · exact zero_of (us := [.bool false, .slice none 0 0]) (by kernel_rfl) (by kernel_rfl)
    · exact zero_of (us := z9.map (Value.int .u64)) (by kernel_rfl) (by kernel_rfl)
    · exact zero_of (us := [.nilIface]) (by kernel_rfl) (by kernel_rfl)
def okL : List (Nat × Unit) := [(25, ()), (63, ()), (95, ())]
def gdL : List (Nat × Unit) := (23, ()) :: okL
def okT (t : Nat) : Bool := (look okL t).isSome
def gdT (t : Nat) : Bool := (look gdL t).isSome
theorem isSome_mem {α : Type} {l : List (Nat × α)} {t : Nat} (h : (look l t).isSome = true) : ∃ x, (t, x) ∈ l := by
  cases hl : look l t with
  | none => rw [hl] at h; cases h
  | some x => exact ⟨x, look_mem hl⟩
theorem ok_ok : OkOk Try.prog okT where
  held := fun t h => by
    obtain ⟨x, h⟩ := isSome_mem h
    simp only [okL, List.mem_cons, List.not_mem_nil, or_false, Prod.mk.injEq] at h
    rcases h with ⟨rfl, _⟩ | ⟨rfl, _⟩ | ⟨rfl, _⟩ <;> kernel_rfl
theorem gd_ok : ∀ t, gdT t = true → Try.prog.eqGuardType Try.prog.depth t = false := fun t h => by
  obtain ⟨x, h⟩ := isSome_mem h
  simp only [gdL, okL, List.mem_cons, List.not_mem_nil, or_false, Prod.mk.injEq] at h
  rcases h with ⟨rfl, _⟩ | ⟨rfl, _⟩ | ⟨rfl, _⟩ | ⟨rfl, _⟩ <;> kernel_rfl
noncomputable abbrev PR : Program := Try.prog
def elL : List (Nat × IntKind) := [(5, .u8), (3, .i64)]
theorem elem_of {e : TypeId} {k : IntKind} (h : ((PR.info? e).bind fun i => i.zero.map fun z => (i.size, z.cells.toList, Nat.ble i.bytes 8)) = some (1, [.int k 0], true)) : Elem PR e k := by
  cases hi : PR.info? e with
  | none => rw [hi] at h; cases h
  | some i =>
    rw [hi] at h
    cases hz : i.zero with
    | none => simp [hz] at h
    | some z =>
      simp only [Option.bind_some, hz, Option.map_some, Option.some.injEq, Prod.mk.injEq] at h
      exact ⟨i, z, hi, hz, h.1, by rw [← Array.toArray_toList (xs := z.cells), h.2.1], Nat.le_of_ble_eq_true h.2.2⟩
theorem el_ok : ∀ e k, look elL e = some k → Elem PR e k := by
  intro e k h
  have h := look_mem h
  simp only [elL, List.mem_cons, List.not_mem_nil, or_false, Prod.mk.injEq] at h
  rcases h with ⟨rfl, rfl⟩ | ⟨rfl, rfl⟩
  · exact elem_of (by kernel_rfl)
  · exact elem_of (by kernel_rfl)
noncomputable abbrev ef := effOr (effOr (effOr (effAll tau okT gdT) (effI tau)) (effJ tau elL)) (effK tau elL)
theorem ef_ok : EffOk PR ef := effOr_ok (effOr_ok (effOr_ok (effAll_ok tau_ok ok_ok gd_ok) (effI_ok tau_ok)) (effJ_ok tau_ok el_ok)) (effK_ok tau_ok el_ok)
theorem mixed : PR.follows .mixedOrders = true := by kernel_rfl
/-- The body of a function. -/
def bd (f : Func) : Code := match f.body with
  | some c => c
  | none => .skip
/-- The body of the i-th loop, in the text's order (an outer one before those in it). -/
def lps : Code → List Code
  | .seq a b => lps a ++ lps b
  | .cond _ a b => lps a ++ lps b
  | .block _ c => lps c
  | .loop c => c :: lps c
  | .scope c => lps c
  | _ => []
def lp (f : Func) (i : Nat) : Code := (lps (bd f)).getD i .skip
/-- The run, and what of its end is wanted. -/
noncomputable def arunE (n : Nat) (c : Code) (s : St) (r : List Orc) : Option (AEx × St × List Orc × List Prop) := match arun PR n ef c s r with
  | some (e, s1, r1, O1) => match pre n s1 r1 with
    | (s2, r2, O2) => some (e, s2, r2, O1 ++ O2)
  | none => none
/-- One way through a piece of code. -/
theorem way {n : Nat} {c : Code} {s s' : St} {r : List Orc} {e : AEx} {O : List Prop} {Q : AEx → St → Prop} (h : arunE n c s r = some (e, s', [], O)) (hO : allP O) (hQ : Q e s') : T PR n c s Q := by
  unfold arunE at h
  split at h
  · rename_i e1 s1 r1 O1 h1
    rcases hp : pre n s1 r1 with ⟨s2, r2, O2⟩
    simp only [hp, Option.some.injEq, Prod.mk.injEq] at h
    obtain ⟨rfl, rfl, rfl, rfl⟩ := h
    obtain ⟨ha, hb⟩ := allP_append hO
    refine (arun_sound ef_ok mixed c h1 ha).post (fun x y ⟨hx, hy⟩ => ?_)
    subst hx; subst hy
    exact ⟨s2, hQ, pre_sound hp hb⟩
  · cases h
/-- One way through a function. -/
theorem fn_way {f : FuncId} {fn : Func} {n : Nat} {l : List ResultVar} {args cs : List Cm} {s' : St} {r : List Orc} {O : List Prop} (hf : PR.funcs[f]? = some fn) (hname : (fn.name == "runtime.NumGoroutine") = false) (hb : fn.body = some (bd fn))
    (hl : fn.results = l.toArray) (hn : fn.ntmps = n) (hargs : Nat.ble args.length n = true) (h : arunE n (bd fn) ⟨st0 0 args, []⟩ r = some (.r, s', [], O)) (hres : resA tau s' l = some cs) (hO : allP O) : Fn PR f args (resAV cs) :=
  Fn_of_T tau_ok hf hname hb hl hn hargs (way h hO ⟨.inl rfl, hres⟩)
/-- A loop's outcome. -/
theorem loop_of {n : Nat} {c : Code} {e : AEx} {s s' : St} (I : Nat → St → Prop) (m : Nat) (h0 : I m s) (h : ∀ m s, I m s → T PR n c s (fun x y => (x = .n ∧ ∃ m', m' < m ∧ I m' y) ∨ (x ≠ .n ∧ x = e ∧ y = s'))) : LoopT PR n c s e s' :=
  T.loop I h m s h0

/-! ### Short forms for the printed walks -/
def rgs : Code → List (Array Oper)
  | .seq a b => rgs a ++ rgs b
  | .cond _ a b => rgs a ++ rgs b
  | .block _ c => rgs c
  | .loop c => rgs c
  | .scope c => rgs c
  | .region _ ops _ => [ops]
  | _ => []
def opr (f : Func) (i j : Nat) : Oper := (((rgs (bd f)).getD i #[]).toList).getD j default
abbrev fnv (f : Nat) : AV := .c (.sc (.v (.func (.func f) #[] #[])))
def callP (o : Oper) (f : Nat) (args : List Cm) (res : AV) : Prop := OpOk PR o (fnv f :: args.map .c) [] ⟨o.dst, res, none, false⟩
def isCall (o : Oper) : Bool := match o.op with
  | .call c => match c.callee with
    | .value _ => true
    | _ => false
  | _ => false
theorem callP_of {f : Nat} {args : List Cm} {res : AV} {o : Oper} (h : Fn PR f args res) (hres : ∀ d, res.has d = false) (ho : isCall o = true) : callP o f args res := by
  unfold isCall at ho
  split at ho
  · rename_i c hc
    split at ho
    · rename_i x hx
      exact OpOk_call h hres hc hx []
    · cases ho
  · cases ho
inductive EqL {α : Type} : List (Nat × α) → List (Nat × α) → Prop where
  | nil : EqL [] []
  | cons {i : Nat} {x y : α} {l l' : List (Nat × α)} (h : x = y) (t : EqL l l') : EqL ((i, x) :: l) ((i, y) :: l')
theorem EqL.eq {α : Type} {l l' : List (Nat × α)} (h : EqL l l') : l = l' := by
  induction h with
  | nil => rfl
  | cons h _ ih => rw [h, ih]
theorem ent_eqs {n : Nat} {L L' : List (Nat × AV)} {H H' : List (Nat × Blk)} (hL : EqL L L') (hH : EqL H H') : Ent n ⟨L, H⟩ ⟨L', H'⟩ := by
  rw [hL.eq, hH.eq]; exact Ent.refl _
theorem ac {p : Prop} {l : List Prop} (h : p) (t : allP l) : allP (p :: l) := ⟨h, t⟩
theorem an : allP [] := trivial
theorem not_t {b : Bool} (h : b = false) : (!b) = true := by rw [h]; rfl
theorem not_f {b : Bool} (h : b = true) : (!b) = false := by rw [h]; rfl
theorem and_t {a b : Bool} (h : a = true) (k : b = true) : (a && b) = true := by rw [h, k]; rfl
theorem and_fl {a b : Bool} (h : a = false) : (a && b) = false := by rw [h]; rfl
theorem and_fr {a b : Bool} (k : b = false) : (a && b) = false := by rw [k, Bool.and_false]
theorem bif_t {c x y d : Bool} (h : c = true) (k : x = d) : (bif c then x else y) = d := by rw [h]; exact k
theorem bif_f {c x y d : Bool} (h : c = false) (k : y = d) : (bif c then x else y) = d := by rw [h]; exact k
theorem w64_def (n : Int) : IntKind.i64.wrap n = (n + 9223372036854775808) % 18446744073709551616 - 9223372036854775808 := by
  simp [IntKind.wrap, IntKind.bits, IntKind.signed]; omega
theorem u64_def (n : Int) : IntKind.u64.wrap n = n % 18446744073709551616 := by simp [IntKind.wrap, IntKind.bits, IntKind.signed]
theorem w8_def (n : Int) : IntKind.u8.wrap n = n % 256 := by simp [IntKind.wrap, IntKind.bits, IntKind.signed]
theorem w64_of {n : Int} (h0 : -9223372036854775808 ≤ n) (h1 : n ≤ 9223372036854775807) : IntKind.i64.wrap n = n := by rw [w64_def]; omega
end Go.Proofs.Ytbbakacfhajohaa.Av

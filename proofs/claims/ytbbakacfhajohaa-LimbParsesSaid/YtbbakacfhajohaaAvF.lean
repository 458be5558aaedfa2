/- What single operations do in the abstract run: addresses, parts, memory. -/
import Derived.Test.YtbbakacfhajohaaAvE
namespace Go.Proofs.Ytbbakacfhajohaa.Av
open Go.RowKit

section
variable {P : Program} {tau : Tau}

/-! ### Signs and kinds -/
def effUn (op : UnOp) (dst : Option Nat) : List AV → Eff
  | [.c (.sc (.v (.int k x)))] => match op with
    | .neg => out dst (iv k (k.wrap (0 - x))) []
    | .xor => out dst (iv k (bits .xor k (if k.signed then -1 else k.max) x)) []
    | _ => none
  | [.c (.sc (.v (.bool x)))] => match op with
    | .not => out dst (bv (!x)) []
    | _ => none
  | _ => none
theorem un_ok {o : Oper} {op : UnOp} {t : TypeId} {p : Operand} (ho : o.op = .unOp op t p) {args : List AV} {bl : List (Nat × Blk)} {d : Dl} {O : List Prop} (h : effUn op o.dst args = some (d, O)) : OpOk P o args bl { d with dst := o.dst } := by
  unfold effUn at h
  split at h
  · rename_i k x
    split at h
    · cases h
      refine OpOk_pure (fun E W ev hR => ?_)
      rw [ho] at hR
      obtain ⟨h1, _⟩ := av1 hR
      exact ⟨.int k (k.wrap (0 - x)), by simp [execOp, ho, h1, Op.unary, Op.intArith], rfl, rfl⟩
    · cases h
      refine OpOk_pure (fun E W ev hR => ?_)
      rw [ho] at hR
      obtain ⟨h1, _⟩ := av1 hR
      exact ⟨.int k (bits .xor k (if k.signed then -1 else k.max) x), by simp [execOp, ho, h1, Op.unary, Op.intBits, bits], rfl, rfl⟩
    · cases h
  · rename_i x
    split at h
    · cases h
      refine OpOk_pure (fun E W ev hR => ?_)
      rw [ho] at hR
      obtain ⟨h1, _⟩ := av1 hR
      exact ⟨.bool (!x), by simp [execOp, ho, h1, Op.unary], rfl, rfl⟩
    · cases h
  · cases h
def effConv (tau : Tau) (a b : TypeId) (dst : Option Nat) : List AV → Eff
  | [.c (.sc (.v (.int _ x)))] => match tau.und a, tau.und b with
    | some (.int _), some (.int k) => out dst (iv k (k.wrap x)) []
    | _, _ => none
  | _ => none
theorem conv_ok (ht : TauOk P tau) {o : Oper} {t u : TypeId} {p : Operand} (ho : o.op = .convert t u p) {args : List AV} {bl : List (Nat × Blk)} {d : Dl} {O : List Prop} (h : effConv tau t u o.dst args = some (d, O)) : OpOk P o args bl { d with dst := o.dst } := by
  unfold effConv at h
  split at h
  · rename_i k0 x
    split at h
    · rename_i k1 k h1 h2
      cases h
      refine OpOk_pure (fun E W ev hR => ?_)
      rw [ho] at hR
      obtain ⟨h3, _⟩ := av1 hR
      exact ⟨.int k (k.wrap x), by simp [execOp, ho, h3, convert, run_underlying (ht.und _ _ h1), run_underlying (ht.und _ _ h2), Conv.intToInt], rfl, rfl⟩
    · cases h
  · cases h
def effIface (tau : Tau) (t : TypeId) (dst : Option Nat) : List AV → Eff
  | [.c (.sc (.v x))] => match tau.und t with
    | some (.int _) => out dst (.c (.sc (.v (.iface t x)))) []
    | _ => none
  | _ => none
theorem iface_ok (ht : TauOk P tau) {o : Oper} {t : TypeId} {p : Operand} (ho : o.op = .makeInterface t p) {args : List AV} {bl : List (Nat × Blk)} {d : Dl} {O : List Prop} (h : effIface tau t o.dst args = some (d, O)) : OpOk P o args bl { d with dst := o.dst } := by
  unfold effIface at h
  split at h
  · rename_i x
    split at h
    · rename_i k h1
      cases h
      refine OpOk_pure (fun E W ev hR => ?_)
      rw [ho] at hR
      obtain ⟨h3, _⟩ := av1 hR
      exact ⟨.iface t x, by simp [execOp, ho, h3, Instr.makeInterface, run_underlying (ht.und _ _ h1)], rfl, rfl⟩
    · cases h
  · cases h
/-! ### Parts of tuples and structs -/
def nthC : List Cm → Nat → Option Cm
  | [], _ => none
  | x :: _, 0 => some x
  | _ :: l, i + 1 => nthC l i
theorem nthC_R {E : En} {W : World} : ∀ {l : List Cm} {us : List Value} {i : Nat} {x : Cm}, cmsR E W l us → nthC l i = some x → ∃ u, us[i]? = some u ∧ x.R E W u
  | [], _, _, _, _, h => by simp [nthC] at h
  | y :: l, us, 0, x, ⟨u, vs, e, h1, _⟩, h => by subst e; cases h; exact ⟨u, rfl, h1⟩
  | y :: l, us, i + 1, x, ⟨u, vs, e, _, h2⟩, h => by subst e; exact nthC_R (i := i) h2 h
def effExtract (i : Nat) (dst : Option Nat) : List AV → Eff
  | [.tu l] => match nthC l i with
    | some x => out dst (.c x) []
    | none => none
  | _ => none
theorem extract_ok {o : Oper} {p : Operand} {i : Nat} (ho : o.op = .extract p i) {args : List AV} {bl : List (Nat × Blk)} {d : Dl} {O : List Prop} (h : effExtract i o.dst args = some (d, O)) : OpOk P o args bl { d with dst := o.dst } := by
  unfold effExtract at h
  split at h
  · rename_i l
    split at h
    · rename_i x hx
      cases h
      refine OpOk_pure (fun E W ev hR => ?_)
      rw [ho] at hR
      obtain ⟨us, h1, h2⟩ := av1 hR
      obtain ⟨u, h3, h4⟩ := nthC_R h2 hx
      exact ⟨u, by simp [execOp, ho, h1, Instr.extract, h3], h4⟩
    · cases h
  · cases h
def effNil (dst : Option Nat) : List AV → Eff
  | [.c (.sc (.p id off))] => out dst (.c (.sc (.p id off))) []
  | _ => none
theorem nil_ok {o : Oper} {p : Operand} (ho : o.op = .nilCheck p) {args : List AV} {bl : List (Nat × Blk)} {d : Dl} {O : List Prop} (h : effNil o.dst args = some (d, O)) : OpOk P o args bl { d with dst := o.dst } := by
  unfold effNil at h
  split at h
  · rename_i id off
    cases h
    refine OpOk_pure (fun E W ev hR => ?_)
    rw [ho] at hR
    have h1 := av1 hR
    have h2 : ev p = .pointer (some ⟨E.rho id, off, none⟩) := h1
    exact ⟨ev p, by simp [execOp, ho, h2], h1⟩
  · cases h
def fieldOf (tau : Tau) (t : TypeId) (f : Nat) : Option Field := match tau.und t with
  | some (.struct fs) => fs[f]?
  | _ => none
def effFieldAddr (tau : Tau) (t : TypeId) (f : Nat) (dst : Option Nat) : List AV → Eff
  | [.c (.sc (.p id off))] => match fieldOf tau t f with
    | some fd => match tau.size fd.type with
      | some (_ + 1) => out dst (.c (.sc (.p id (off + fd.offset)))) []
      | _ => none
    | none => none
  | _ => none
theorem fieldAddr_ok (ht : TauOk P tau) {o : Oper} {t : TypeId} {p : Operand} {f : Nat} (ho : o.op = .fieldAddr t p f) {args : List AV} {bl : List (Nat × Blk)} {d : Dl} {O : List Prop} (h : effFieldAddr tau t f o.dst args = some (d, O)) : OpOk P o args bl { d with dst := o.dst } := by
  unfold effFieldAddr at h
  split at h
  · rename_i id off
    split at h
    · rename_i fd hf
      split at h
      · rename_i m hs
        cases h
        refine OpOk_pure (fun E W ev hR => ?_)
        rw [ho] at hR
        have h2 : ev p = .pointer (some ⟨E.rho id, off, none⟩) := av1 hR
        obtain ⟨i, hi, hsz⟩ := ht.size _ _ hs
        unfold fieldOf at hf
        split at hf
        · rename_i fs hfs
          refine ⟨.pointer (some ⟨E.rho id, off + fd.offset, none⟩), ?_, rfl⟩
          simp [execOp, ho, h2, Instr.fieldAt, run_underlying (ht.und _ _ hfs), hf, Instr.sureAddr, fieldPlace, sizeOf, typeInfo, hi, hsz, addr_add]
        · cases hf
      · cases h
    · cases h
  · cases h
def effField (tau : Tau) (t : TypeId) (f : Nat) (dst : Option Nat) : List AV → Eff
  | [.c (.ag l)] => match fieldOf tau t f with
    | some fd => match splitS l fd.offset with
      | some (_, r) => match tau.size fd.type, tau.agg fd.type with
        | some m, some true => match splitS r m with
          | some (x, _) => out dst (.c (.ag x)) []
          | none => none
        | some _, some false => match r with
          | .one x :: _ => out dst (.c (.sc x)) []
          | _ => none
        | _, _ => none
      | none => none
    | none => none
  | _ => none
theorem field_ok (ht : TauOk P tau) {o : Oper} {t : TypeId} {p : Operand} {f : Nat} (ho : o.op = .field t p f) {args : List AV} {bl : List (Nat × Blk)} {d : Dl} {O : List Prop} (h : effField tau t f o.dst args = some (d, O)) : OpOk P o args bl { d with dst := o.dst } := by
  unfold effField at h
  split at h
  · rename_i l
    split at h
    · rename_i fd hf
      unfold fieldOf at hf
      split at hf
      · rename_i fs hfs
        split at h
        · rename_i a r hsp
          obtain ⟨rfl, hoff⟩ := splitS_spec hsp
          split at h
          · rename_i m hs hag
            split at h
            · rename_i x b hsp2
              obtain ⟨rfl, hm⟩ := splitS_spec hsp2
              cases h
              refine OpOk_pure (fun E W ev hR => ?_)
              rw [ho] at hR
              obtain ⟨us, h1, h2⟩ := av1 hR
              obtain ⟨ua, ur, rfl, hua, hur⟩ := segsR_split h2
              obtain ⟨ux, ub, rfl, hux, hub⟩ := segsR_split hur
              obtain ⟨i, hi, hsz⟩ := ht.size _ _ hs
              refine ⟨.agg ux.toArray, ?_, ⟨ux, rfl, hux⟩⟩
              have e1 : fd.offset = ua.length := by rw [segsR_size hua, hoff]
              have e2 : i.size = ux.length := by rw [segsR_size hux, hm, hsz]
              have e3 : (ua ++ (ux ++ ub)).toArray.extract ua.length (ua.length + ux.length) = ux.toArray := by
                rw [List.extract_toArray, List.extract_eq_take_drop]
                simp
              simp only [execOp, ho, h1, Instr.field, Sem.run_bind, run_underlying (ht.und _ _ hfs), Result.andThen_ok, hf, part, ht.isAgg hag, asAgg, Sem.run_pure, if_true, sizeOf, typeInfo, run_program, hi, e1, e2, e3]
            · cases h
          · rename_i m hs hag
            split at h
            · rename_i x b
              cases h
              refine OpOk_pure (fun E W ev hR => ?_)
              rw [ho] at hR
              obtain ⟨us, h1, h2⟩ := av1 hR
              obtain ⟨ua, ur, rfl, hua, hur⟩ := segsR_split h2
              obtain ⟨u1, ub, rfl, ⟨u, rfl, hu⟩, hub⟩ := hur
              refine ⟨u, ?_, hu⟩
              have e1 : fd.offset = ua.length := by rw [segsR_size hua, hoff]
              have e3 : (ua ++ ([u] ++ ub)).toArray[fd.offset]? = some u := by
                rw [e1]; simp
              simp only [execOp, ho, h1, Instr.field, Sem.run_bind, run_underlying (ht.und _ _ hfs), Result.andThen_ok, hf, part, ht.isAgg hag, asAgg, Sem.run_pure, Bool.false_eq_true, if_false, e3]
            · cases h
          · cases h
        · cases h
      · cases hf
    · cases h
  · cases h
/-! ### Elements -/
def sbyte (s : ByteArray) (j : Int) : Int := ((s.data.toList.getD j.toNat 0).toNat : Int)
def effIndexAddr (tau : Tau) (t : TypeId) (dst : Option Nat) : List AV → Eff
  | [.c (.sc (.p id off)), .c (.sc (.v (.int _ j)))] => match tau.und t with
    | some (.array n e) => match tau.size e with
      | some 1 => out dst (.c (.sc (.e id off n j))) [0 ≤ j ∧ j < (n : Int)]
      | _ => none
    | _ => none
  | [.c (.sc (.rs k ws)), .c (.sc (.v (.int _ j)))] => match tau.und t with
    | some (.slice e) => match tau.size e with
      | some 1 => out dst (.c (.sc (.re k ws j))) [0 ≤ j ∧ j < (ws.length : Int)]
      | _ => none
    | _ => none
  | [.c (.sc (.os id n)), .c (.sc (.v (.int _ j)))] => match tau.und t with
    | some (.slice e) => match tau.size e with
      | some 1 => out dst (.c (.sc (.e id 0 n j))) [0 ≤ j ∧ j < (n : Int)]
      | _ => none
    | _ => none
  | _ => none
theorem indexAddr_ok (ht : TauOk P tau) {o : Oper} {t : TypeId} {p q : Operand} (ho : o.op = .indexAddr t p q) {args : List AV} {bl : List (Nat × Blk)} {d : Dl} {O : List Prop} (h : effIndexAddr tau t o.dst args = some (d, O)) (hO : allP O) :
    OpOk P o args bl { d with dst := o.dst } := by
  unfold effIndexAddr at h
  split at h
  · rename_i id off k j
    split at h
    · rename_i n e hu
      split at h
      · rename_i hs
        cases h
        obtain ⟨⟨h0, h1⟩, _⟩ := hO
        refine OpOk_pure (fun E W ev hR => ?_)
        rw [ho] at hR
        obtain ⟨g1, ⟨g2, _⟩⟩ := av2 hR
        have g1 : ev p = .pointer (some ⟨E.rho id, off, none⟩) := g1
        obtain ⟨i, hi, hsz⟩ := ht.size _ _ hs
        refine ⟨.pointer (some ⟨E.rho id, off + j.toNat, none⟩), ?_, rfl, h0, h1⟩
        simp [execOp, ho, g1, g2, Instr.indexAt, asIntOf, run_underlying (ht.und _ _ hu), Instr.sureAddr, h0, h1, sizeOf, typeInfo, hi, hsz, addr_add]
      · cases h
    · cases h
  · rename_i k ws k2 j
    split at h
    · rename_i e hu
      split at h
      · rename_i hs
        cases h
        obtain ⟨⟨h0, h1⟩, _⟩ := hO
        refine OpOk_pure (fun E W ev hR => ?_)
        rw [ho] at hR
        obtain ⟨g1, ⟨g2, _⟩⟩ := av2 hR
        obtain ⟨i, hi, hsz⟩ := ht.size _ _ hs
        rcases g1 with ⟨rfl, _⟩ | ⟨b, off, cap, g1, gc, gb, gx⟩
        · simp at h1; omega
        · refine ⟨.pointer (some ⟨b, off + j.toNat, none⟩), ?_, b, off, rfl, h0, h1, gb, gx⟩
          simp [execOp, ho, g1, g2, Instr.indexAt, asIntOf, run_underlying (ht.und _ _ hu), h0, h1, sizeOf, typeInfo, hi, hsz, addr_add]
      · cases h
    · cases h
  · rename_i id n k2 j
    split at h
    · rename_i e hu
      split at h
      · rename_i hs
        cases h
        obtain ⟨⟨h0, h1⟩, _⟩ := hO
        refine OpOk_pure (fun E W ev hR => ?_)
        rw [ho] at hR
        obtain ⟨g1, ⟨g2, _⟩⟩ := av2 hR
        obtain ⟨i, hi, hsz⟩ := ht.size _ _ hs
        simp only [AV.R, Cm.R, Sc.R] at g1
        cases hc : E.cap id with
        | none => rw [hc] at g1; obtain ⟨_, rfl⟩ := g1; simp at h1; omega
        | some c =>
          rw [hc] at g1
          refine ⟨.pointer (some ⟨E.rho id, 0 + j.toNat, none⟩), ?_, rfl, h0, h1⟩
          simp [execOp, ho, g1, g2, Instr.indexAt, asIntOf, run_underlying (ht.und _ _ hu), h0, h1, sizeOf, typeInfo, hi, hsz, addr_add]
      · cases h
    · cases h
  · cases h
def effIndex (tau : Tau) (t : TypeId) (dst : Option Nat) : List AV → Eff
  | [.c (.ag [.row k n ws]), .c (.sc (.v (.int _ j)))] => match tau.und t with
    | some (.array m e) => match Nat.beq n m, tau.size e, tau.agg e with
      | true, some 1, some false => out dst (iv k (ws.getD j.toNat 0)) [0 ≤ j ∧ j < (n : Int)]
      | _, _, _ => none
    | _ => none
  | [.c (.sc (.v (.string s))), .c (.sc (.v (.int _ j)))] => match tau.und t with
    | some .string => out dst (iv .u8 (sbyte s j)) [0 ≤ j ∧ j < (s.size : Int)]
    | _ => none
  | _ => none
theorem map_get {k : IntKind} {ws : List Int} {j : Nat} (h : j < ws.length) : (ws.map (Value.int k))[j]? = some (.int k (ws.getD j 0)) := by
  simp [List.getD, List.getElem?_eq_getElem h]
theorem sbyte_get {s : ByteArray} {j : Int} (h0 : 0 ≤ j) (h1 : j < (s.size : Int)) : s[j.toNat]? = some (s[j.toNat]'(by omega)) ∧ ((s[j.toNat]'(by omega)).toNat : Int) = sbyte s j := by
  have hj : j.toNat < s.size := by omega
  refine ⟨?_, ?_⟩
  · simp [getElem?_pos, hj]
  · unfold sbyte
    have : j.toNat < s.data.toList.length := by simpa using hj
    simp only [List.getD, List.getElem?_eq_getElem this, Option.getD_some]
    rfl
theorem index_ok (ht : TauOk P tau) {o : Oper} {t : TypeId} {p q : Operand} (ho : o.op = .index t p q) {args : List AV} {bl : List (Nat × Blk)} {d : Dl} {O : List Prop} (h : effIndex tau t o.dst args = some (d, O)) (hO : allP O) :
    OpOk P o args bl { d with dst := o.dst } := by
  unfold effIndex at h
  split at h
  · rename_i k n ws k2 j
    split at h
    · rename_i m e hu
      split at h
      · rename_i hnm hs hag
        cases h
        obtain ⟨⟨h0, h1⟩, _⟩ := hO
        obtain rfl := Nat.eq_of_beq_eq_true hnm
        refine OpOk_pure (fun E W ev hR => ?_)
        rw [ho] at hR
        obtain ⟨g1, ⟨g2, _⟩⟩ := av2 hR
        obtain ⟨us, g1, u1, u2, e1, ⟨rfl, hlen⟩, e2⟩ := g1
        simp only [segsR] at e2
        subst e2
        subst e1
        obtain ⟨i, hi, hsz⟩ := ht.size _ _ hs
        have hj : j.toNat < ws.length := by omega
        refine ⟨.int k (ws.getD j.toNat 0), ?_, rfl, rfl⟩
        have hget : (ws.map (Value.int k) ++ []).toArray[j.toNat * i.size]? = some (.int k (ws.getD j.toNat 0)) := by
          rw [hsz, Nat.mul_one, List.append_nil, List.getElem?_toArray]; exact map_get hj
        have e0 : (execOp ev o) = (do pure (.value (← Instr.index t (ev p) (ev q)))) := by simp only [execOp, ho]
        rw [e0]
        simp only [Instr.index, g1, g2, asIntOf, Sem.run_bind, Sem.run_pure, Result.andThen_ok, run_underlying (ht.und _ _ hu), if_pos (And.intro h0 h1), sizeOf, typeInfo, run_program, hi, part, ht.isAgg hag, Bool.false_eq_true, if_false, hget]
      · cases h
    · cases h
  · rename_i s k2 j
    split at h
    · rename_i hu
      cases h
      obtain ⟨⟨h0, h1⟩, _⟩ := hO
      refine OpOk_pure (fun E W ev hR => ?_)
      rw [ho] at hR
      obtain ⟨⟨g1, _⟩, ⟨g2, _⟩⟩ := av2 hR
      obtain ⟨b1, b2⟩ := sbyte_get h0 h1
      refine ⟨.int .u8 (sbyte s j), ?_, rfl, rfl⟩
      have e0 : (execOp ev o) = (do pure (.value (← Instr.index t (ev p) (ev q)))) := by simp only [execOp, ho]
      rw [e0]
      simp only [Instr.index, g1, g2, asIntOf, Sem.run_bind, Sem.run_pure, Result.andThen_ok, run_underlying (ht.und _ _ hu), if_pos h0, b1, b2]
    · cases h
  · cases h
/-! ### Lengths -/
def effLen (tau : Tau) (t : TypeId) (dst : Option Nat) : List AV → Eff
  | [.c (.sc (.v (.string s)))] => match tau.und t with
    | some .string => out dst (iv .i64 (s.size : Int)) []
    | _ => none
  | [.c (.sc (.rs _ ws))] => match tau.und t with
    | some (.slice _) => out dst (iv .i64 (ws.length : Int)) []
    | _ => none
  | [.c (.sc (.os _ n))] => match tau.und t with
    | some (.slice _) => out dst (iv .i64 (n : Int)) []
    | _ => none
  | [.c (.ag _)] => match tau.und t with
    | some (.array n _) => out dst (iv .i64 (n : Int)) []
    | _ => none
  | _ => none
def effMM (b : Builtin) (dst : Option Nat) : List AV → Eff
  | [.c (.sc (.v (.int k x))), .c (.sc (.v (.int _ y)))] => match b with
    | .max => out dst (iv k (if y > x then y else x)) []
    | .min => out dst (iv k (if y < x then y else x)) []
    | _ => none
  | _ => none
def effCall (tau : Tau) (c : Call) (dst : Option Nat) (args : List AV) : Eff := match c.callee with
  | .builtin .len => match c.argTypes.toList with
    | [t] => effLen tau t dst args
    | _ => none
  | .builtin .max => effMM .max dst args
  | .builtin .min => effMM .min dst args
  | _ => none
theorem exec_builtin {o : Oper} {c : Call} {b : Builtin} (ho : o.op = .call c) (hc : c.callee = .builtin b) (ev : Operand → Value) : execOp ev o = builtin b c.argTypes o.type (c.args.map fun | .const _ => true | _ => false) (c.args.map ev) := by
  simp only [execOp, ho, resolve, hc, invoke]
  rfl
theorem call_ok (ht : TauOk P tau) {o : Oper} {c : Call} (ho : o.op = .call c) {args : List AV} {bl : List (Nat × Blk)} {d : Dl} {O : List Prop} (h : effCall tau c o.dst args = some (d, O)) : OpOk P o args bl { d with dst := o.dst } := by
  have argsEv : ∀ (b : Builtin), c.callee = .builtin b → ∀ (ev : Operand → Value), o.op.operands.toList.map ev = (c.args.map ev).toList := by
    intro b hc ev
    rw [ho]
    simp [Op.operands, Call.operands, hc]
  have aEq : ∀ (ev : Operand → Value) (l : List Value), (c.args.map ev).toList = l → c.args.map ev = l.toArray := fun ev l h => by rw [← h]
  unfold effCall at h
  split at h
  · rename_i hc
    split at h
    · rename_i t hts
      have hts' : c.argTypes = #[t] := by rw [← Array.toArray_toList (xs := c.argTypes), hts]
      unfold effLen at h
      split at h
      · rename_i s
        split at h
        · rename_i hu
          cases h
          refine OpOk_pure (fun E W ev hR => ?_)
          rw [argsEv _ hc] at hR
          obtain ⟨u, us, e, ⟨g1, _⟩, e2⟩ := hR
          simp only [avsR] at e2
          rw [e2, g1] at e
          exact ⟨.int .i64 s.size, by rw [exec_builtin ho hc, aEq ev _ e, hts']; simp [builtin, Builtin.len_, run_underlying (ht.und _ _ hu), goInt], rfl, rfl⟩
        · cases h
      · rename_i k ws
        split at h
        · rename_i el hu
          cases h
          refine OpOk_pure (fun E W ev hR => ?_)
          rw [argsEv _ hc] at hR
          obtain ⟨u, us, e, g1, e2⟩ := hR
          simp only [avsR] at e2
          rw [e2] at e
          refine ⟨.int .i64 ws.length, ?_, rfl, rfl⟩
          rcases g1 with ⟨rfl, rfl⟩ | ⟨b, off, cap, rfl, _⟩
          · rw [exec_builtin ho hc, aEq ev _ e, hts']; simp [builtin, Builtin.len_, run_underlying (ht.und _ _ hu), goInt]
          · rw [exec_builtin ho hc, aEq ev _ e, hts']; simp [builtin, Builtin.len_, run_underlying (ht.und _ _ hu), goInt]
        · cases h
      · rename_i id n
        split at h
        · rename_i el hu
          cases h
          refine OpOk_pure (fun E W ev hR => ?_)
          rw [argsEv _ hc] at hR
          obtain ⟨u, us, e, g1, e2⟩ := hR
          simp only [avsR] at e2
          rw [e2] at e
          refine ⟨.int .i64 n, ?_, rfl, rfl⟩
          simp only [AV.R, Cm.R, Sc.R] at g1
          cases hcap : E.cap id with
          | none =>
            rw [hcap] at g1
            obtain ⟨rfl, rfl⟩ := g1
            rw [exec_builtin ho hc, aEq ev _ e, hts']; simp [builtin, Builtin.len_, run_underlying (ht.und _ _ hu), goInt]
          | some cp =>
            rw [hcap] at g1
            obtain rfl := g1
            rw [exec_builtin ho hc, aEq ev _ e, hts']; simp [builtin, Builtin.len_, run_underlying (ht.und _ _ hu), goInt]
        · cases h
      · rename_i l
        split at h
        · rename_i n el hu
          cases h
          refine OpOk_pure (fun E W ev hR => ?_)
          rw [argsEv _ hc] at hR
          obtain ⟨u, us, e, g1, e2⟩ := hR
          simp only [avsR] at e2
          rw [e2] at e
          obtain ⟨vs, rfl, _⟩ := g1
          exact ⟨.int .i64 n, by rw [exec_builtin ho hc, aEq ev _ e, hts']; simp [builtin, Builtin.len_, run_underlying (ht.und _ _ hu), goInt], rfl, rfl⟩
        · cases h
      · cases h
    · cases h
  · rename_i hc
    unfold effMM at h
    split at h
    · rename_i k x k2 y
      cases h
      refine OpOk_pure (fun E W ev hR => ?_)
      rw [argsEv _ hc] at hR
      obtain ⟨u, us, e, ⟨g1, _⟩, v, vs, e3, ⟨g2, _⟩, e2⟩ := hR
      simp only [avsR] at e2
      rw [e3, e2, g1, g2] at e
      exact ⟨.int k (if y > x then y else x), by rw [exec_builtin ho hc, aEq ev _ e]; simp [builtin, Builtin.max_, Builtin.max2, List.foldlM], rfl, rfl⟩
    · cases h
  · rename_i hc
    unfold effMM at h
    split at h
    · rename_i k x k2 y
      cases h
      refine OpOk_pure (fun E W ev hR => ?_)
      rw [argsEv _ hc] at hR
      obtain ⟨u, us, e, ⟨g1, _⟩, v, vs, e3, ⟨g2, _⟩, e2⟩ := hR
      simp only [avsR] at e2
      rw [e3, e2, g1, g2] at e
      exact ⟨.int k (if y < x then y else x), by rw [exec_builtin ho hc, aEq ev _ e]; simp [builtin, Builtin.min_, Builtin.min2, List.foldlM], rfl, rfl⟩
    · cases h
  · cases h
end
end Go.Proofs.Ytbbakacfhajohaa.Av

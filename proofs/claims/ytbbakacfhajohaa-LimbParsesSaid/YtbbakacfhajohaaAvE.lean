/- What single operations do in the abstract run, and that they do it. -/
import Derived.Test.YtbbakacfhajohaaAvD
namespace Go.Proofs.Ytbbakacfhajohaa.Av
open Go.RowKit

abbrev iv (k : IntKind) (n : Int) : AV := .c (.sc (.v (.int k n)))
abbrev bv (b : Bool) : AV := .c (.sc (.v (.bool b)))
abbrev sv (s : ByteArray) : AV := .c (.sc (.v (.string s)))
abbrev Eff := Option (Dl × List Prop)
def out (dst : Option Nat) (x : AV) (O : List Prop) : Eff := some (⟨dst, x, none, false⟩, O)

/-- The row of segments, parted at a place. -/
def splitS : List Seg → Nat → Option (List Seg × List Seg)
  | l, 0 => some ([], l)
  | [], _ + 1 => none
  | g :: l, k + 1 => match Nat.ble g.size (k + 1) with
    | false => none
    | true => match splitS l (k + 1 - g.size) with
      | some (a, b) => some (g :: a, b)
      | none => none
theorem splitS_spec : ∀ {l : List Seg} {k : Nat} {a b : List Seg}, splitS l k = some (a, b) → l = a ++ b ∧ segsSize a = k
  | l, 0, a, b, h => by
    cases l <;> (simp only [splitS, Option.some.injEq, Prod.mk.injEq] at h; obtain ⟨rfl, rfl⟩ := h; exact ⟨rfl, rfl⟩)
  | [], k + 1, a, b, h => by simp [splitS] at h
  | g :: l, k + 1, a, b, h => by
    simp only [splitS] at h
    split at h
    · cases h
    · rename_i hle
      split at h
      · rename_i a' b' h'
        cases h
        obtain ⟨rfl, h2⟩ := splitS_spec h'
        have := Nat.le_of_ble_eq_true hle
        exact ⟨rfl, by simp only [segsSize]; omega⟩
      · cases h

section
variable {P : Program} {tau : Tau}
theorem OpOk_pure {o : Oper} {args : List AV} {bl : List (Nat × Blk)} {val : AV} (h : ∀ (E : En) (W : World) (ev : Operand → Value), avsR E W args (o.op.operands.toList.map ev) → ∃ u, (execOp ev o).run P W = .ok (.value u) W ∧ val.R E W u) :
    OpOk P o args bl ⟨o.dst, val, none, false⟩ := by
  intro C n E s a W Q hS hargs _ _ hn _
  obtain ⟨u, hu, hR⟩ := h E W a.eval hargs
  unfold Oper.wp
  rw [hu]
  exact ⟨E, hS.pure hn rfl (fun _ => hR)⟩
theorem av1 {E : En} {W : World} {x : AV} {u : Value} (h : avsR E W [x] [u]) : x.R E W u := by
  obtain ⟨v, vs, e, h1, _⟩ := h; cases e; exact h1
theorem av2 {E : En} {W : World} {x y : AV} {u v : Value} (h : avsR E W [x, y] [u, v]) : x.R E W u ∧ y.R E W v := by
  obtain ⟨_, _, e, h1, _, _, e2, h2, _⟩ := h; cases e; cases e2; exact ⟨h1, h2⟩
theorem av3 {E : En} {W : World} {x y z : AV} {u v w : Value} (h : avsR E W [x, y, z] [u, v, w]) : x.R E W u ∧ y.R E W v ∧ z.R E W w := by
  obtain ⟨_, _, e, h1, _, _, e2, h2, _, _, e3, h3, _⟩ := h; cases e; cases e2; cases e3; exact ⟨h1, h2, h3⟩

/-! ### Moves -/
def effMove (dst : Option Nat) : List AV → Eff
  | [x] => out dst x []
  | _ => none
theorem move_ok {o : Oper} {x : Operand} (ho : o.op = .move x ∨ o.op = .assign x) {args : List AV} {bl : List (Nat × Blk)} {d : Dl} {O : List Prop} (h : effMove o.dst args = some (d, O)) : OpOk P o args bl { d with dst := o.dst } := by
  unfold effMove at h
  split at h
  · rename_i y
    cases h
    refine OpOk_pure (fun E W ev hR => ?_)
    rcases ho with ho | ho <;>
    · rw [ho] at hR
      exact ⟨ev x, by simp [execOp, ho], av1 hR⟩
  · cases h

/-! ### Choices of a value -/
def effPick (dst : Option Nat) : List AV → Eff
  | [.c (.sc (.v (.bool c))), .c (.sc (.v (.bool x))), .c (.sc (.v (.bool y)))] => out dst (bv (bif c then x else y)) []
  | [.c (.sc (.v (.bool c))), .c x, .un] => out dst (.c x) [c = true]
  | [.c (.sc (.v (.bool c))), .un, .c y] => out dst (.c y) [c = false]
  | _ => none
theorem pick_ok {o : Oper} {p q r : Operand} (ho : o.op = .pick p q r) {args : List AV} {bl : List (Nat × Blk)} {d : Dl} {O : List Prop} (h : effPick o.dst args = some (d, O)) (hO : allP O) : OpOk P o args bl { d with dst := o.dst } := by
  unfold effPick at h
  split at h
  · rename_i c x y
    cases h
    refine OpOk_pure (fun E W ev hR => ?_)
    rw [ho] at hR
    obtain ⟨⟨h1, _⟩, ⟨h2, _⟩, ⟨h3, _⟩⟩ := av3 hR
    refine ⟨.bool (bif c then x else y), ?_, rfl, rfl⟩
    cases c <;> simp [execOp, ho, h1, h2, h3, asBool]
  · rename_i c x
    cases h
    refine OpOk_pure (fun E W ev hR => ?_)
    rw [ho] at hR
    obtain ⟨⟨h1, _⟩, h2, h3⟩ := av3 hR
    refine ⟨ev q, ?_, h2⟩
    rw [hO.1] at h1
    simp [execOp, ho, h1, asBool]
  · rename_i c y
    cases h
    refine OpOk_pure (fun E W ev hR => ?_)
    rw [ho] at hR
    obtain ⟨⟨h1, _⟩, h2, h3⟩ := av3 hR
    refine ⟨ev r, ?_, h3⟩
    rw [hO.1] at h1
    simp [execOp, ho, h1, asBool]
  · cases h

/-! ### Numbers -/
def isC : Operand → Bool
  | .const _ => true
  | _ => false
def effBin (tau : Tau) (op : BinOp) (t : TypeId) (nc : Bool) (dst : Option Nat) : List AV → Eff
  | [.c (.sc (.v (.int k x))), .c (.sc (.v (.int k' y)))] => match op with
    | .shl => out dst (iv k (k.wrap (x * 2 ^ (min y.toNat k.bits)))) [0 ≤ y]
    | .shr => out dst (iv k (x.fdiv (2 ^ (min y.toNat k.bits)))) [0 ≤ y]
    | _ => match decide (k = k') with
      | false => none
      | true => match op with
        | .add => out dst (iv k (k.wrap (x + y))) []
        | .sub => out dst (iv k (k.wrap (x - y))) []
        | .mul => out dst (iv k (k.wrap (x * y))) []
        | .quo => out dst (iv k (k.wrap (x.tdiv y))) [y ≠ 0]
        | .rem => out dst (iv k (x.tmod y)) [y ≠ 0]
        | .and => out dst (iv k (bits .and k x y)) []
        | .or => out dst (iv k (bits .or k x y)) []
        | .xor => out dst (iv k (bits .xor k x y)) []
        | .andNot => out dst (iv k (bits .andNot k x y)) []
        | .eql => out dst (bv (x == y)) []
        | .neq => out dst (bv (x != y)) []
        | .lss => out dst (bv (decide (x < y))) []
        | .leq => out dst (bv (decide (x ≤ y))) []
        | .gtr => out dst (bv (decide (x > y))) []
        | .geq => out dst (bv (decide (x ≥ y))) []
        | _ => none
  | [.c (.sc (.v (.bool x))), .c (.sc (.v (.bool y)))] => match tau.und t with
    | some .bool => match op with
      | .eql => out dst (bv (x == y)) []
      | .neq => out dst (bv (!(x == y))) []
      | _ => none
    | _ => none
  | [.c (.sc (.v (.string x))), .c (.sc (.v (.string y)))] => match op with
    | .add => out dst (sv (x ++ y)) [((x.size + y.size : Nat) : Int) ≤ 9223372036854775807]
    | .eql => out dst (bv (x.toList == y.toList)) []
    | .neq => out dst (bv (!(x.toList == y.toList))) []
    | _ => none
  | [.c (.sc (.v .nilIface)), .c (.sc (.v .nilIface))] => match tau.und t, nc with
    | some (.interface _), true => match op with
      | .eql => out dst (bv true) []
      | .neq => out dst (bv false) []
      | _ => none
    | _, _ => none
  | [.c (.sc (.v (.iface _ _))), .c (.sc (.v .nilIface))] => match tau.und t with
    | some (.interface _) => match op with
      | .eql => out dst (bv false) []
      | .neq => out dst (bv true) []
      | _ => none
    | _ => none
  | _ => none
theorem kind_ne {k k' : IntKind} (h : decide (k = k') = true) : k = k' := of_decide_eq_true h
theorem equalIn_nn (d : Nat) {t : TypeId} {ms : Array (String × TypeId)} (h : P.underlying t = some (.interface ms)) (W : World) : (Op.equalIn (d + 1) t .nilIface .nilIface).run P W = .ok true W := by
  simp [Op.equalIn, run_underlying h]
theorem equalIn_in (d : Nat) {t ti : TypeId} {x : Value} {ms : Array (String × TypeId)} (h : P.underlying t = some (.interface ms)) (W : World) : (Op.equalIn (d + 1) t (.iface ti x) .nilIface).run P W = .ok false W := by
  simp [Op.equalIn, run_underlying h]
theorem eqGuard_nil (op : BinOp) (t : TypeId) (p q : Operand) (h : (isC p || isC q) = true) (W : World) : (eqGuard op t p q .nilIface .nilIface).run P W = .ok () W := by
  cases p <;> cases q <;> first
    | (simp [isC] at h; done)
    | (cases op <;> simp [eqGuard]; done)
theorem bin_ok (ht : TauOk P tau) {o : Oper} {op : BinOp} {t u : TypeId} {p q : Operand} (ho : o.op = .binOp op t p q u) {args : List AV} {bl : List (Nat × Blk)} {d : Dl} {O : List Prop} (h : effBin tau op t (isC p || isC q) o.dst args = some (d, O)) (hO : allP O) :
    OpOk P o args bl { d with dst := o.dst } := by
  have key : ∀ (val : AV) (u : Value), (∀ (W : World) (ev : Operand → Value) (E : En), avsR E W args [ev p, ev q] → (do eqGuard op t p q (ev p) (ev q); binOp op t (ev p) (ev q) : Sem Value).run P W = .ok u W) → (∀ E W, val.R E W u) → OpOk P o args bl ⟨o.dst, val, none, false⟩ := by
    intro val u h1 h2
    refine OpOk_pure (fun E W ev hR => ?_)
    rw [ho] at hR
    refine ⟨u, ?_, h2 E W⟩
    have := h1 W ev E (by simpa [Op.operands] using hR)
    simp only [execOp, ho, Sem.run_bind] at this ⊢
    simp only [this, Result.andThen_ok, Sem.run_pure]
  unfold effBin at h
  split at h
  · rename_i k x k' y
    have fin : ∀ (val : AV) (u : Value), (∀ W : World, (binOp op t (.int k x) (.int k' y)).run P W = .ok u W) → (∀ E W, val.R E W u) → OpOk P o [.c (.sc (.v (.int k x))), .c (.sc (.v (.int k' y)))] bl ⟨o.dst, val, none, false⟩ := by
      intro val u h1 h2
      refine key val u (fun W ev E hR => ?_) h2
      obtain ⟨⟨e1, _⟩, ⟨e2, _⟩⟩ := av2 hR
      rw [e1, e2]
      have : ∀ W : World, (eqGuard op t p q (.int k x) (.int k' y)).run P W = .ok () W := by
        intro W; cases op <;> simp [eqGuard]
      simp only [Sem.run_bind, this, Result.andThen_ok, h1]
    split at h
    · cases h
      refine fin _ (.int k (k.wrap (x * 2 ^ (min y.toNat k.bits)))) (fun W => ?_) (fun _ _ => ⟨rfl, rfl⟩)
      have : ¬ y < 0 := by have := hO.1; omega
      simp [binOp, Op.shift, this]
    · cases h
      refine fin _ (.int k (x.fdiv (2 ^ (min y.toNat k.bits)))) (fun W => ?_) (fun _ _ => ⟨rfl, rfl⟩)
      have : ¬ y < 0 := by have := hO.1; omega
      simp [binOp, Op.shift, this]
    · split at h
      · cases h
      · rename_i hk
        obtain rfl := kind_ne hk
        split at h <;> first
          | (cases h; refine fin _ (.int k _) (fun W => ?_) (fun _ _ => ⟨rfl, rfl⟩); simp [binOp, Op.intArith, Op.intBits, bits]; done)
          | (cases h; refine fin _ (.int k _) (fun W => ?_) (fun _ _ => ⟨rfl, rfl⟩); simp [binOp, Op.intDiv, hO.1]; done)
          | (cases h; refine fin _ (.bool _) (fun W => ?_) (fun _ _ => ⟨rfl, rfl⟩); simp [binOp, Op.intCmp]; done)
          | (cases h; done)
  · rename_i x y
    split at h
    · rename_i hb
      have hb := ht.und _ _ hb
      have fin : ∀ (val : AV) (u : Value), (∀ W : World, (binOp op t (.bool x) (.bool y)).run P W = .ok u W) → (∀ E W, val.R E W u) → OpOk P o [.c (.sc (.v (.bool x))), .c (.sc (.v (.bool y)))] bl ⟨o.dst, val, none, false⟩ := by
        intro val u h1 h2
        refine key val u (fun W ev E hR => ?_) h2
        obtain ⟨⟨e1, _⟩, ⟨e2, _⟩⟩ := av2 hR
        rw [e1, e2]
        have : ∀ W : World, (eqGuard op t p q (.bool x) (.bool y)).run P W = .ok () W := by
          intro W; cases op <;> simp [eqGuard]
        simp only [Sem.run_bind, this, Result.andThen_ok, h1]
      split at h
      · cases h
        refine fin _ (.bool (x == y)) (fun W => ?_) (fun _ _ => ⟨rfl, rfl⟩)
        simp only [binOp]; simp [Op.equal, Op.maxDepth, run_equalIn_bool' W 9999 t x y hb]
      · cases h
        refine fin _ (.bool (!(x == y))) (fun W => ?_) (fun _ _ => ⟨rfl, rfl⟩)
        simp only [binOp]; simp [Op.equal, Op.maxDepth, run_equalIn_bool' W 9999 t x y hb]
      · cases h
    · cases h
  · rename_i x y
    have fin : ∀ (val : AV) (u : Value), (∀ W : World, (binOp op t (.string x) (.string y)).run P W = .ok u W) → (∀ E W, val.R E W u) → OpOk P o [.c (.sc (.v (.string x))), .c (.sc (.v (.string y)))] bl ⟨o.dst, val, none, false⟩ := by
      intro val u h1 h2
      refine key val u (fun W ev E hR => ?_) h2
      obtain ⟨⟨e1, _⟩, ⟨e2, _⟩⟩ := av2 hR
      rw [e1, e2]
      have : ∀ W : World, (eqGuard op t p q (.string x) (.string y)).run P W = .ok () W := by
        intro W; cases op <;> simp [eqGuard]
      simp only [Sem.run_bind, this, Result.andThen_ok, h1]
    split at h
    · cases h
      refine fin _ (.string (x ++ y)) (fun W => ?_) (fun _ _ => ⟨rfl, rfl⟩)
      have h0 := hO.1
      have hm : IntKind.i64.max = 9223372036854775807 := rfl
      have : ¬ ((x.size + y.size : Nat) : Int) > IntKind.i64.max := by rw [hm]; omega
      simp only [binOp, Op.stringOp, if_neg this, Sem.run_pure]
    · cases h
      refine fin _ (.bool (x.toList == y.toList)) (fun W => ?_) (fun _ _ => ⟨rfl, rfl⟩)
      simp only [binOp, Op.stringOp, Sem.run_pure]
    · cases h
      refine fin _ (.bool (!(x.toList == y.toList))) (fun W => ?_) (fun _ _ => ⟨rfl, rfl⟩)
      simp only [binOp, Op.stringOp, Sem.run_pure]
    · cases h
  · split at h
    · rename_i ms hms hnc
      have hms := ht.und _ _ hms
      have fin : ∀ (val : AV) (u : Value), (∀ W : World, (binOp op t .nilIface .nilIface).run P W = .ok u W) → (∀ E W, val.R E W u) → OpOk P o [.c (.sc (.v .nilIface)), .c (.sc (.v .nilIface))] bl ⟨o.dst, val, none, false⟩ := by
        intro val u h1 h2
        refine key val u (fun W ev E hR => ?_) h2
        obtain ⟨⟨e1, _⟩, ⟨e2, _⟩⟩ := av2 hR
        rw [e1, e2]
        have : ∀ W : World, (eqGuard op t p q .nilIface .nilIface).run P W = .ok () W := by
          intro W; exact eqGuard_nil op t p q hnc W
        simp only [Sem.run_bind, this, Result.andThen_ok, h1]
      split at h
      · cases h
        refine fin _ (.bool true) (fun W => ?_) (fun _ _ => ⟨rfl, rfl⟩)
        simp only [binOp]; simp [Op.equal, Op.maxDepth, equalIn_nn 9999 hms W]
      · cases h
        refine fin _ (.bool false) (fun W => ?_) (fun _ _ => ⟨rfl, rfl⟩)
        simp only [binOp]; simp [Op.equal, Op.maxDepth, equalIn_nn 9999 hms W]
      · cases h
    · cases h
  · rename_i ti x
    split at h
    · rename_i ms hms
      have hms := ht.und _ _ hms
      have fin : ∀ (val : AV) (u : Value), (∀ W : World, (binOp op t (.iface ti x) .nilIface).run P W = .ok u W) → (∀ E W, val.R E W u) → OpOk P o [.c (.sc (.v (.iface ti x))), .c (.sc (.v .nilIface))] bl ⟨o.dst, val, none, false⟩ := by
        intro val u h1 h2
        refine key val u (fun W ev E hR => ?_) h2
        obtain ⟨⟨e1, _⟩, ⟨e2, _⟩⟩ := av2 hR
        rw [e1, e2]
        have : ∀ W : World, (eqGuard op t p q (.iface ti x) .nilIface).run P W = .ok () W := by
          intro W; cases op <;> simp [eqGuard]
        simp only [Sem.run_bind, this, Result.andThen_ok, h1]
      split at h
      · cases h
        refine fin _ (.bool false) (fun W => ?_) (fun _ _ => ⟨rfl, rfl⟩)
        simp only [binOp]; simp [Op.equal, Op.maxDepth, equalIn_in 9999 hms W]
      · cases h
        refine fin _ (.bool true) (fun W => ?_) (fun _ _ => ⟨rfl, rfl⟩)
        simp only [binOp]; simp [Op.equal, Op.maxDepth, equalIn_in 9999 hms W]
      · cases h
    · cases h
  · cases h
end
end Go.Proofs.Ytbbakacfhajohaa.Av

/- The abstract run of a function's code: regions in the text's order, whatever order is drawn; branches, blocks, exits; loops and calls by what is told of them. That it is sound is proved here, whatever the single operations are. -/
import Derived.Test.YtbbakacfhajohaaAvA
namespace Go.Proofs.Ytbbakacfhajohaa.Av
open Go.RowKit

inductive AEx where
  | n
  | x (id : Nat)
  | r
def AEx.ex : AEx → Exit
  | .n => .normal
  | .x id => .exit id
  | .r => .ret
/-- What the run is told: a test's outcome, an operation's effect, the state said otherwise, what of the state is still wanted, a loop's outcome. -/
inductive Orc where
  | b (d : Bool)
  | op (d : Dl)
  | chk (s : St)
  | cut (ls hs : List Nat)
  | rchk (k : Nat) (s : St)
  | rcut (k : Nat) (ls hs : List Nat)
  | lp (e : AEx) (s : St)

def allP : List Prop → Prop
  | [] => True
  | p :: l => p ∧ allP l
theorem allP_append : ∀ {l m : List Prop}, allP (l ++ m) → allP l ∧ allP m
  | [], _, h => ⟨trivial, h⟩
  | _ :: _, _, ⟨h1, h2⟩ => let ⟨a, b⟩ := allP_append h2; ⟨⟨h1, a⟩, b⟩

def T (P : Program) (n : Nat) (c : Code) (s : St) (Q : AEx → St → Prop) : Prop :=
  ∀ C E a W, Sat C n E s a W → c.wp P (fun e a' W' => ∃ x s' E', e = AEx.ex x ∧ Q x s' ∧ Sat C n E' s' a' W') a W
def Ent (n : Nat) (s s' : St) : Prop := ∀ C E a W, Sat C n E s a W → ∃ E', Sat C n E' s' a W
def LoopT (P : Program) (n : Nat) (c : Code) (s : St) (e : AEx) (s' : St) : Prop := T P n (.loop c) s (fun x y => x = e ∧ y = s')
def OpOk (P : Program) (o : Oper) (args : List AV) (bl : List (Nat × Blk)) (d : Dl) : Prop :=
  ∀ C n E s a W Q, Sat C n E s a W → avsR E W args (o.op.operands.toList.map a.eval) → (∀ id B, (id, B) ∈ bl → look s.H id = some B) →
    (d.fr = true → ∀ id B, d.upd = some (id, B) → s.fresh id = true) → (∀ i, o.dst = some i → i < n) → d.dst = o.dst →
    o.wp P a W (fun a' W' => ∃ E', Sat C n E' (s.put d) a' W') Q

/-- An operation told as a whole: from one state to another (only where the order is the text's). -/
def OpT (P : Program) (n : Nat) (o : Oper) (s s' : St) : Prop :=
  ∀ C E a W Q, Sat C n E s a W → o.wp P a W (fun a' W' => ∃ E', Sat C n E' s' a' W') Q

/-- The types that the run looks at. -/
structure Tau where
  und : TypeId → Option TypeDesc
  size : TypeId → Option Nat
  zero : TypeId → Option (List Seg)
def Tau.agg (tau : Tau) (t : TypeId) : Option Bool := match tau.und t with
  | some (.struct _) | some (.array _ _) => some true
  | some _ => some false
  | none => none

/-- Of what is known only what is named. -/
def restr {α : Type} (l : List (Nat × α)) : List Nat → List (Nat × α)
  | [] => []
  | i :: is => match look l i with
    | some x => (i, x) :: restr l is
    | none => restr l is
theorem restr_look {α : Type} {l : List (Nat × α)} : ∀ {is : List Nat} {i : Nat} {x : α}, look (restr l is) i = some x → look l i = some x
  | [], _, _, h => by simp [restr, look] at h
  | j :: is, i, x, h => by
    simp only [restr] at h
    split at h
    · rename_i y hy
      rw [look_cons] at h
      split at h
      · rename_i hj; subst hj; rw [← h]; exact hy
      · exact restr_look h
    · exact restr_look h
/-! ### What an operand is -/
def evalA (L : List (Nat × AV)) : Operand → Option AV
  | .tmp t => look L t
  | .const v => match v.oneCell' with
    | true => some (.c (.sc (.v v)))
    | false => none
  | .func f => some (.c (.sc (.v (.func (.func f) #[] #[]))))
  | .global _ => none
def evalAll (L : List (Nat × AV)) : List Operand → Option (List AV)
  | [] => some []
  | x :: l => match evalA L x with
    | none => none
    | some u => match evalAll L l with
      | none => none
      | some us => some (u :: us)
def evs (L : List (Nat × AV)) : List Operand → List (Nat × AV)
  | [] => []
  | .tmp t :: l => match look L t with
    | some u => (t, u) :: evs L l
    | none => evs L l
  | _ :: l => evs L l
def Sc.ids : Sc → List Nat
  | .p id _ | .e id _ _ _ | .os id _ | .sl id _ _ _ => [id]
  | _ => []
def segsIds : List Seg → List Nat
  | [] => []
  | .one s :: l => s.ids ++ segsIds l
  | _ :: l => segsIds l
def Cm.ids : Cm → List Nat
  | .sc s => s.ids
  | .ag l => segsIds l
def AV.ids : AV → List Nat
  | .c x => x.ids
  | _ => []
def avsIds : List AV → List Nat
  | [] => []
  | x :: l => x.ids ++ avsIds l
def blksOf (H : List (Nat × Blk)) : List Nat → List (Nat × Blk)
  | [] => []
  | i :: l => match look H i with
    | some B => (i, B) :: blksOf H l
    | none => blksOf H l

/-- The blocks that an operation may read or write through its operands. -/
def blOf (op : Op) (H : List (Nat × Blk)) (args : List AV) : List (Nat × Blk) := match op with
  | .fieldAddr _ _ _ | .indexAddr _ _ _ | .move _ | .assign _ | .nilCheck _ => []
  | _ => blksOf H (avsIds args)
/-- What was read and done by one operation. -/
structure Rec where
  ev : List (Nat × AV)
  bl : List (Nat × Blk)
  d : Dl

def Dl.id (d : Dl) : Option Nat := d.upd.map (·.1)
def freshOk (s : St) (x : Rec) : Bool := !x.d.fr || (match x.d.id with | none => true | some i => s.fresh i)
theorem freshOk_spec {s : St} {x : Rec} (h : freshOk s x = true) (hf : x.d.fr = true) : ∀ id B, x.d.upd = some (id, B) → s.fresh id = true := by
  intro id B hu
  simpa [freshOk, hf, Dl.id, hu] using h

section
variable (P : Program) (n : Nat) (eff : Op → Option Nat → List AV → List (Nat × Blk) → Option (Dl × List Prop))
def inN (n : Nat) : Option Nat → Bool
  | none => true
  | some d => Nat.blt d n
/-- The operation itself (wanted). -/
def rdo (o : Oper) (g : List (Nat × AV)) (s : St) (r : List Orc) : Option (Rec × List Orc × List Prop) :=
  match evalAll s.L o.op.operands.toList with
  | none => none
  | some args =>
    match eff o.op o.dst args (blOf o.op s.H args) with
    | some (d, O) => some (⟨g ++ evs s.L o.op.operands.toList, blOf o.op s.H args, { d with dst := o.dst }⟩, r, O)
    | none => match r with
      | .op d :: r => some (⟨g ++ evs s.L o.op.operands.toList, blOf o.op s.H args, { d with dst := o.dst }⟩, r, [OpOk P o args (blOf o.op s.H args) { d with dst := o.dst }])
      | _ => none
def rstep (ops : Array Oper) (o : Oper) (s : St) (r : List Orc) : Option (Rec × List Orc × List Prop) :=
  match inN n o.dst with
  | false => none
  | true => match o.guard with
    | none => rdo P eff o [] s r
    | some (g, want) => match (ops[g]?).bind (·.dst) with
      | none => none
      | some t => match look s.L t with
        | some .un => some (⟨[(t, .un)], [], ⟨o.dst, .un, none, false⟩⟩, r, [])
        | some (.c (.sc (.v (.bool b)))) => match r with
          | .b d :: r => match d == want with
            | true => match rdo P eff o [(t, .c (.sc (.v (.bool b))))] s r with
              | some (x, r, O) => some (x, r, (b = d) :: O)
              | none => none
            | false => some (⟨[(t, .c (.sc (.v (.bool b))))], [], ⟨o.dst, .un, none, false⟩⟩, r, [b = d])
          | _ => none
        | _ => none
def rops (ops : Array Oper) : List Oper → St → List Orc → Option (St × List Orc × List Prop × List Rec)
  | [], s, r => some (s, r, [], [])
  | o :: l, s, r => match rstep P n eff ops o s r with
    | none => none
    | some (x, r1, O1) => match freshOk s x with
      | false => none
      | true => match rops ops l (s.put x.d) r1 with
        | none => none
        | some (s2, r2, O2, xs) => some (s2, r2, O1 ++ O2, x :: xs)

/-- The operations in the text's order. -/
def rseq (ops : Array Oper) : List Oper → St → List Orc → Option (St × List Orc × List Prop)
  | [], s, r => some (s, r, [])
  | o :: l, s, r => match rstep P n eff ops o s r with
    | none => match r with
      | .lp .n s' :: r => match o.guard with
        | none => match rseq ops l s' r with
          | none => none
          | some (s2, r2, O2) => some (s2, r2, OpT P n o s s' :: O2)
        | some _ => none
      | _ => none
    | some (x, r1, O1) => match freshOk s x with
      | false => none
      | true => match rseq ops l (s.put x.d) r1 with
        | none => none
        | some (s2, r2, O2) => some (s2, r2, O1 ++ O2)

/-! ### May the order be any? -/
def memN (i : Nat) : List Nat → Bool
  | [] => false
  | j :: l => Nat.beq i j || memN i l
def keyIn {α : Type} (i : Nat) : List (Nat × α) → Bool
  | [] => false
  | (j, _) :: l => Nat.beq i j || keyIn i l
def Dl.has (d : Dl) (i : Nat) : Bool := d.val.has i || (match d.upd with | none => false | some (j, B) => Nat.beq j i || B.has i)
def oNe : Option Nat → Option Nat → Bool
  | some i, some j => !Nat.beq i j
  | _, _ => true
def apart2 (x y : Rec) : Bool :=
  (match x.d.dst with | none => true | some i => !keyIn i y.ev) &&
  (match y.d.dst with | none => true | some i => !keyIn i x.ev) &&
  oNe x.d.dst y.d.dst &&
  (match x.d.id with | none => true | some i => !keyIn i y.bl && (!x.d.fr || !y.d.has i)) &&
  (match y.d.id with | none => true | some i => !keyIn i x.bl && (!y.d.fr || !x.d.has i)) &&
  oNe x.d.id y.d.id
def waitsFor (o : Oper) (i : Nat) : Bool := o.after.toList.any fun e => Region.binds .any e && Nat.beq e.on i
/-- x (number i) against all that stand behind it (from number j on). -/
def apartAll (i : Nat) (x : Rec) : List Oper → List Rec → Bool
  | o :: os, y :: ys => (waitsFor o i || apart2 x y) && (!y.d.fr || (match y.d.id with | none => true | some t => !x.d.has t)) && apartAll i x os ys
  | _, _ => true
def ordOk (s : St) : Nat → List Oper → List Rec → Bool
  | i, o :: os, x :: xs => (o.after.toList.all fun e => !Region.binds .any e || Nat.blt e.on i) && freshOk s x && apartAll i x os xs && ordOk s (i + 1) os xs
  | _, _, _ => true

def pre : St → List Orc → St × List Orc × List Prop
  | s, .chk s' :: r => let q := pre s' r; (q.1, q.2.1, Ent n s s' :: q.2.2)
  | s, .cut ls hs :: r => pre ⟨restr s.L ls, restr s.H hs⟩ r
  | s, r => (s, r, [])
/-- The same ahead of a region or a test. -/
def preR (k : Nat) : St → List Orc → St × List Orc × List Prop
  | s, .rchk j s' :: r => match Nat.beq j k with
    | true => let q := preR k s' r; (q.1, q.2.1, Ent n s s' :: q.2.2)
    | false => (s, .rchk j s' :: r, [])
  | s, .rcut j ls hs :: r => match Nat.beq j k with
    | true => preR k ⟨restr s.L ls, restr s.H hs⟩ r
    | false => (s, .rcut j ls hs :: r, [])
  | s, r => (s, r, [])
def arun : Code → St → List Orc → Option (AEx × St × List Orc × List Prop)
  | .skip, s, r => some (.n, s, r, [])
  | .region id ops draw, s, r =>
    match preR n id s r with
    | (s0, r0, O0) => match draw with
      | false => match rseq P n eff ops ops.toList s0 r0 with
        | none => none
        | some (s1, r1, O1) => some (.n, s1, r1, O0 ++ O1)
      | true => match rops P n eff ops ops.toList s0 r0 with
        | none => none
        | some (s1, r1, O1, xs) => match ordOk s0 0 ops.toList xs with
          | true => some (.n, s1, r1, O0 ++ O1)
          | false => none
  | .seq x y, s, r => match arun x s r with
    | some (.n, s1, r1, O1) => match arun y s1 r1 with
      | some (e, s2, r2, O2) => some (e, s2, r2, O1 ++ O2)
      | none => none
    | q => q
  | .cond c x y, s, r =>
    match preR n 1000000 s r with
    | (s0, r0, O0) => match evalA s0.L c with
      | some (.c (.sc (.v (.bool b)))) => match r0 with
        | .b true :: r1 => match arun x s0 r1 with
          | some (e, s2, r2, O2) => some (e, s2, r2, O0 ++ (b = true) :: O2)
          | none => none
        | .b false :: r1 => match arun y s0 r1 with
          | some (e, s2, r2, O2) => some (e, s2, r2, O0 ++ (b = false) :: O2)
          | none => none
        | _ => none
      | _ => none
  | .block id c, s, r => match arun c s r with
    | some (.x i, s1, r1, O1) => match Nat.beq i id with
      | true => some (.n, s1, r1, O1)
      | false => some (.x i, s1, r1, O1)
    | q => q
  | .loop c, s, r =>
    match pre n s r with
    | (s0, r0, O0) => match r0 with
      | .lp e s1 :: r1 => some (e, s1, r1, O0 ++ [LoopT P n c s0 e s1])
      | _ => none
  | .exit id, s, r => some (.x id, s, r, [])
  | .ret, s, r =>
    match pre n s r with
    | (s0, r0, O0) => some (.r, s0, r0, O0)
  | _, _, _ => none
end

/-! ### It is sound -/
section
variable {P : Program} {n : Nat} {eff : Op → Option Nat → List AV → List (Nat × Blk) → Option (Dl × List Prop)}

theorem evalA_R {C : Cx} {E : En} {s : St} {a : Act} {W : World} (h : Sat C n E s a W) {x : Operand} {u : AV} (hx : evalA s.L x = some u) : u.R E W (a.eval x) := by
  cases x with
  | tmp t =>
    obtain ⟨v, h1, h2⟩ := h.slots t u hx
    simp only [Act.eval, Array.getD_eq_getD_getElem?, h1, Option.getD_some]
    exact h2
  | const v =>
    simp only [evalA] at hx
    split at hx
    · rename_i h1; cases hx; exact ⟨rfl, h1⟩
    · cases hx
  | func f => cases hx; exact ⟨rfl, rfl⟩
  | global g => cases hx
theorem evalAll_R {C : Cx} {E : En} {s : St} {a : Act} {W : World} (h : Sat C n E s a W) : ∀ {l : List Operand} {us : List AV}, evalAll s.L l = some us → avsR E W us (l.map a.eval)
  | [], us, hx => by cases hx; rfl
  | x :: l, us, hx => by
    simp only [evalAll] at hx
    split at hx
    · cases hx
    · rename_i u hu
      split at hx
      · cases hx
      · rename_i vs hv
        cases hx
        exact ⟨_, _, rfl, evalA_R h hu, evalAll_R h hv⟩
/-- The same operands, wherever the slots that are looked at hold the same. -/
theorem evalAll_congr {L L' : List (Nat × AV)} : ∀ {l : List Operand} {us : List AV}, evalAll L l = some us → (∀ t u, (t, u) ∈ evs L l → look L' t = some u) → evalAll L' l = some us
  | [], us, hx, _ => hx
  | x :: l, us, hx, h => by
    simp only [evalAll] at hx ⊢
    split at hx
    · cases hx
    · rename_i u hu
      split at hx
      · cases hx
      · rename_i vs hv
        cases hx
        have h1 : evalA L' x = some u := by
          cases x with
          | tmp t =>
            simp only [evalA] at hu ⊢
            exact h t u (by simp [evs, hu])
          | _ => exact hu
        have h2 : evalAll L' l = some vs := evalAll_congr hv (fun t u hm => h t u (by
          cases x with
          | tmp t' => simp only [evs]; split <;> simp [hm]
          | _ => exact hm))
        rw [h1, h2]
theorem blksOf_mem {H : List (Nat × Blk)} : ∀ {l : List Nat} {i : Nat} {B : Blk}, (i, B) ∈ blksOf H l → look H i = some B
  | [], _, _, h => by cases h
  | j :: l, i, B, h => by
    simp only [blksOf] at h
    split at h
    · rename_i A hA
      cases h with
      | head => exact hA
      | tail _ h => exact blksOf_mem h
    · exact blksOf_mem h
theorem blOf_mem {op : Op} {H : List (Nat × Blk)} {args : List AV} {i : Nat} {B : Blk} (h : (i, B) ∈ blOf op H args) : look H i = some B := by
  unfold blOf at h
  split at h <;> first | (cases h; done) | exact blksOf_mem h
theorem evs_mem {L : List (Nat × AV)} {l : List Operand} {t : Nat} {u : AV} (h : (t, u) ∈ evs L l) : look L t = some u := by
  induction l with
  | nil => cases h
  | cons x l ih =>
    cases x with
    | tmp t' =>
      simp only [evs] at h
      split at h
      · rename_i v hv
        cases h with
        | head => exact hv
        | tail _ h => exact ih h
      · exact ih h
    | const v => exact ih h
    | func f => exact ih h
    | global g => exact ih h

def EffOk (P : Program) (eff : Op → Option Nat → List AV → List (Nat × Blk) → Option (Dl × List Prop)) : Prop :=
  ∀ (o : Oper) args bl d O, eff o.op o.dst args bl = some (d, O) → allP O → OpOk P o args bl { d with dst := o.dst }

/-- What one operation does in whatever state holds what it reads. -/
def Fact (P : Program) (n : Nat) (ops : Array Oper) (o : Oper) (x : Rec) : Prop :=
  x.d.dst = o.dst ∧ ∀ C E s a W Q, Sat C n E s a W → (∀ t u, (t, u) ∈ x.ev → look s.L t = some u) → (∀ id B, (id, B) ∈ x.bl → look s.H id = some B) →
    (x.d.fr = true → ∀ id B, x.d.upd = some (id, B) → s.fresh id = true) →
    if Region.wanted o (yielded ops a.tmps) then o.wp P a W (fun a' W' => ∃ E', Sat C n E' (s.put x.d) a' W') Q else ∃ E', Sat C n E' (s.put x.d) (a.put o.dst undef) W

theorem fact_rdo (he : EffOk P eff) {ops : Array Oper} {o : Oper} {g : List (Nat × AV)} {s : St} {r r' : List Orc} {x : Rec} {O : List Prop} (h : rdo P eff o g s r = some (x, r', O)) (hO : allP O)
    (hn : inN n o.dst = true) (hg : ∀ C E s' a W, Sat C n E s' a W → (∀ t u, (t, u) ∈ g → look s'.L t = some u) → Region.wanted o (yielded ops a.tmps) = true) (hgs : ∀ t u, (t, u) ∈ g → look s.L t = some u) :
    Fact P n ops o x ∧ (∀ t u, (t, u) ∈ x.ev → look s.L t = some u) ∧ (∀ id B, (id, B) ∈ x.bl → look s.H id = some B) := by
  have hN : ∀ i, o.dst = some i → i < n := by
    intro i hi
    rw [hi] at hn
    simpa [inN] using hn
  have core : ∀ (args : List AV) (d : Dl), evalAll s.L o.op.operands.toList = some args → OpOk P o args (blOf o.op s.H args) { d with dst := o.dst } →
      x = ⟨g ++ evs s.L o.op.operands.toList, blOf o.op s.H args, { d with dst := o.dst }⟩ →
      Fact P n ops o x ∧ (∀ t u, (t, u) ∈ x.ev → look s.L t = some u) ∧ (∀ id B, (id, B) ∈ x.bl → look s.H id = some B) := by
    intro args d ha hok hx
    subst hx
    refine ⟨⟨rfl, ?_⟩, ?_, fun id B hm => blOf_mem hm⟩
    · intro C E s' a W Q hS hev hbl hfr
      rw [if_pos (hg C E s' a W hS (fun t u hm => hev t u (List.mem_append_left _ hm)))]
      exact hok C n E s' a W Q hS (evalAll_R hS (evalAll_congr ha (fun t u hm => hev t u (List.mem_append_right _ hm)))) hbl hfr hN rfl
    · intro t u hm
      rcases List.mem_append.1 hm with hm | hm
      · exact hgs t u hm
      · exact evs_mem hm
  simp only [rdo] at h
  split at h
  · cases h
  · rename_i args ha
    split at h
    · rename_i d O1 hd
      cases h
      exact core args d ha (he o args _ d O hd hO) rfl
    · split at h
      · cases h
        exact core args _ ha hO.1 rfl
      · cases h

theorem fact_rstep (he : EffOk P eff) {ops : Array Oper} {o : Oper} {s : St} {r r' : List Orc} {x : Rec} {O : List Prop} (h : rstep P n eff ops o s r = some (x, r', O)) (hO : allP O) :
    Fact P n ops o x ∧ (∀ t u, (t, u) ∈ x.ev → look s.L t = some u) ∧ (∀ id B, (id, B) ∈ x.bl → look s.H id = some B) := by
  simp only [rstep] at h
  split at h
  · cases h
  · rename_i hn
    have hN : ∀ i, o.dst = some i → i < n := by
      intro i hi
      rw [hi] at hn
      simpa [inN] using hn
    split at h
    · rename_i hg
      exact fact_rdo he h hO hn (fun _ _ _ _ _ _ _ => by simp [Region.wanted, hg]) (fun _ _ hm => by cases hm)
    · rename_i g want hg
      split at h
      · cases h
      · rename_i t ht
        have skip : ∀ (y : AV), look s.L t = some y → (∀ C E s' a W, Sat C n E s' a W → look s'.L t = some y → Region.wanted o (yielded ops a.tmps) = false) → x = ⟨[(t, y)], [], ⟨o.dst, .un, none, false⟩⟩ →
            Fact P n ops o x ∧ (∀ t u, (t, u) ∈ x.ev → look s.L t = some u) ∧ (∀ id B, (id, B) ∈ x.bl → look s.H id = some B) := by
          intro y hy hw hx
          subst hx
          refine ⟨⟨rfl, ?_⟩, fun t' u hm => by rw [List.mem_singleton] at hm; cases hm; exact hy, fun _ _ hm => by cases hm⟩
          intro C E s' a W Q hS hev _ _
          rw [if_neg (by rw [hw C E s' a W hS (hev t y List.mem_cons_self)]; simp)]
          exact ⟨E, hS.pure (d := ⟨o.dst, .un, none, false⟩) hN rfl (fun _ => rfl)⟩
        split at h
        · rename_i hy
          cases h
          refine skip .un hy ?_ rfl
          intro C E s' a W hS hl
          obtain ⟨u, h1, h2⟩ := hS.slots t _ hl
          obtain rfl := h2
          simp [Region.wanted, hg, yielded, ht, h1, undef]
        · rename_i b hy
          have hw : ∀ C E s' a W, Sat C n E s' a W → look s'.L t = some (.c (.sc (.v (.bool b)))) → Region.wanted o (yielded ops a.tmps) = (b == want) := by
            intro C E s' a W hS hl
            obtain ⟨u, h1, h2⟩ := hS.slots t _ hl
            obtain ⟨rfl, _⟩ := h2
            simp [Region.wanted, hg, yielded, ht, h1]
          split at h
          · rename_i d r1
            split at h
            · rename_i hd
              split at h
              · rename_i y r2 O2 hr
                cases h
                have hbd : b = d := hO.1
                refine fact_rdo he hr hO.2 hn ?_ (fun t' u hm => by rw [List.mem_singleton] at hm; cases hm; exact hy)
                intro C E s' a W hS hl
                rw [hw C E s' a W hS (hl t _ List.mem_cons_self), hbd]; exact hd
              · cases h
            · rename_i hd
              cases h
              have hbd : b = d := hO.1
              refine skip _ hy ?_ rfl
              intro C E s' a W hS hl
              rw [hw C E s' a W hS hl, hbd]; exact hd
          · cases h
        · cases h

/-! A region whose order is the text's. -/
theorem wanted_none {ops : Array Oper} {o : Oper} {ts : Array Value} (h : o.guard = none) : Region.wanted o (yielded ops ts) = true := by simp [Region.wanted, h]
theorem rseq_list (he : EffOk P eff) {ops : Array Oper} : ∀ (l : List Oper) (s : St) (r : List Orc) (s2 : St) (r2 : List Orc) (O : List Prop),
    rseq P n eff ops l s r = some (s2, r2, O) → allP O →
    ∀ C E a W (Q : Exit → Act → World → Prop), Sat C n E s a W → (∀ E' a' W', Sat C n E' s2 a' W' → Q .normal a' W') → wpList P ops Q l a W
  | [], s, r, s2, r2, O, h, _, C, E, a, W, Q, hS, hQ => by
    cases h; exact wpList_nil (hQ E a W hS)
  | o :: l, s, r, s2, r2, O, h, hO, C, E, a, W, Q, hS, hQ => by
    simp only [rseq] at h
    split at h
    · split at h
      · rename_i s' r'
        split at h
        · rename_i hg
          split at h
          · cases h
          · rename_i s3 r3 O3 hr
            cases h
            have hop := hO.1 C E a W Q hS
            refine wpList_step (fun K hK => ?_)
            rw [if_pos (wanted_none hg)]
            exact Oper.wp_mono (fun a' W' ⟨E', hS'⟩ => hK a' W' (rseq_list he l _ _ _ _ O3 hr hO.2 C E' a' W' Q hS' hQ)) hop
        · cases h
      · cases h
    · rename_i x r1 O1 hx
      split at h
      · cases h
      · rename_i hfr
        split at h
        · cases h
        · rename_i s3 r3 O3 hr
          cases h
          obtain ⟨hO1, hO2⟩ := allP_append hO
          obtain ⟨⟨_, hf⟩, hev, hbl⟩ := fact_rstep he hx hO1
          have hf := hf C E s a W Q hS hev hbl (freshOk_spec hfr)
          have ih : ∀ E' a' W', Sat C n E' (s.put x.d) a' W' → wpList P ops Q l a' W' := fun E' a' W' hS' =>
            rseq_list he l (s.put x.d) r1 _ _ O3 hr hO2 C E' a' W' Q hS' hQ
          refine wpList_step (fun K hK => ?_)
          split
          · rename_i hw
            rw [if_pos hw] at hf
            exact Oper.wp_mono (fun a' W' ⟨E', hS'⟩ => hK a' W' (ih E' a' W' hS')) hf
          · rename_i hw
            rw [if_neg hw] at hf
            obtain ⟨E', hS'⟩ := hf
            exact hK _ _ (ih E' _ _ hS')
/-- The lexical facts, one for each operation. -/
theorem rops_facts (he : EffOk P eff) {ops : Array Oper} : ∀ (l : List Oper) (s : St) (r : List Orc) (s2 : St) (r2 : List Orc) (O : List Prop) (xs : List Rec),
    rops P n eff ops l s r = some (s2, r2, O, xs) → allP O →
    xs.length = l.length ∧ s2 = xs.foldl (fun s x => s.put x.d) s ∧ ∀ i o x, l[i]? = some o → xs[i]? = some x → Fact P n ops o x ∧ (∀ t u, (t, u) ∈ x.ev → look ((xs.take i).foldl (fun s x => s.put x.d) s).L t = some u) ∧ (∀ id B, (id, B) ∈ x.bl → look ((xs.take i).foldl (fun s x => s.put x.d) s).H id = some B)
  | [], s, r, s2, r2, O, xs, h, _ => by
    cases h
    exact ⟨rfl, rfl, fun i o x h => by simp at h⟩
  | o :: l, s, r, s2, r2, O, xs, h, hO => by
    simp only [rops] at h
    split at h
    · cases h
    · rename_i x r1 O1 hx
      split at h
      · cases h
      · split at h
        · cases h
        · rename_i s3 r3 O3 ys hr
          cases h
          obtain ⟨hO1, hO2⟩ := allP_append hO
          obtain ⟨h1, h2, h3⟩ := rops_facts he l (s.put x.d) r1 _ _ O3 ys hr hO2
          refine ⟨by simp [h1], by rw [h2]; rfl, ?_⟩
          intro i o' x' ho hx'
          cases i with
          | zero =>
            simp only [List.getElem?_cons_zero, Option.some.injEq] at ho hx'
            subst ho; subst hx'
            exact fact_rstep he hx hO1
          | succ i => exact h3 i o' x' (by simpa using ho) (by simpa using hx')
end
end Go.Proofs.Ytbbakacfhajohaa.Av

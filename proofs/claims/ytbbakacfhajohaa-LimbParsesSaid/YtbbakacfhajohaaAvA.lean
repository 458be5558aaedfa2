/- Abstract values, abstract states, what a state says of a frame and of the memory, and how that is kept. No program in sight. -/
import Derived.WalkKit
import Derived.KernelRfl
namespace Go.Proofs.Ytbbakacfhajohaa.Av
open Go.RowKit

/-- One cell: a value as it stands, an address of a block of the call's own (by the block's name), of an element of a row in one, a slice that is only read, an element of it, a slice of the call's own. -/
inductive Sc where
  | v (x : Value)
  | p (id off : Nat)
  | e (id off n : Nat) (j : Int)
  | rs (k : IntKind) (ws : List Int)
  | re (k : IntKind) (ws : List Int) (j : Int)
  | os (id n : Nat)
  | sl (id off n c : Nat)
  | ee (t : TypeId) (c : Int)
  | junk
/-- Cells side by side: one cell, or a row of numbers. -/
inductive Seg where
  | one (s : Sc)
  | row (k : IntKind) (n : Nat) (ws : List Int)
inductive Cm where
  | sc (s : Sc)
  | ag (l : List Seg)
inductive AV where
  | c (x : Cm)
  | tu (l : List Cm)
  | un
/-- A block of the call's own: written out, or a row that grows. -/
inductive Blk where
  | sg (t : TypeId) (l : List Seg)
  | gr (t : TypeId) (k : IntKind) (ws : List Int)
  | dead
structure St where
  L : List (Nat × AV)
  H : List (Nat × Blk)
structure En where
  rho : Nat → Nat
  cap : Nat → Option Nat
  ro : Nat → Prop

/-- An error by its number; 0: none. -/
def eeV (t : TypeId) (c : Int) : Value := bif c == 0 then .nilIface else .iface t (.int .i64 c)
theorem eeV_one (t : TypeId) (c : Int) : (eeV t c).oneCell' = true := by unfold eeV; cases c == 0 <;> rfl

def look {α : Type} : List (Nat × α) → Nat → Option α
  | [], _ => none
  | (i, x) :: l, j => match Nat.beq i j with
    | true => some x
    | false => look l j
theorem look_same {α : Type} (i : Nat) (x : α) (l : List (Nat × α)) : look ((i, x) :: l) i = some x := by simp [look]
theorem look_ne {α : Type} {i j : Nat} (x : α) (l : List (Nat × α)) (h : i ≠ j) : look ((i, x) :: l) j = look l j := by
  have : Nat.beq i j = false := by
    cases hb : Nat.beq i j with
    | false => rfl
    | true => exact absurd (Nat.eq_of_beq_eq_true hb) h
  simp [look, this]
theorem look_cons {α : Type} (i j : Nat) (x : α) (l : List (Nat × α)) : look ((i, x) :: l) j = if i = j then some x else look l j := by
  by_cases h : i = j
  · subst h; rw [look_same, if_pos rfl]
  · rw [look_ne x l h, if_neg h]
theorem look_mem {α : Type} {l : List (Nat × α)} {i : Nat} {x : α} (h : look l i = some x) : (i, x) ∈ l := by
  induction l with
  | nil => simp [look] at h
  | cons p l ih =>
    obtain ⟨j, y⟩ := p
    rw [look_cons] at h
    split at h
    · rename_i hj; subst hj; cases h; exact List.mem_cons_self
    · exact List.mem_cons_of_mem _ (ih h)

def RoS (E : En) (W : World) (k : IntKind) (ws : List Int) (u : Value) : Prop :=
  (ws = [] ∧ u = .slice none 0 0) ∨
  ∃ b off cap, u = .slice (some ⟨b, off, none⟩) ws.length cap ∧ ws.length ≤ cap ∧ E.ro b ∧ ∀ i x, ws[i]? = some x → W.cell? ⟨b, off + i, none⟩ = some (.int k x)

def Sc.R (E : En) (W : World) : Sc → Value → Prop
  | .v x, u => u = x ∧ x.oneCell' = true
  | .p id off, u => u = .pointer (some ⟨E.rho id, off, none⟩)
  | .e id off n j, u => u = .pointer (some ⟨E.rho id, off + j.toNat, none⟩) ∧ 0 ≤ j ∧ j < n
  | .rs k ws, u => RoS E W k ws u
  | .re k ws j, u => ∃ b off, u = .pointer (some ⟨b, off + j.toNat, none⟩) ∧ 0 ≤ j ∧ j < ws.length ∧ E.ro b ∧ ∀ i x, ws[i]? = some x → W.cell? ⟨b, off + i, none⟩ = some (.int k x)
  | .sl id off n c, u => u = .slice (some ⟨E.rho id, off, none⟩) n c
  | .os id n, u => match E.cap id with
    | none => u = .slice none 0 0 ∧ n = 0
    | some c => u = .slice (some ⟨E.rho id, 0, none⟩) n c
  | .ee t c, u => u = eeV t c
  | .junk, u => u.oneCell' = true

theorem Sc.R_one {E : En} {W : World} {s : Sc} {u : Value} (h : s.R E W u) : u.oneCell' = true := by
  cases s with
  | v x => obtain ⟨rfl, h⟩ := h; exact h
  | p id off => obtain rfl := h; rfl
  | e id off n j => obtain ⟨rfl, _⟩ := h; rfl
  | rs k ws => rcases h with ⟨_, rfl⟩ | ⟨b, off, cap, rfl, _⟩ <;> rfl
  | re k ws j => obtain ⟨b, off, rfl, _⟩ := h; rfl
  | sl id off n c => obtain rfl := h; rfl
  | os id n =>
    simp only [Sc.R] at h
    cases hc : E.cap id with
    | none => rw [hc] at h; obtain ⟨rfl, _⟩ := h; rfl
    | some c => rw [hc] at h; subst h; rfl
  | ee t c => obtain rfl := h; exact eeV_one t c
  | junk => exact h

def Seg.R (E : En) (W : World) : Seg → List Value → Prop
  | .one s, us => ∃ u, us = [u] ∧ s.R E W u
  | .row k n ws, us => us = ws.map (Value.int k) ∧ ws.length = n
def Seg.size : Seg → Nat
  | .one _ => 1
  | .row _ n _ => n
theorem Seg.R_size {E : En} {W : World} {g : Seg} {us : List Value} (h : g.R E W us) : us.length = g.size := by
  cases g with
  | one s => obtain ⟨u, rfl, _⟩ := h; rfl
  | row k n ws => obtain ⟨rfl, h⟩ := h; simpa [Seg.size] using h
theorem Seg.R_one {E : En} {W : World} {g : Seg} {us : List Value} (h : g.R E W us) : ∀ u ∈ us, u.oneCell' = true := by
  cases g with
  | one s => obtain ⟨u, rfl, h⟩ := h; intro u hu; rw [List.mem_singleton] at hu; subst hu; exact Sc.R_one h
  | row k n ws => obtain ⟨rfl, _⟩ := h; intro u hu; obtain ⟨x, _, rfl⟩ := List.mem_map.1 hu; rfl

def segsR (E : En) (W : World) : List Seg → List Value → Prop
  | [], us => us = []
  | g :: l, us => ∃ a b, us = a ++ b ∧ g.R E W a ∧ segsR E W l b
def segsSize : List Seg → Nat
  | [] => 0
  | g :: l => g.size + segsSize l
theorem segsR_size {E : En} {W : World} : ∀ {l : List Seg} {us : List Value}, segsR E W l us → us.length = segsSize l
  | [], us, h => by simp only [segsR] at h; subst h; rfl
  | g :: l, us, h => by
    obtain ⟨a, b, rfl, h1, h2⟩ := h
    rw [List.length_append, Seg.R_size h1, segsR_size h2]; rfl
theorem segsR_one {E : En} {W : World} : ∀ {l : List Seg} {us : List Value}, segsR E W l us → ∀ u ∈ us, u.oneCell' = true
  | [], us, h => by simp only [segsR] at h; subst h; intro u hu; cases hu
  | g :: l, us, h => by
    obtain ⟨a, b, rfl, h1, h2⟩ := h
    intro u hu
    rcases List.mem_append.1 hu with hu | hu
    · exact Seg.R_one h1 u hu
    · exact segsR_one h2 u hu
theorem segsR_append {E : En} {W : World} : ∀ {l m : List Seg} {a b : List Value}, segsR E W l a → segsR E W m b → segsR E W (l ++ m) (a ++ b)
  | [], m, a, b, h1, h2 => by simp only [segsR] at h1; subst h1; exact h2
  | g :: l, m, a, b, h1, h2 => by
    obtain ⟨x, y, rfl, hx, hy⟩ := h1
    exact ⟨x, y ++ b, by simp, hx, segsR_append hy h2⟩
theorem segsR_split {E : En} {W : World} : ∀ {l m : List Seg} {us : List Value}, segsR E W (l ++ m) us → ∃ a b, us = a ++ b ∧ segsR E W l a ∧ segsR E W m b
  | [], m, us, h => ⟨[], us, rfl, rfl, h⟩
  | g :: l, m, us, h => by
    obtain ⟨a, b, rfl, h1, h2⟩ := h
    obtain ⟨c, d, rfl, h3, h4⟩ := segsR_split h2
    exact ⟨a ++ c, d, by simp, ⟨a, c, rfl, h1, h3⟩, h4⟩

def Cm.R (E : En) (W : World) : Cm → Value → Prop
  | .sc s, u => s.R E W u
  | .ag l, u => ∃ us, u = .agg us.toArray ∧ segsR E W l us
/-- The cells of a component. -/
def Cm.segs : Cm → List Seg
  | .sc s => [.one s]
  | .ag l => l
theorem one_cells {u : Value} (h : u.oneCell' = true) : u.cells = #[u] := by cases u <;> first | rfl | (simp [Value.oneCell'] at h)
theorem Cm.R_cells {E : En} {W : World} {x : Cm} {u : Value} (h : x.R E W u) : ∃ us, u.cells = us.toArray ∧ segsR E W x.segs us := by
  cases x with
  | sc s => exact ⟨[u], by rw [one_cells (Sc.R_one h)], ⟨[u], [], rfl, ⟨u, rfl, h⟩, rfl⟩⟩
  | ag l => obtain ⟨us, rfl, h⟩ := h; exact ⟨us, rfl, h⟩
def cmsR (E : En) (W : World) : List Cm → List Value → Prop
  | [], us => us = []
  | x :: l, us => ∃ u vs, us = u :: vs ∧ x.R E W u ∧ cmsR E W l vs
def AV.R (E : En) (W : World) : AV → Value → Prop
  | .c x, u => x.R E W u
  | .tu l, u => ∃ us, u = .tuple us.toArray ∧ cmsR E W l us
  | .un, u => u = undef
def avsR (E : En) (W : World) : List AV → List Value → Prop
  | [], us => us = []
  | x :: l, us => ∃ u vs, us = u :: vs ∧ x.R E W u ∧ avsR E W l vs

/-! The names that something speaks of. -/
def Sc.has (d : Nat) : Sc → Bool
  | .p id _ | .e id _ _ _ | .os id _ | .sl id _ _ _ => Nat.beq id d
  | _ => false
def Seg.has (d : Nat) : Seg → Bool
  | .one s => s.has d
  | .row _ _ _ => false
def segsHas (d : Nat) : List Seg → Bool
  | [] => false
  | g :: l => g.has d || segsHas d l
def Cm.has (d : Nat) : Cm → Bool
  | .sc s => s.has d
  | .ag l => segsHas d l
def cmsHas (d : Nat) : List Cm → Bool
  | [] => false
  | x :: l => x.has d || cmsHas d l
def AV.has (d : Nat) : AV → Bool
  | .c x => x.has d
  | .tu l => cmsHas d l
  | .un => false
def Blk.has (d : Nat) : Blk → Bool
  | .sg _ l => segsHas d l
  | _ => false
def lHas (d : Nat) : List (Nat × AV) → Bool
  | [] => false
  | (_, x) :: l => x.has d || lHas d l
def hHas (d : Nat) : List (Nat × Blk) → Bool
  | [] => false
  | (i, x) :: l => Nat.beq i d || x.has d || hHas d l
/-- Nothing in the state speaks of block d. -/
def St.fresh (s : St) (d : Nat) : Bool := !lHas d s.L && !hHas d s.H

theorem lHas_mem {d : Nat} : ∀ {l : List (Nat × AV)} {i : Nat} {x : AV}, lHas d l = false → (i, x) ∈ l → x.has d = false
  | [], _, _, _, h => by cases h
  | (j, y) :: l, i, x, h, hm => by
    simp only [lHas, Bool.or_eq_false_iff] at h
    cases hm with
    | head => exact h.1
    | tail _ hm => exact lHas_mem h.2 hm
theorem hHas_mem {d : Nat} : ∀ {l : List (Nat × Blk)} {i : Nat} {x : Blk}, hHas d l = false → (i, x) ∈ l → i ≠ d ∧ x.has d = false
  | [], _, _, _, h => by cases h
  | (j, y) :: l, i, x, h, hm => by
    simp only [hHas, Bool.or_eq_false_iff] at h
    cases hm with
    | head => exact ⟨fun e => by subst e; simp at h, h.1.2⟩
    | tail _ hm => exact hHas_mem h.2 hm

/-! What is kept from one moment to a later one. 'A': the names for which place and reach are as they were. -/
structure Kp (A : Nat → Prop) (E : En) (W : World) (E' : En) (W' : World) : Prop where
  rho : ∀ id, A id → E'.rho id = E.rho id
  cap : ∀ id, A id → E'.cap id = E.cap id
  ro : ∀ b, E.ro b → E'.ro b
  mem : ∀ b, E.ro b → W'.heap[b]? = W.heap[b]?

section
variable {A : Nat → Prop} {E E' : En} {W W' : World}
theorem Kp.cell (h : Kp A E W E' W') {b o : Nat} (hb : E.ro b) : W'.cell? ⟨b, o, none⟩ = W.cell? ⟨b, o, none⟩ := by
  simp only [World.cell?, h.mem b hb]
theorem Sc.kept (h : Kp A E W E' W') {s : Sc} {u : Value} (hs : s.R E W u) (ha : ∀ d, s.has d = true → A d) : s.R E' W' u := by
  cases s with
  | v x => exact hs
  | p id off => simp only [Sc.R] at hs ⊢; rw [h.rho id (ha id (by simp [Sc.has]))]; exact hs
  | e id off n j => simp only [Sc.R] at hs ⊢; rw [h.rho id (ha id (by simp [Sc.has]))]; exact hs
  | rs k ws =>
    rcases hs with hs | ⟨b, off, cap, hu, hc, hb, hx⟩
    · exact .inl hs
    · exact .inr ⟨b, off, cap, hu, hc, h.ro b hb, fun i x hi => by rw [h.cell hb]; exact hx i x hi⟩
  | re k ws j =>
    obtain ⟨b, off, hu, h0, h1, hb, hx⟩ := hs
    exact ⟨b, off, hu, h0, h1, h.ro b hb, fun i x hi => by rw [h.cell hb]; exact hx i x hi⟩
  | sl id off n c => simp only [Sc.R] at hs ⊢; rw [h.rho id (ha id (by simp [Sc.has]))]; exact hs
  | os id n =>
    simp only [Sc.R] at hs ⊢
    rw [h.rho id (ha id (by simp [Sc.has])), h.cap id (ha id (by simp [Sc.has]))]
    exact hs
  | ee t c => exact hs
  | junk => exact hs
theorem Seg.kept (h : Kp A E W E' W') {g : Seg} {us : List Value} (hs : g.R E W us) (ha : ∀ d, g.has d = true → A d) : g.R E' W' us := by
  cases g with
  | one s => obtain ⟨u, rfl, hs⟩ := hs; exact ⟨u, rfl, Sc.kept h hs ha⟩
  | row k n ws => exact hs
theorem segs_kept (h : Kp A E W E' W') : ∀ {l : List Seg} {us : List Value}, segsR E W l us → (∀ d, segsHas d l = true → A d) → segsR E' W' l us
  | [], _, hs, _ => hs
  | g :: l, _, ⟨a, b, e, h1, h2⟩, ha => ⟨a, b, e, Seg.kept h h1 (fun d hd => ha d (by simp [segsHas, hd])), segs_kept h h2 (fun d hd => ha d (by simp [segsHas, hd]))⟩
theorem Cm.kept (h : Kp A E W E' W') {x : Cm} {u : Value} (hs : x.R E W u) (ha : ∀ d, x.has d = true → A d) : x.R E' W' u := by
  cases x with
  | sc s => exact Sc.kept h hs ha
  | ag l => obtain ⟨us, rfl, hs⟩ := hs; exact ⟨us, rfl, segs_kept h hs ha⟩
theorem cms_kept (h : Kp A E W E' W') : ∀ {l : List Cm} {us : List Value}, cmsR E W l us → (∀ d, cmsHas d l = true → A d) → cmsR E' W' l us
  | [], _, hs, _ => hs
  | x :: l, _, ⟨u, vs, e, h1, h2⟩, ha => ⟨u, vs, e, Cm.kept h h1 (fun d hd => ha d (by simp [cmsHas, hd])), cms_kept h h2 (fun d hd => ha d (by simp [cmsHas, hd]))⟩
theorem AV.kept (h : Kp A E W E' W') {x : AV} {u : Value} (hs : x.R E W u) (ha : ∀ d, x.has d = true → A d) : x.R E' W' u := by
  cases x with
  | c x => exact Cm.kept h hs ha
  | tu l => obtain ⟨us, rfl, hs⟩ := hs; exact ⟨us, rfl, cms_kept h hs ha⟩
  | un => exact hs
end

def Blk.live (E : En) (id : Nat) : Blk → Prop
  | .sg _ _ => True
  | .gr _ _ _ => E.cap id ≠ none
  | .dead => False
def Blk.R (E : En) (W : World) (id : Nat) : Blk → Prop
  | .sg t l => ∃ us : List Value, W.heap[E.rho id]? = some (.cells us.toArray t (0, 0)) ∧ segsR E W l us
  | .gr t k ws => match E.cap id with
    | none => ws = []
    | some c => ∃ us : List Value, W.heap[E.rho id]? = some (.cells us.toArray t (0, 0)) ∧ us.length = c ∧ c ≤ maxLen ∧ ws.length ≤ c ∧ us.take ws.length = ws.map (Value.int k)
  | .dead => True
theorem Blk.kept {A : Nat → Prop} {E E' : En} {W W' : World} {id : Nat} (h : Kp A E W E' W') {B : Blk} (hB : B.R E W id) (hid : A id) (ha : ∀ d, B.has d = true → A d)
    (hm : B.live E id → W'.heap[E.rho id]? = W.heap[E.rho id]?) : B.R E' W' id := by
  cases B with
  | sg t l =>
    obtain ⟨us, h1, h2⟩ := hB
    exact ⟨us, by rw [h.rho id hid, hm trivial]; exact h1, segs_kept h h2 ha⟩
  | gr t k ws =>
    simp only [Blk.R] at hB ⊢
    rw [h.cap id hid, h.rho id hid]
    cases hc : E.cap id with
    | none => rw [hc] at hB; exact hB
    | some c => rw [hc] at hB; rw [hm (by simp [Blk.live, hc])]; exact hB
  | dead => trivial

/-- Whose world the call began in, what was only to be read there, and which of its blocks may be written. -/
structure Cx where
  w0 : World
  ro0 : Nat → Prop
  K : Nat → Prop
  fix : Nat → Option (Nat × Option Nat)
  sub : ∀ b, K b → ro0 b
/-- A call to which nothing is handed but what it may read. -/
abbrev Cx.plain (w0 : World) (ro0 : Nat → Prop) : Cx := ⟨w0, ro0, fun _ => False, fun _ => none, fun _ h => h.elim⟩
def Blk.isSg : Blk → Prop
  | .gr _ _ _ => False
  | _ => True
structure Sat (C : Cx) (n : Nat) (E : En) (s : St) (a : Act) (W : World) : Prop where
  defers : a.defers = []
  size : a.tmps.size = n
  slots : ∀ i x, look s.L i = some x → ∃ u, a.tmps[i]? = some u ∧ x.R E W u
  blks : ∀ id B, look s.H id = some B → B.R E W id
  inj : ∀ i j A B, look s.H i = some A → look s.H j = some B → A.live E i → B.live E j → E.rho i = E.rho j → i = j
  own : ∀ i A, look s.H i = some A → A.live E i → (C.w0.heap.size ≤ E.rho i ∨ C.K (E.rho i)) ∧ ¬ E.ro (E.rho i)
  ro : ∀ b, E.ro b → b < W.heap.size ∧ (C.ro0 b ∨ C.w0.heap.size ≤ b)
  os : W.os = C.w0.os
  tape : W.tape = C.w0.tape
  output : W.output = C.w0.output
  hsize : C.w0.heap.size ≤ W.heap.size
  keep : ∀ b, b < C.w0.heap.size → ¬ C.K b → W.heap[b]? = C.w0.heap[b]?
  fix : ∀ id g, C.fix id = some g → n ≤ id ∧ (E.rho id, E.cap id) = g ∧ ∀ B, look s.H id = some B → B.isSg

/-- What an operation does: the slot it writes, and at most one block. -/
structure Dl where
  dst : Option Nat
  val : AV
  upd : Option (Nat × Blk)
  fr : Bool
def St.put (s : St) (d : Dl) : St :=
  { L := match d.dst with | some i => (i, d.val) :: s.L | none => s.L
    H := match d.upd with | some u => u :: s.H | none => s.H }

section
variable {C : Cx} {n : Nat} {E : En} {s : St} {a : Act} {W : World}
theorem Sat.look_congr {s' : St} (h : Sat C n E s a W) (hL : ∀ i, look s'.L i = look s.L i) (hH : ∀ i, look s'.H i = look s.H i) : Sat C n E s' a W :=
  ⟨h.defers, h.size, fun i x hx => h.slots i x (by rw [← hL]; exact hx), fun i B hB => h.blks i B (by rw [← hH]; exact hB),
   fun i j A B hi hj => h.inj i j A B (by rw [← hH]; exact hi) (by rw [← hH]; exact hj), fun i A hi => h.own i A (by rw [← hH]; exact hi),
   h.ro, h.os, h.tape, h.output, h.hsize, h.keep, fun id g hg => ⟨(h.fix id g hg).1, (h.fix id g hg).2.1, fun B hB => (h.fix id g hg).2.2 B (by rw [← hH]; exact hB)⟩⟩
/-- A state that says less. -/
theorem Sat.less {s' : St} (h : Sat C n E s a W) (hL : ∀ i x, look s'.L i = some x → look s.L i = some x) (hH : ∀ i x, look s'.H i = some x → look s.H i = some x) : Sat C n E s' a W :=
  ⟨h.defers, h.size, fun i x hx => h.slots i x (hL _ _ hx), fun i B hB => h.blks i B (hH _ _ hB),
   fun i j A B hi hj => h.inj i j A B (hH _ _ hi) (hH _ _ hj), fun i A hi => h.own i A (hH _ _ hi),
   h.ro, h.os, h.tape, h.output, h.hsize, h.keep, fun id g hg => ⟨(h.fix id g hg).1, (h.fix id g hg).2.1, fun B hB => (h.fix id g hg).2.2 B (hH _ _ hB)⟩⟩
theorem put_tmps {dst : Option Nat} {u : Value} {i : Nat} (hn : ∀ d, dst = some d → d < a.tmps.size) :
    (a.put dst u).tmps[i]? = if dst = some i then some u else a.tmps[i]? := by
  cases dst with
  | none => simp [Act.put]
  | some d =>
    simp only [Act.put, Array.getElem?_setIfInBounds, Option.some.injEq]
    split
    · rename_i h; subst h; simp [hn d rfl]
    · rfl
/-- **The frame.** An operation that writes value u into its slot and leaves world W'. -/
theorem Sat.step {E' : En} {W' : World} {d : Dl} {u : Value} (h : Sat C n E s a W) (hn : ∀ i, d.dst = some i → i < n)
    (hu : d.dst ≠ none → d.val.R E' W' u)
    (hk : Kp (fun id => d.fr = true → some id ≠ d.upd.map (·.1)) E W E' W')
    (hfr : d.fr = true → ∀ id B, d.upd = some (id, B) → s.fresh id = true)
    (hB : ∀ id B, d.upd = some (id, B) → B.R E' W' id)
    (hown : ∀ id B, d.upd = some (id, B) → B.live E' id → (C.w0.heap.size ≤ E'.rho id ∨ C.K (E'.rho id)) ∧ ¬ E'.ro (E'.rho id))
    (hinj : ∀ id B, d.upd = some (id, B) → B.live E' id → ∀ j A, j ≠ id → look s.H j = some A → A.live E j → E.rho j ≠ E'.rho id)
    (hro : ∀ j A, look s.H j = some A → A.live E j → ¬ E'.ro (E.rho j))
    (hmem : ∀ j A, look s.H j = some A → A.live E j → (∀ id B, d.upd = some (id, B) → j ≠ id) → W'.heap[E.rho j]? = W.heap[E.rho j]?)
    (hro' : ∀ b, E'.ro b → b < W'.heap.size ∧ (C.ro0 b ∨ C.w0.heap.size ≤ b))
    (hos : W'.os = W.os) (htape : W'.tape = W.tape) (hout : W'.output = W.output) (hsz : W.heap.size ≤ W'.heap.size)
    (hkeep : ∀ b, b < C.w0.heap.size → ¬ C.K b → W'.heap[b]? = W.heap[b]?)
    (hsg : ∀ id B g, d.upd = some (id, B) → C.fix id = some g → d.fr = false ∧ B.isSg) :
    Sat C n E' (s.put d) (a.put d.dst u) W' := by
  -- the names that the old state speaks of are kept
  have hL : ∀ i x, look s.L i = some x → ∀ id, x.has id = true → (d.fr = true → some id ≠ d.upd.map (·.1)) := by
    intro i x hx id hh hf he
    cases hd : d.upd with
    | none => rw [hd] at he; simp at he
    | some q =>
      obtain ⟨id', B⟩ := q
      rw [hd] at he
      simp only [Option.map_some, Option.some.injEq] at he
      subst he
      have hs := hfr hf id B hd
      simp only [St.fresh, Bool.and_eq_true, Bool.not_eq_true'] at hs
      rw [lHas_mem hs.1 (look_mem hx)] at hh
      cases hh
  have hH : ∀ i B, look s.H i = some B → (d.fr = true → some i ≠ d.upd.map (·.1)) ∧ ∀ id, B.has id = true → (d.fr = true → some id ≠ d.upd.map (·.1)) := by
    intro i B hB'
    refine ⟨fun hf he => ?_, fun id hh hf he => ?_⟩ <;>
    · cases hd : d.upd with
      | none => rw [hd] at he; simp at he
      | some q =>
        obtain ⟨id', B'⟩ := q
        rw [hd] at he
        simp only [Option.map_some, Option.some.injEq] at he
        subst he
        have hs := hfr hf _ B' hd
        simp only [St.fresh, Bool.and_eq_true, Bool.not_eq_true'] at hs
        have := hHas_mem hs.2 (look_mem hB')
        simp_all
  have hlive : ∀ i B, look s.H i = some B → (B.live E' i ↔ B.live E i) := by
    intro i B hB'
    have hc := hk.cap i (hH i B hB').1
    cases B <;> simp [Blk.live, hc]
  refine ⟨?_, ?_, ?_, ?_, ?_, ?_, hro', hos.trans h.os, htape.trans h.tape, hout.trans h.output, Nat.le_trans h.hsize hsz, fun b hb hK => (hkeep b hb hK).trans (h.keep b hb hK), ?_⟩
  · cases hd : d.dst <;> simp [Act.put, h.defers]
  · cases hd : d.dst <;> simp [Act.put, h.size]
  · intro i x hx
    rw [put_tmps (fun j hj => by rw [h.size]; exact hn j hj)]
    by_cases hi : d.dst = some i
    · simp only [St.put, hi, look_same, Option.some.injEq] at hx
      subst hx
      exact ⟨u, by rw [if_pos hi], hu (by simp [hi])⟩
    · rw [if_neg hi]
      have hx' : look s.L i = some x := by
        cases hd : d.dst with
        | none => simpa [St.put, hd] using hx
        | some j =>
          simp only [St.put, hd] at hx
          rwa [look_ne _ _ (fun e => hi (by rw [hd, e]))] at hx
      obtain ⟨v, h1, h2⟩ := h.slots i x hx'
      exact ⟨v, h1, AV.kept hk h2 (fun id hh => hL i x hx' id hh)⟩
  · intro id B hB'
    cases hd : d.upd with
    | none =>
      simp only [St.put, hd] at hB'
      exact Blk.kept hk (h.blks id B hB') (hH id B hB').1 (hH id B hB').2 (fun hl => hmem id B hB' hl (by simp [hd]))
    | some q =>
      obtain ⟨j, B1⟩ := q
      simp only [St.put, hd] at hB'
      by_cases hj : j = id
      · subst hj
        rw [look_same] at hB'
        cases hB'
        exact hB j B hd
      · rw [look_ne _ _ hj] at hB'
        exact Blk.kept hk (h.blks id B hB') (hH id B hB').1 (hH id B hB').2 (fun hl => hmem id B hB' hl (by rw [hd]; intro i B2 he; cases he; exact fun e => hj e.symm))
  · intro i j A B hi hj hA hB' he
    cases hd : d.upd with
    | none =>
      simp only [St.put, hd] at hi hj
      exact h.inj i j A B hi hj ((hlive i A hi).1 hA) ((hlive j B hj).1 hB') (by rw [← hk.rho i (hH i A hi).1, ← hk.rho j (hH j B hj).1]; exact he)
    | some q =>
      obtain ⟨m, B1⟩ := q
      simp only [St.put, hd] at hi hj
      by_cases hmi : m = i
      · subst hmi
        by_cases hmj : m = j
        · exact hmj
        · rw [look_same] at hi; cases hi
          rw [look_ne _ _ hmj] at hj
          exact absurd (by rw [← hk.rho j (hH j B hj).1]; exact he.symm) (hinj m A hd hA j B (fun e => hmj e.symm) hj ((hlive j B hj).1 hB'))
      · rw [look_ne _ _ hmi] at hi
        by_cases hmj : m = j
        · subst hmj
          rw [look_same] at hj; cases hj
          exact absurd (by rw [← hk.rho i (hH i A hi).1]; exact he) (hinj m B hd hB' i A (fun e => hmi e.symm) hi ((hlive i A hi).1 hA))
        · rw [look_ne _ _ hmj] at hj
          exact h.inj i j A B hi hj ((hlive i A hi).1 hA) ((hlive j B hj).1 hB') (by rw [← hk.rho i (hH i A hi).1, ← hk.rho j (hH j B hj).1]; exact he)
  · intro i A hi hA
    cases hd : d.upd with
    | none =>
      simp only [St.put, hd] at hi
      have := h.own i A hi ((hlive i A hi).1 hA)
      rw [hk.rho i (hH i A hi).1]
      exact ⟨this.1, hro i A hi ((hlive i A hi).1 hA)⟩
    | some q =>
      obtain ⟨m, B1⟩ := q
      simp only [St.put, hd] at hi
      by_cases hmi : m = i
      · subst hmi; rw [look_same] at hi; cases hi
        exact hown m A hd hA
      · rw [look_ne _ _ hmi] at hi
        have := h.own i A hi ((hlive i A hi).1 hA)
        rw [hk.rho i (hH i A hi).1]
        exact ⟨this.1, hro i A hi ((hlive i A hi).1 hA)⟩
  · intro id g hg
    obtain ⟨f1, f2, f3⟩ := h.fix id g hg
    cases hd : d.upd with
    | none =>
      refine ⟨f1, by rw [hk.rho id (by simp [hd]), hk.cap id (by simp [hd]), f2], fun B hB' => f3 B ?_⟩
      simpa [St.put, hd] using hB'
    | some q =>
      obtain ⟨m, B1⟩ := q
      by_cases hmi : m = id
      · subst hmi
        obtain ⟨g1, g2⟩ := hsg m B1 g hd hg
        refine ⟨f1, by rw [hk.rho m (by simp [g1]), hk.cap m (by simp [g1]), f2], fun B hB' => ?_⟩
        simp only [St.put, hd, look_same, Option.some.injEq] at hB'
        subst hB'; exact g2
      · refine ⟨f1, by rw [hk.rho id (by rw [hd]; intro _ e; simp only [Option.map_some, Option.some.injEq] at e; exact hmi e.symm), hk.cap id (by rw [hd]; intro _ e; simp only [Option.map_some, Option.some.injEq] at e; exact hmi e.symm), f2], fun B hB' => f3 B ?_⟩
        simp only [St.put, hd] at hB'
        rwa [look_ne _ _ hmi] at hB'
/-- An operation that writes its slot alone. -/
theorem Sat.pure {d : Dl} {u : Value} (h : Sat C n E s a W) (hn : ∀ i, d.dst = some i → i < n) (hup : d.upd = none) (hu : d.dst ≠ none → d.val.R E W u) : Sat C n E (s.put d) (a.put d.dst u) W :=
  h.step hn hu ⟨fun _ _ => rfl, fun _ _ => rfl, fun _ h => h, fun _ _ => rfl⟩ (by simp [hup]) (by simp [hup]) (by simp [hup]) (by simp [hup])
    (fun j A hj hl => (h.own j A hj hl).2) (fun _ _ _ _ _ => rfl) h.ro rfl rfl rfl (Nat.le_refl _) (fun _ _ _ => rfl) (by simp [hup])
theorem Kp.drew (E : En) (W : World) : Kp (fun _ => True) E W E W.drew := ⟨fun _ _ => rfl, fun _ _ => rfl, fun _ h => h, fun _ _ => rfl⟩
theorem Sat.drew (h : Sat C n E s a W) : Sat C n E s a W.drew :=
  ⟨h.defers, h.size, fun i x hx => let ⟨u, h1, h2⟩ := h.slots i x hx; ⟨u, h1, AV.kept (Kp.drew E W) h2 (fun _ _ => trivial)⟩,
   fun i B hB => Blk.kept (Kp.drew E W) (h.blks i B hB) trivial (fun _ _ => trivial) (fun _ => rfl), h.inj, h.own, h.ro, h.os, h.tape, h.output, h.hsize, h.keep, h.fix⟩
end
end Go.Proofs.Ytbbakacfhajohaa.Av

import Derived.WalkKit
import Derived.KernelRfl
import Derived.ChangeKeysEq
import Derived.Laws.CopyRow
import Derived.Maps.AppendAt
import Derived.Laws.BytesArg
import Derived.Lib.ConvBytes
import Derived.Laws.Slices
import Derived.Laws.Strings2
namespace Go.Proofs.YtbbakacfhajohaaGreat.Av
open Go.RowKit
inductive Sc where
  | v (x : Value)
  | p (id off : Nat)
  | e (id off n : Nat) (j : Int)
  | rs (k : IntKind) (ws : List Int)
  | re (k : IntKind) (ws : List Int) (j : Int)
  | os (id n : Nat)
  | sl (id off n c : Nat)
  | ee (t : TypeId) (c : Int)
  | cl (f : Nat) (ids : List Nat)
  | junk
inductive Seg where
  | one (s : Sc)
  | row (k : IntKind) (n : Nat) (ws : List Int)
inductive Cm where
  | sc (s : Sc)
  | ag (l : List Seg)
inductive AV where
  | c (x : Cm)
  | tu (l : List Cm)
  | un
inductive Blk where
  | sg (t : TypeId) (l : List Seg)
  | gr (t : TypeId) (k : IntKind) (ws : List Int)
  | dead
structure St where
  L : List (Nat × AV)
  H : List (Nat × Blk)
structure En where
  rho : Nat → Nat
  cap : Nat → Option Nat
  ro : Nat → Prop
def eeV (t : TypeId) (c : Int) : Value := bif c == 0 then .nilIface else .iface t (.int .i64 c)
theorem eeV_one (t : TypeId) (c : Int) : (eeV t c).oneCell' = true := by unfold eeV; cases c == 0 <;> rfl
def look {α : Type} : List (Nat × α) → Nat → Option α
  | [], _ => none
  | (i, x) :: l, j => match Nat.beq i j with
    | true => some x
    | false => look l j
theorem look_same {α : Type} (i : Nat) (x : α) (l : List (Nat × α)) : look ((i, x) :: l) i = some x := by simp [look]
theorem look_ne {α : Type} {i j : Nat} (x : α) (l : List (Nat × α)) (h : i ≠ j) : look ((i, x) :: l) j = look l j := by
  have : Nat.beq i j = false := by
    cases hb : Nat.beq i j with
    | false => rfl
    | true => exact absurd (Nat.eq_of_beq_eq_true hb) h
  simp [look, this]
theorem look_cons {α : Type} (i j : Nat) (x : α) (l : List (Nat × α)) : look ((i, x) :: l) j = if i = j then some x else look l j := by
  by_cases h : i = j
  · subst h; rw [look_same, if_pos rfl]
  · rw [look_ne x l h, if_neg h]
theorem look_mem {α : Type} {l : List (Nat × α)} {i : Nat} {x : α} (h : look l i = some x) : (i, x) ∈ l := by
  induction l with
  | nil => simp [look] at h
  | cons p l ih =>
    obtain ⟨j, y⟩ := p
    rw [look_cons] at h
    split at h
    · rename_i hj; subst hj; cases h; exact List.mem_cons_self
    · exact List.mem_cons_of_mem _ (ih h)
def RoS (E : En) (W : World) (k : IntKind) (ws : List Int) (u : Value) : Prop :=
  (ws = [] ∧ u = .slice none 0 0) ∨
  ∃ b off cap, u = .slice (some ⟨b, off, none⟩) ws.length cap ∧ ws.length ≤ cap ∧ E.ro b ∧ ∀ i x, ws[i]? = some x → W.cell? ⟨b, off + i, none⟩ = some (.int k x)
def Sc.R (E : En) (W : World) : Sc → Value → Prop
  | .v x, u => u = x ∧ x.oneCell' = true
  | .p id off, u => u = .pointer (some ⟨E.rho id, off, none⟩)
  | .e id off n j, u => u = .pointer (some ⟨E.rho id, off + j.toNat, none⟩) ∧ 0 ≤ j ∧ j < n
  | .rs k ws, u => RoS E W k ws u
  | .re k ws j, u => ∃ b off, u = .pointer (some ⟨b, off + j.toNat, none⟩) ∧ 0 ≤ j ∧ j < ws.length ∧ E.ro b ∧ ∀ i x, ws[i]? = some x → W.cell? ⟨b, off + i, none⟩ = some (.int k x)
  | .sl id off n c, u => u = .slice (some ⟨E.rho id, off, none⟩) n c
  | .os id n, u => match E.cap id with
    | none => u = .slice none 0 0 ∧ n = 0
    | some c => u = .slice (some ⟨E.rho id, 0, none⟩) n c
  | .ee t c, u => u = eeV t c
  | .cl f ids, u => u = .func (.func f) #[] (ids.map fun i => Value.pointer (some ⟨E.rho i, 0, none⟩)).toArray
  | .junk, u => u.oneCell' = true
theorem Sc.R_one {E : En} {W : World} {s : Sc} {u : Value} (h : s.R E W u) : u.oneCell' = true := by
  cases s with
  | v x => obtain ⟨rfl, h⟩ := h; exact h
  | p id off => obtain rfl := h; rfl
  | e id off n j => obtain ⟨rfl, _⟩ := h; rfl
  | rs k ws => rcases h with ⟨_, rfl⟩ | ⟨b, off, cap, rfl, _⟩ <;> rfl
  | re k ws j => obtain ⟨b, off, rfl, _⟩ := h; rfl
  | sl id off n c => obtain rfl := h; rfl
  | os id n =>
    simp only [Sc.R] at h
    cases hc : E.cap id with
    | none => rw [hc] at h; obtain ⟨rfl, _⟩ := h; rfl
    | some c => rw [hc] at h; subst h; rfl
  | ee t c => obtain rfl := h; exact eeV_one t c
  | cl f ids => obtain rfl := h; rfl
  | junk => exact h
def Seg.R (E : En) (W : World) : Seg → List Value → Prop
  | .one s, us => ∃ u, us = [u] ∧ s.R E W u
  | .row k n ws, us => us = ws.map (Value.int k) ∧ ws.length = n
def Seg.size : Seg → Nat
  | .one _ => 1
  | .row _ n _ => n
theorem Seg.R_size {E : En} {W : World} {g : Seg} {us : List Value} (h : g.R E W us) : us.length = g.size := by
  cases g with
  | one s => obtain ⟨u, rfl, _⟩ := h; rfl
  | row k n ws => obtain ⟨rfl, h⟩ := h; simpa [Seg.size] using h
theorem Seg.R_one {E : En} {W : World} {g : Seg} {us : List Value} (h : g.R E W us) : ∀ u ∈ us, u.oneCell' = true := by
  cases g with
  | one s => obtain ⟨u, rfl, h⟩ := h; intro u hu; rw [List.mem_singleton] at hu; subst hu; exact Sc.R_one h
  | row k n ws => obtain ⟨rfl, _⟩ := h; intro u hu; obtain ⟨x, _, rfl⟩ := List.mem_map.1 hu; rfl
def segsR (E : En) (W : World) : List Seg → List Value → Prop
  | [], us => us = []
  | g :: l, us => ∃ a b, us = a ++ b ∧ g.R E W a ∧ segsR E W l b
def segsSize : List Seg → Nat
  | [] => 0
  | g :: l => g.size + segsSize l
theorem segsR_size {E : En} {W : World} : ∀ {l : List Seg} {us : List Value}, segsR E W l us → us.length = segsSize l
  | [], us, h => by simp only [segsR] at h; subst h; rfl
  | g :: l, us, h => by
    obtain ⟨a, b, rfl, h1, h2⟩ := h
    rw [List.length_append, Seg.R_size h1, segsR_size h2]; rfl
theorem segsR_one {E : En} {W : World} : ∀ {l : List Seg} {us : List Value}, segsR E W l us → ∀ u ∈ us, u.oneCell' = true
  | [], us, h => by simp only [segsR] at h; subst h; intro u hu; cases hu
  | g :: l, us, h => by
    obtain ⟨a, b, rfl, h1, h2⟩ := h
    intro u hu
    rcases List.mem_append.1 hu with hu | hu
    · exact Seg.R_one h1 u hu
    · exact segsR_one h2 u hu
theorem segsR_append {E : En} {W : World} : ∀ {l m : List Seg} {a b : List Value}, segsR E W l a → segsR E W m b → segsR E W (l ++ m) (a ++ b)
  | [], m, a, b, h1, h2 => by simp only [segsR] at h1; subst h1; exact h2
  | g :: l, m, a, b, h1, h2 => by
    obtain ⟨x, y, rfl, hx, hy⟩ := h1
    exact ⟨x, y ++ b, by simp, hx, segsR_append hy h2⟩
theorem segsR_split {E : En} {W : World} : ∀ {l m : List Seg} {us : List Value}, segsR E W (l ++ m) us → ∃ a b, us = a ++ b ∧ segsR E W l a ∧ segsR E W m b
  | [], m, us, h => ⟨[], us, rfl, rfl, h⟩
  | g :: l, m, us, h => by
    obtain ⟨a, b, rfl, h1, h2⟩ := h
    obtain ⟨c, d, rfl, h3, h4⟩ := segsR_split h2
    exact ⟨a ++ c, d, by simp, ⟨a, c, rfl, h1, h3⟩, h4⟩
def Cm.R (E : En) (W : World) : Cm → Value → Prop
  | .sc s, u => s.R E W u
  | .ag l, u => ∃ us, u = .agg us.toArray ∧ segsR E W l us
def Cm.segs : Cm → List Seg
  | .sc s => [.one s]
  | .ag l => l
theorem one_cells {u : Value} (h : u.oneCell' = true) : u.cells = #[u] := by cases u <;> first | rfl | (simp [Value.oneCell'] at h)
theorem Cm.R_cells {E : En} {W : World} {x : Cm} {u : Value} (h : x.R E W u) : ∃ us, u.cells = us.toArray ∧ segsR E W x.segs us := by
  cases x with
  | sc s => exact ⟨[u], by rw [one_cells (Sc.R_one h)], ⟨[u], [], rfl, ⟨u, rfl, h⟩, rfl⟩⟩
  | ag l => obtain ⟨us, rfl, h⟩ := h; exact ⟨us, rfl, h⟩
def cmsR (E : En) (W : World) : List Cm → List Value → Prop
  | [], us => us = []
  | x :: l, us => ∃ u vs, us = u :: vs ∧ x.R E W u ∧ cmsR E W l vs
def AV.R (E : En) (W : World) : AV → Value → Prop
  | .c x, u => x.R E W u
  | .tu l, u => ∃ us, u = .tuple us.toArray ∧ cmsR E W l us
  | .un, u => u = undef
def avsR (E : En) (W : World) : List AV → List Value → Prop
  | [], us => us = []
  | x :: l, us => ∃ u vs, us = u :: vs ∧ x.R E W u ∧ avsR E W l vs
def Sc.has (d : Nat) : Sc → Bool
  | .p id _ | .e id _ _ _ | .os id _ | .sl id _ _ _ => Nat.beq id d
  | .cl _ ids => ids.any fun i => Nat.beq i d
  | _ => false
def Seg.has (d : Nat) : Seg → Bool
  | .one s => s.has d
  | .row _ _ _ => false
def segsHas (d : Nat) : List Seg → Bool
  | [] => false
  | g :: l => g.has d || segsHas d l
def Cm.has (d : Nat) : Cm → Bool
  | .sc s => s.has d
  | .ag l => segsHas d l
def cmsHas (d : Nat) : List Cm → Bool
  | [] => false
  | x :: l => x.has d || cmsHas d l
def AV.has (d : Nat) : AV → Bool
  | .c x => x.has d
  | .tu l => cmsHas d l
  | .un => false
def Blk.has (d : Nat) : Blk → Bool
  | .sg _ l => segsHas d l
  | _ => false
def lHas (d : Nat) : List (Nat × AV) → Bool
  | [] => false
  | (_, x) :: l => x.has d || lHas d l
def hHas (d : Nat) : List (Nat × Blk) → Bool
  | [] => false
  | (i, x) :: l => Nat.beq i d || x.has d || hHas d l
def St.fresh (s : St) (d : Nat) : Bool := !lHas d s.L && !hHas d s.H
theorem lHas_mem {d : Nat} : ∀ {l : List (Nat × AV)} {i : Nat} {x : AV}, lHas d l = false → (i, x) ∈ l → x.has d = false
  | [], _, _, _, h => by cases h
  | (j, y) :: l, i, x, h, hm => by
    simp only [lHas, Bool.or_eq_false_iff] at h
    cases hm with
    | head => exact h.1
    | tail _ hm => exact lHas_mem h.2 hm
theorem hHas_mem {d : Nat} : ∀ {l : List (Nat × Blk)} {i : Nat} {x : Blk}, hHas d l = false → (i, x) ∈ l → i ≠ d ∧ x.has d = false
  | [], _, _, _, h => by cases h
  | (j, y) :: l, i, x, h, hm => by
    simp only [hHas, Bool.or_eq_false_iff] at h
    cases hm with
    | head => exact ⟨fun e => by subst e; simp at h, h.1.2⟩
    | tail _ hm => exact hHas_mem h.2 hm
structure Kp (A : Nat → Prop) (E : En) (W : World) (E' : En) (W' : World) : Prop where
  rho : ∀ id, A id → E'.rho id = E.rho id
  cap : ∀ id, A id → E'.cap id = E.cap id
  ro : ∀ b, E.ro b → E'.ro b
  mem : ∀ b, E.ro b → W'.heap[b]? = W.heap[b]?
section
variable {A : Nat → Prop} {E E' : En} {W W' : World}
theorem Kp.cell (h : Kp A E W E' W') {b o : Nat} (hb : E.ro b) : W'.cell? ⟨b, o, none⟩ = W.cell? ⟨b, o, none⟩ := by
  simp only [World.cell?, h.mem b hb]
theorem Sc.kept (h : Kp A E W E' W') {s : Sc} {u : Value} (hs : s.R E W u) (ha : ∀ d, s.has d = true → A d) : s.R E' W' u := by
  cases s with
  | v x => exact hs
  | p id off => simp only [Sc.R] at hs ⊢; rw [h.rho id (ha id (by simp [Sc.has]))]; exact hs
  | e id off n j => simp only [Sc.R] at hs ⊢; rw [h.rho id (ha id (by simp [Sc.has]))]; exact hs
  | rs k ws =>
    rcases hs with hs | ⟨b, off, cap, hu, hc, hb, hx⟩
    · exact .inl hs
    · exact .inr ⟨b, off, cap, hu, hc, h.ro b hb, fun i x hi => by rw [h.cell hb]; exact hx i x hi⟩
  | re k ws j =>
    obtain ⟨b, off, hu, h0, h1, hb, hx⟩ := hs
    exact ⟨b, off, hu, h0, h1, h.ro b hb, fun i x hi => by rw [h.cell hb]; exact hx i x hi⟩
  | sl id off n c => simp only [Sc.R] at hs ⊢; rw [h.rho id (ha id (by simp [Sc.has]))]; exact hs
  | os id n =>
    simp only [Sc.R] at hs ⊢
    rw [h.rho id (ha id (by simp [Sc.has])), h.cap id (ha id (by simp [Sc.has]))]
    exact hs
  | ee t c => exact hs
  | cl f ids =>
    simp only [Sc.R] at hs ⊢
    rw [hs]
    congr 2
    refine List.map_congr_left (fun i hi => ?_)
    rw [h.rho i (ha i (by simp only [Sc.has, List.any_eq_true]; exact ⟨i, hi, Nat.beq_refl i⟩))]
  | junk => exact hs
theorem Seg.kept (h : Kp A E W E' W') {g : Seg} {us : List Value} (hs : g.R E W us) (ha : ∀ d, g.has d = true → A d) : g.R E' W' us := by
  cases g with
  | one s => obtain ⟨u, rfl, hs⟩ := hs; exact ⟨u, rfl, Sc.kept h hs ha⟩
  | row k n ws => exact hs
theorem segs_kept (h : Kp A E W E' W') : ∀ {l : List Seg} {us : List Value}, segsR E W l us → (∀ d, segsHas d l = true → A d) → segsR E' W' l us
  | [], _, hs, _ => hs
  | g :: l, _, ⟨a, b, e, h1, h2⟩, ha => ⟨a, b, e, Seg.kept h h1 (fun d hd => ha d (by simp [segsHas, hd])), segs_kept h h2 (fun d hd => ha d (by simp [segsHas, hd]))⟩
theorem Cm.kept (h : Kp A E W E' W') {x : Cm} {u : Value} (hs : x.R E W u) (ha : ∀ d, x.has d = true → A d) : x.R E' W' u := by
  cases x with
  | sc s => exact Sc.kept h hs ha
  | ag l => obtain ⟨us, rfl, hs⟩ := hs; exact ⟨us, rfl, segs_kept h hs ha⟩
theorem cms_kept (h : Kp A E W E' W') : ∀ {l : List Cm} {us : List Value}, cmsR E W l us → (∀ d, cmsHas d l = true → A d) → cmsR E' W' l us
  | [], _, hs, _ => hs
  | x :: l, _, ⟨u, vs, e, h1, h2⟩, ha => ⟨u, vs, e, Cm.kept h h1 (fun d hd => ha d (by simp [cmsHas, hd])), cms_kept h h2 (fun d hd => ha d (by simp [cmsHas, hd]))⟩
theorem AV.kept (h : Kp A E W E' W') {x : AV} {u : Value} (hs : x.R E W u) (ha : ∀ d, x.has d = true → A d) : x.R E' W' u := by
  cases x with
  | c x => exact Cm.kept h hs ha
  | tu l => obtain ⟨us, rfl, hs⟩ := hs; exact ⟨us, rfl, cms_kept h hs ha⟩
  | un => exact hs
end
def Blk.live (E : En) (id : Nat) : Blk → Prop
  | .sg _ _ => True
  | .gr _ _ _ => E.cap id ≠ none
  | .dead => False
def Blk.R (E : En) (W : World) (id : Nat) : Blk → Prop
  | .sg t l => ∃ us : List Value, W.heap[E.rho id]? = some (.cells us.toArray t (0, 0)) ∧ segsR E W l us
  | .gr t k ws => match E.cap id with
    | none => ws = []
    | some c => ∃ us : List Value, W.heap[E.rho id]? = some (.cells us.toArray t (0, 0)) ∧ us.length = c ∧ c ≤ maxLen ∧ ws.length ≤ c ∧ us.take ws.length = ws.map (Value.int k)
  | .dead => True
theorem Blk.kept {A : Nat → Prop} {E E' : En} {W W' : World} {id : Nat} (h : Kp A E W E' W') {B : Blk} (hB : B.R E W id) (hid : A id) (ha : ∀ d, B.has d = true → A d)
    (hm : B.live E id → W'.heap[E.rho id]? = W.heap[E.rho id]?) : B.R E' W' id := by
  cases B with
  | sg t l =>
    obtain ⟨us, h1, h2⟩ := hB
    exact ⟨us, by rw [h.rho id hid, hm trivial]; exact h1, segs_kept h h2 ha⟩
  | gr t k ws =>
    simp only [Blk.R] at hB ⊢
    rw [h.cap id hid, h.rho id hid]
    cases hc : E.cap id with
    | none => rw [hc] at hB; exact hB
    | some c => rw [hc] at hB; rw [hm (by simp [Blk.live, hc])]; exact hB
  | dead => trivial
structure Cx where
  w0 : World
  ro0 : Nat → Prop
  K : Nat → Prop
  fix : Nat → Option (Nat × Option Nat)
  sub : ∀ b, K b → ro0 b
abbrev Cx.plain (w0 : World) (ro0 : Nat → Prop) : Cx := ⟨w0, ro0, fun _ => False, fun _ => none, fun _ h => h.elim⟩
def Blk.isSg : Blk → Prop
  | .gr _ _ _ => False
  | _ => True
structure Sat (C : Cx) (n : Nat) (E : En) (s : St) (a : Act) (W : World) : Prop where
  defers : a.defers = []
  size : a.tmps.size = n
  slots : ∀ i x, look s.L i = some x → ∃ u, a.tmps[i]? = some u ∧ x.R E W u
  blks : ∀ id B, look s.H id = some B → B.R E W id
  inj : ∀ i j A B, look s.H i = some A → look s.H j = some B → A.live E i → B.live E j → E.rho i = E.rho j → i = j
  own : ∀ i A, look s.H i = some A → A.live E i → (C.w0.heap.size ≤ E.rho i ∨ C.K (E.rho i)) ∧ ¬ E.ro (E.rho i)
  ro : ∀ b, E.ro b → b < W.heap.size ∧ (C.ro0 b ∨ C.w0.heap.size ≤ b)
  os : W.os = C.w0.os
  tape : W.tape = C.w0.tape
  output : W.output = C.w0.output
  hsize : C.w0.heap.size ≤ W.heap.size
  keep : ∀ b, b < C.w0.heap.size → ¬ C.K b → W.heap[b]? = C.w0.heap[b]?
  fix : ∀ id g, C.fix id = some g → n ≤ id ∧ (E.rho id, E.cap id) = g ∧ ∀ B, look s.H id = some B → B.isSg
structure Dl where
  dst : Option Nat
  val : AV
  upd : Option (Nat × Blk)
  fr : Bool
def St.put (s : St) (d : Dl) : St :=
  { L := match d.dst with | some i => (i, d.val) :: s.L | none => s.L
    H := match d.upd with | some u => u :: s.H | none => s.H }
section
variable {C : Cx} {n : Nat} {E : En} {s : St} {a : Act} {W : World}
theorem Sat.look_congr {s' : St} (h : Sat C n E s a W) (hL : ∀ i, look s'.L i = look s.L i) (hH : ∀ i, look s'.H i = look s.H i) : Sat C n E s' a W :=
  ⟨h.defers, h.size, fun i x hx => h.slots i x (by rw [← hL]; exact hx), fun i B hB => h.blks i B (by rw [← hH]; exact hB),
   fun i j A B hi hj => h.inj i j A B (by rw [← hH]; exact hi) (by rw [← hH]; exact hj), fun i A hi => h.own i A (by rw [← hH]; exact hi),
   h.ro, h.os, h.tape, h.output, h.hsize, h.keep, fun id g hg => ⟨(h.fix id g hg).1, (h.fix id g hg).2.1, fun B hB => (h.fix id g hg).2.2 B (by rw [← hH]; exact hB)⟩⟩
theorem Sat.less {s' : St} (h : Sat C n E s a W) (hL : ∀ i x, look s'.L i = some x → look s.L i = some x) (hH : ∀ i x, look s'.H i = some x → look s.H i = some x) : Sat C n E s' a W :=
  ⟨h.defers, h.size, fun i x hx => h.slots i x (hL _ _ hx), fun i B hB => h.blks i B (hH _ _ hB),
   fun i j A B hi hj => h.inj i j A B (hH _ _ hi) (hH _ _ hj), fun i A hi => h.own i A (hH _ _ hi),
   h.ro, h.os, h.tape, h.output, h.hsize, h.keep, fun id g hg => ⟨(h.fix id g hg).1, (h.fix id g hg).2.1, fun B hB => (h.fix id g hg).2.2 B (hH _ _ hB)⟩⟩
theorem put_tmps {dst : Option Nat} {u : Value} {i : Nat} (hn : ∀ d, dst = some d → d < a.tmps.size) :
    (a.put dst u).tmps[i]? = if dst = some i then some u else a.tmps[i]? := by
  cases dst with
  | none => simp [Act.put]
  | some d =>
    simp only [Act.put, Array.getElem?_setIfInBounds, Option.some.injEq]
    split
    · rename_i h; subst h; simp [hn d rfl]
    · rfl
theorem Sat.step {E' : En} {W' : World} {d : Dl} {u : Value} (h : Sat C n E s a W) (hn : ∀ i, d.dst = some i → i < n)
    (hu : d.dst ≠ none → d.val.R E' W' u)
    (hk : Kp (fun id => d.fr = true → some id ≠ d.upd.map (·.1)) E W E' W')
    (hfr : d.fr = true → ∀ id B, d.upd = some (id, B) → s.fresh id = true)
    (hB : ∀ id B, d.upd = some (id, B) → B.R E' W' id)
    (hown : ∀ id B, d.upd = some (id, B) → B.live E' id → (C.w0.heap.size ≤ E'.rho id ∨ C.K (E'.rho id)) ∧ ¬ E'.ro (E'.rho id))
    (hinj : ∀ id B, d.upd = some (id, B) → B.live E' id → ∀ j A, j ≠ id → look s.H j = some A → A.live E j → E.rho j ≠ E'.rho id)
    (hro : ∀ j A, look s.H j = some A → A.live E j → ¬ E'.ro (E.rho j))
    (hmem : ∀ j A, look s.H j = some A → A.live E j → (∀ id B, d.upd = some (id, B) → j ≠ id) → W'.heap[E.rho j]? = W.heap[E.rho j]?)
    (hro' : ∀ b, E'.ro b → b < W'.heap.size ∧ (C.ro0 b ∨ C.w0.heap.size ≤ b))
    (hos : W'.os = W.os) (htape : W'.tape = W.tape) (hout : W'.output = W.output) (hsz : W.heap.size ≤ W'.heap.size)
    (hkeep : ∀ b, b < C.w0.heap.size → ¬ C.K b → W'.heap[b]? = W.heap[b]?)
    (hsg : ∀ id B g, d.upd = some (id, B) → C.fix id = some g → d.fr = false ∧ B.isSg) :
    Sat C n E' (s.put d) (a.put d.dst u) W' := by
  -- the names that the old state speaks of are kept
  have hL : ∀ i x, look s.L i = some x → ∀ id, x.has id = true → (d.fr = true → some id ≠ d.upd.map (·.1)) := by
    intro i x hx id hh hf he
    cases hd : d.upd with
    | none => rw [hd] at he; simp at he
    | some q =>
      obtain ⟨id', B⟩ := q
      rw [hd] at he
      simp only [Option.map_some, Option.some.injEq] at he
      subst he
      have hs := hfr hf id B hd
      simp only [St.fresh, Bool.and_eq_true, Bool.not_eq_true'] at hs
      rw [lHas_mem hs.1 (look_mem hx)] at hh
      cases hh
  have hH : ∀ i B, look s.H i = some B → (d.fr = true → some i ≠ d.upd.map (·.1)) ∧ ∀ id, B.has id = true → (d.fr = true → some id ≠ d.upd.map (·.1)) := by
    intro i B hB'
    refine ⟨fun hf he => ?_, fun id hh hf he => ?_⟩ <;>
    · cases hd : d.upd with
      | none => rw [hd] at he; simp at he
      | some q =>
        obtain ⟨id', B'⟩ := q
        rw [hd] at he
        simp only [Option.map_some, Option.some.injEq] at he
        subst he
        have hs := hfr hf _ B' hd
        simp only [St.fresh, Bool.and_eq_true, Bool.not_eq_true'] at hs
        have := hHas_mem hs.2 (look_mem hB')
        simp_all
  have hlive : ∀ i B, look s.H i = some B → (B.live E' i ↔ B.live E i) := by
    intro i B hB'
    have hc := hk.cap i (hH i B hB').1
    cases B <;> simp [Blk.live, hc]
  refine ⟨?_, ?_, ?_, ?_, ?_, ?_, hro', hos.trans h.os, htape.trans h.tape, hout.trans h.output, Nat.le_trans h.hsize hsz, fun b hb hK => (hkeep b hb hK).trans (h.keep b hb hK), ?_⟩
  · cases hd : d.dst <;> simp [Act.put, h.defers]
  · cases hd : d.dst <;> simp [Act.put, h.size]
  · intro i x hx
    rw [put_tmps (fun j hj => by rw [h.size]; exact hn j hj)]
    by_cases hi : d.dst = some i
    · simp only [St.put, hi, look_same, Option.some.injEq] at hx
      subst hx
      exact ⟨u, by rw [if_pos hi], hu (by simp [hi])⟩
    · rw [if_neg hi]
      have hx' : look s.L i = some x := by
        cases hd : d.dst with
        | none => simpa [St.put, hd] using hx
        | some j =>
          simp only [St.put, hd] at hx
          rwa [look_ne _ _ (fun e => hi (by rw [hd, e]))] at hx
      obtain ⟨v, h1, h2⟩ := h.slots i x hx'
      exact ⟨v, h1, AV.kept hk h2 (fun id hh => hL i x hx' id hh)⟩
  · intro id B hB'
    cases hd : d.upd with
    | none =>
      simp only [St.put, hd] at hB'
      exact Blk.kept hk (h.blks id B hB') (hH id B hB').1 (hH id B hB').2 (fun hl => hmem id B hB' hl (by simp [hd]))
    | some q =>
      obtain ⟨j, B1⟩ := q
      simp only [St.put, hd] at hB'
      by_cases hj : j = id
      · subst hj
        rw [look_same] at hB'
        cases hB'
        exact hB j B hd
      · rw [look_ne _ _ hj] at hB'
        exact Blk.kept hk (h.blks id B hB') (hH id B hB').1 (hH id B hB').2 (fun hl => hmem id B hB' hl (by rw [hd]; intro i B2 he; cases he; exact fun e => hj e.symm))
  · intro i j A B hi hj hA hB' he
    cases hd : d.upd with
    | none =>
      simp only [St.put, hd] at hi hj
      exact h.inj i j A B hi hj ((hlive i A hi).1 hA) ((hlive j B hj).1 hB') (by rw [← hk.rho i (hH i A hi).1, ← hk.rho j (hH j B hj).1]; exact he)
    | some q =>
      obtain ⟨m, B1⟩ := q
      simp only [St.put, hd] at hi hj
      by_cases hmi : m = i
      · subst hmi
        by_cases hmj : m = j
        · exact hmj
        · rw [look_same] at hi; cases hi
          rw [look_ne _ _ hmj] at hj
          exact absurd (by rw [← hk.rho j (hH j B hj).1]; exact he.symm) (hinj m A hd hA j B (fun e => hmj e.symm) hj ((hlive j B hj).1 hB'))
      · rw [look_ne _ _ hmi] at hi
        by_cases hmj : m = j
        · subst hmj
          rw [look_same] at hj; cases hj
          exact absurd (by rw [← hk.rho i (hH i A hi).1]; exact he) (hinj m B hd hB' i A (fun e => hmi e.symm) hi ((hlive i A hi).1 hA))
        · rw [look_ne _ _ hmj] at hj
          exact h.inj i j A B hi hj ((hlive i A hi).1 hA) ((hlive j B hj).1 hB') (by rw [← hk.rho i (hH i A hi).1, ← hk.rho j (hH j B hj).1]; exact he)
  · intro i A hi hA
    cases hd : d.upd with
    | none =>
      simp only [St.put, hd] at hi
      have := h.own i A hi ((hlive i A hi).1 hA)
      rw [hk.rho i (hH i A hi).1]
      exact ⟨this.1, hro i A hi ((hlive i A hi).1 hA)⟩
    | some q =>
      obtain ⟨m, B1⟩ := q
      simp only [St.put, hd] at hi
      by_cases hmi : m = i
      · subst hmi; rw [look_same] at hi; cases hi
        exact hown m A hd hA
      · rw [look_ne _ _ hmi] at hi
        have := h.own i A hi ((hlive i A hi).1 hA)
        rw [hk.rho i (hH i A hi).1]
        exact ⟨this.1, hro i A hi ((hlive i A hi).1 hA)⟩
  · intro id g hg
    obtain ⟨f1, f2, f3⟩ := h.fix id g hg
    cases hd : d.upd with
    | none =>
      refine ⟨f1, by rw [hk.rho id (by simp [hd]), hk.cap id (by simp [hd]), f2], fun B hB' => f3 B ?_⟩
      simpa [St.put, hd] using hB'
    | some q =>
      obtain ⟨m, B1⟩ := q
      by_cases hmi : m = id
      · subst hmi
        obtain ⟨g1, g2⟩ := hsg m B1 g hd hg
        refine ⟨f1, by rw [hk.rho m (by simp [g1]), hk.cap m (by simp [g1]), f2], fun B hB' => ?_⟩
        simp only [St.put, hd, look_same, Option.some.injEq] at hB'
        subst hB'; exact g2
      · refine ⟨f1, by rw [hk.rho id (by rw [hd]; intro _ e; simp only [Option.map_some, Option.some.injEq] at e; exact hmi e.symm), hk.cap id (by rw [hd]; intro _ e; simp only [Option.map_some, Option.some.injEq] at e; exact hmi e.symm), f2], fun B hB' => f3 B ?_⟩
        simp only [St.put, hd] at hB'
        rwa [look_ne _ _ hmi] at hB'
theorem Sat.pure {d : Dl} {u : Value} (h : Sat C n E s a W) (hn : ∀ i, d.dst = some i → i < n) (hup : d.upd = none) (hu : d.dst ≠ none → d.val.R E W u) : Sat C n E (s.put d) (a.put d.dst u) W :=
  h.step hn hu ⟨fun _ _ => rfl, fun _ _ => rfl, fun _ h => h, fun _ _ => rfl⟩ (by simp [hup]) (by simp [hup]) (by simp [hup]) (by simp [hup])
    (fun j A hj hl => (h.own j A hj hl).2) (fun _ _ _ _ _ => rfl) h.ro rfl rfl rfl (Nat.le_refl _) (fun _ _ _ => rfl) (by simp [hup])
theorem Kp.drew (E : En) (W : World) : Kp (fun _ => True) E W E W.drew := ⟨fun _ _ => rfl, fun _ _ => rfl, fun _ h => h, fun _ _ => rfl⟩
theorem Sat.drew (h : Sat C n E s a W) : Sat C n E s a W.drew :=
  ⟨h.defers, h.size, fun i x hx => let ⟨u, h1, h2⟩ := h.slots i x hx; ⟨u, h1, AV.kept (Kp.drew E W) h2 (fun _ _ => trivial)⟩,
   fun i B hB => Blk.kept (Kp.drew E W) (h.blks i B hB) trivial (fun _ _ => trivial) (fun _ => rfl), h.inj, h.own, h.ro, h.os, h.tape, h.output, h.hsize, h.keep, h.fix⟩
end
inductive AEx where
  | n
  | x (id : Nat)
  | r
def AEx.ex : AEx → Exit
  | .n => .normal
  | .x id => .exit id
  | .r => .ret
inductive Orc where
  | b (d : Bool)
  | op (d : Dl)
  | chk (s : St)
  | cut (ls hs : List Nat)
  | rchk (k : Nat) (s : St)
  | rcut (k : Nat) (ls hs : List Nat)
  | lp (e : AEx) (s : St)
def allP : List Prop → Prop
  | [] => True
  | p :: l => p ∧ allP l
theorem allP_append : ∀ {l m : List Prop}, allP (l ++ m) → allP l ∧ allP m
  | [], _, h => ⟨trivial, h⟩
  | _ :: _, _, ⟨h1, h2⟩ => let ⟨a, b⟩ := allP_append h2; ⟨⟨h1, a⟩, b⟩
def T (P : Program) (n : Nat) (c : Code) (s : St) (Q : AEx → St → Prop) : Prop :=
  ∀ C E a W, Sat C n E s a W → c.wp P (fun e a' W' => ∃ x s' E', e = AEx.ex x ∧ Q x s' ∧ Sat C n E' s' a' W') a W
def Ent (n : Nat) (s s' : St) : Prop := ∀ C E a W, Sat C n E s a W → ∃ E', Sat C n E' s' a W
def LoopT (P : Program) (n : Nat) (c : Code) (s : St) (e : AEx) (s' : St) : Prop := T P n (.loop c) s (fun x y => x = e ∧ y = s')
def RegT (P : Program) (n : Nat) (id : Nat) (ops : Array Oper) (s s' : St) : Prop := T P n (.region id ops true) s (fun x y => x = .n ∧ y = s')
def OpOk (P : Program) (o : Oper) (args : List AV) (bl : List (Nat × Blk)) (d : Dl) : Prop :=
  ∀ C n E s a W Q, Sat C n E s a W → avsR E W args (o.op.operands.toList.map a.eval) → (∀ id B, (id, B) ∈ bl → look s.H id = some B) →
    (d.fr = true → ∀ id B, d.upd = some (id, B) → s.fresh id = true) → (∀ i, o.dst = some i → i < n) → d.dst = o.dst →
    o.wp P a W (fun a' W' => ∃ E', Sat C n E' (s.put d) a' W') Q
def OpT (P : Program) (n : Nat) (o : Oper) (s s' : St) : Prop :=
  ∀ C E a W Q, Sat C n E s a W → o.wp P a W (fun a' W' => ∃ E', Sat C n E' s' a' W') Q
structure Tau where
  und : TypeId → Option TypeDesc
  size : TypeId → Option Nat
  zero : TypeId → Option (List Seg)
def Tau.agg (tau : Tau) (t : TypeId) : Option Bool := match tau.und t with
  | some (.struct _) | some (.array _ _) => some true
  | some _ => some false
  | none => none
def restr {α : Type} (l : List (Nat × α)) : List Nat → List (Nat × α)
  | [] => []
  | i :: is => match look l i with
    | some x => (i, x) :: restr l is
    | none => restr l is
theorem restr_look {α : Type} {l : List (Nat × α)} : ∀ {is : List Nat} {i : Nat} {x : α}, look (restr l is) i = some x → look l i = some x
  | [], _, _, h => by simp [restr, look] at h
  | j :: is, i, x, h => by
    simp only [restr] at h
    split at h
    · rename_i y hy
      rw [look_cons] at h
      split at h
      · rename_i hj; subst hj; rw [← h]; exact hy
      · exact restr_look h
    · exact restr_look h
def evalA (L : List (Nat × AV)) : Operand → Option AV
  | .tmp t => look L t
  | .const v => match v.oneCell' with
    | true => some (.c (.sc (.v v)))
    | false => none
  | .func f => some (.c (.sc (.v (.func (.func f) #[] #[]))))
  | .global _ => none
def evalAll (L : List (Nat × AV)) : List Operand → Option (List AV)
  | [] => some []
  | x :: l => match evalA L x with
    | none => none
    | some u => match evalAll L l with
      | none => none
      | some us => some (u :: us)
def evs (L : List (Nat × AV)) : List Operand → List (Nat × AV)
  | [] => []
  | .tmp t :: l => match look L t with
    | some u => (t, u) :: evs L l
    | none => evs L l
  | _ :: l => evs L l
def Sc.ids : Sc → List Nat
  | .p id _ | .e id _ _ _ | .os id _ | .sl id _ _ _ => [id]
  | .cl _ ids => ids
  | _ => []
def segsIds : List Seg → List Nat
  | [] => []
  | .one s :: l => s.ids ++ segsIds l
  | _ :: l => segsIds l
def Cm.ids : Cm → List Nat
  | .sc s => s.ids
  | .ag l => segsIds l
def AV.ids : AV → List Nat
  | .c x => x.ids
  | _ => []
def avsIds : List AV → List Nat
  | [] => []
  | x :: l => x.ids ++ avsIds l
def blksOf (H : List (Nat × Blk)) : List Nat → List (Nat × Blk)
  | [] => []
  | i :: l => match look H i with
    | some B => (i, B) :: blksOf H l
    | none => blksOf H l
def blOf (op : Op) (H : List (Nat × Blk)) (args : List AV) : List (Nat × Blk) := match op with
  | .fieldAddr _ _ _ | .indexAddr _ _ _ | .move _ | .assign _ | .nilCheck _ => []
  | _ => blksOf H (avsIds args)
structure Rec where
  ev : List (Nat × AV)
  bl : List (Nat × Blk)
  d : Dl
def Dl.id (d : Dl) : Option Nat := d.upd.map (·.1)
def freshOk (s : St) (x : Rec) : Bool := !x.d.fr || (match x.d.id with | none => true | some i => s.fresh i)
theorem freshOk_spec {s : St} {x : Rec} (h : freshOk s x = true) (hf : x.d.fr = true) : ∀ id B, x.d.upd = some (id, B) → s.fresh id = true := by
  intro id B hu
  simpa [freshOk, hf, Dl.id, hu] using h
section
variable (P : Program) (n : Nat) (eff : Op → Option Nat → List AV → List (Nat × Blk) → Option (Dl × List Prop))
def inN (n : Nat) : Option Nat → Bool
  | none => true
  | some d => Nat.blt d n
def rdo (o : Oper) (g : List (Nat × AV)) (s : St) (r : List Orc) : Option (Rec × List Orc × List Prop) :=
  match evalAll s.L o.op.operands.toList with
  | none => none
  | some args =>
    match eff o.op o.dst args (blOf o.op s.H args) with
    | some (d, O) => some (⟨g ++ evs s.L o.op.operands.toList, blOf o.op s.H args, { d with dst := o.dst }⟩, r, O)
    | none => match r with
      | .op d :: r => some (⟨g ++ evs s.L o.op.operands.toList, blOf o.op s.H args, { d with dst := o.dst }⟩, r, [OpOk P o args (blOf o.op s.H args) { d with dst := o.dst }])
      | _ => none
def rstep (ops : Array Oper) (o : Oper) (s : St) (r : List Orc) : Option (Rec × List Orc × List Prop) :=
  match inN n o.dst with
  | false => none
  | true => match o.guard with
    | none => rdo P eff o [] s r
    | some (g, want) => match (ops[g]?).bind (·.dst) with
      | none => none
      | some t => match look s.L t with
        | some .un => some (⟨[(t, .un)], [], ⟨o.dst, .un, none, false⟩⟩, r, [])
        | some (.c (.sc (.v (.bool b)))) => match r with
          | .b d :: r => match d == want with
            | true => match rdo P eff o [(t, .c (.sc (.v (.bool b))))] s r with
              | some (x, r, O) => some (x, r, (b = d) :: O)
              | none => none
            | false => some (⟨[(t, .c (.sc (.v (.bool b))))], [], ⟨o.dst, .un, none, false⟩⟩, r, [b = d])
          | _ => none
        | _ => none
def rops (ops : Array Oper) : List Oper → St → List Orc → Option (St × List Orc × List Prop × List Rec)
  | [], s, r => some (s, r, [], [])
  | o :: l, s, r => match rstep P n eff ops o s r with
    | none => none
    | some (x, r1, O1) => match freshOk s x with
      | false => none
      | true => match rops ops l (s.put x.d) r1 with
        | none => none
        | some (s2, r2, O2, xs) => some (s2, r2, O1 ++ O2, x :: xs)
def rseq (ops : Array Oper) : List Oper → St → List Orc → Option (St × List Orc × List Prop)
  | [], s, r => some (s, r, [])
  | o :: l, s, r => match rstep P n eff ops o s r with
    | none => match r with
      | .lp .n s' :: r => match o.guard with
        | none => match rseq ops l s' r with
          | none => none
          | some (s2, r2, O2) => some (s2, r2, OpT P n o s s' :: O2)
        | some _ => none
      | _ => none
    | some (x, r1, O1) => match freshOk s x with
      | false => none
      | true => match rseq ops l (s.put x.d) r1 with
        | none => none
        | some (s2, r2, O2) => some (s2, r2, O1 ++ O2)
def memN (i : Nat) : List Nat → Bool
  | [] => false
  | j :: l => Nat.beq i j || memN i l
def keyIn {α : Type} (i : Nat) : List (Nat × α) → Bool
  | [] => false
  | (j, _) :: l => Nat.beq i j || keyIn i l
def Dl.has (d : Dl) (i : Nat) : Bool := d.val.has i || (match d.upd with | none => false | some (j, B) => Nat.beq j i || B.has i)
def oNe : Option Nat → Option Nat → Bool
  | some i, some j => !Nat.beq i j
  | _, _ => true
def apart2 (x y : Rec) : Bool :=
  (match x.d.dst with | none => true | some i => !keyIn i y.ev) &&
  (match y.d.dst with | none => true | some i => !keyIn i x.ev) &&
  oNe x.d.dst y.d.dst &&
  (match x.d.id with | none => true | some i => !keyIn i y.bl && (!x.d.fr || !y.d.has i)) &&
  (match y.d.id with | none => true | some i => !keyIn i x.bl && (!y.d.fr || !x.d.has i)) &&
  oNe x.d.id y.d.id
def waitsFor (o : Oper) (i : Nat) : Bool := o.after.toList.any fun e => Region.binds .any e && Nat.beq e.on i
def apartAll (i : Nat) (x : Rec) : List Oper → List Rec → Bool
  | o :: os, y :: ys => (waitsFor o i || apart2 x y) && (!y.d.fr || (match y.d.id with | none => true | some t => !x.d.has t)) && apartAll i x os ys
  | _, _ => true
def ordOk (s : St) : Nat → List Oper → List Rec → Bool
  | i, o :: os, x :: xs => (o.after.toList.all fun e => !Region.binds .any e || Nat.blt e.on i) && freshOk s x && apartAll i x os xs && ordOk s (i + 1) os xs
  | _, _, _ => true
def pre : St → List Orc → St × List Orc × List Prop
  | s, .chk s' :: r => let q := pre s' r; (q.1, q.2.1, Ent n s s' :: q.2.2)
  | s, .cut ls hs :: r => pre ⟨restr s.L ls, restr s.H hs⟩ r
  | s, r => (s, r, [])
def preR (k : Nat) : St → List Orc → St × List Orc × List Prop
  | s, .rchk j s' :: r => match Nat.beq j k with
    | true => let q := preR k s' r; (q.1, q.2.1, Ent n s s' :: q.2.2)
    | false => (s, .rchk j s' :: r, [])
  | s, .rcut j ls hs :: r => match Nat.beq j k with
    | true => preR k ⟨restr s.L ls, restr s.H hs⟩ r
    | false => (s, .rcut j ls hs :: r, [])
  | s, r => (s, r, [])
def arun : Code → St → List Orc → Option (AEx × St × List Orc × List Prop)
  | .skip, s, r => some (.n, s, r, [])
  | .region id ops draw, s, r =>
    match preR n id s r with
    | (s0, r0, O0) => match draw with
      | false => match rseq P n eff ops ops.toList s0 r0 with
        | none => none
        | some (s1, r1, O1) => some (.n, s1, r1, O0 ++ O1)
      | true => match r0 with
        | .lp .n s1 :: r1 => some (.n, s1, r1, O0 ++ [RegT P n id ops s0 s1])
        | _ => match rops P n eff ops ops.toList s0 r0 with
          | none => none
          | some (s1, r1, O1, xs) => match ordOk s0 0 ops.toList xs with
            | true => some (.n, s1, r1, O0 ++ O1)
            | false => none
  | .seq x y, s, r => match arun x s r with
    | some (.n, s1, r1, O1) => match arun y s1 r1 with
      | some (e, s2, r2, O2) => some (e, s2, r2, O1 ++ O2)
      | none => none
    | q => q
  | .cond c x y, s, r =>
    match preR n 1000000 s r with
    | (s0, r0, O0) => match evalA s0.L c with
      | some (.c (.sc (.v (.bool b)))) => match r0 with
        | .b true :: r1 => match arun x s0 r1 with
          | some (e, s2, r2, O2) => some (e, s2, r2, O0 ++ (b = true) :: O2)
          | none => none
        | .b false :: r1 => match arun y s0 r1 with
          | some (e, s2, r2, O2) => some (e, s2, r2, O0 ++ (b = false) :: O2)
          | none => none
        | _ => none
      | _ => none
  | .block id c, s, r => match arun c s r with
    | some (.x i, s1, r1, O1) => match Nat.beq i id with
      | true => some (.n, s1, r1, O1)
      | false => some (.x i, s1, r1, O1)
    | q => q
  | .loop c, s, r =>
    match pre n s r with
    | (s0, r0, O0) => match r0 with
      | .lp e s1 :: r1 => some (e, s1, r1, O0 ++ [LoopT P n c s0 e s1])
      | _ => none
  | .exit id, s, r => some (.x id, s, r, [])
  | .ret, s, r =>
    match pre n s r with
    | (s0, r0, O0) => some (.r, s0, r0, O0)
  | _, _, _ => none
end
section
variable {P : Program} {n : Nat} {eff : Op → Option Nat → List AV → List (Nat × Blk) → Option (Dl × List Prop)}
theorem evalA_R {C : Cx} {E : En} {s : St} {a : Act} {W : World} (h : Sat C n E s a W) {x : Operand} {u : AV} (hx : evalA s.L x = some u) : u.R E W (a.eval x) := by
  cases x with
  | tmp t =>
    obtain ⟨v, h1, h2⟩ := h.slots t u hx
    simp only [Act.eval, Array.getD_eq_getD_getElem?, h1, Option.getD_some]
    exact h2
  | const v =>
    simp only [evalA] at hx
    split at hx
    · rename_i h1; cases hx; exact ⟨rfl, h1⟩
    · cases hx
  | func f => cases hx; exact ⟨rfl, rfl⟩
  | global g => cases hx
theorem evalAll_R {C : Cx} {E : En} {s : St} {a : Act} {W : World} (h : Sat C n E s a W) : ∀ {l : List Operand} {us : List AV}, evalAll s.L l = some us → avsR E W us (l.map a.eval)
  | [], us, hx => by cases hx; rfl
  | x :: l, us, hx => by
    simp only [evalAll] at hx
    split at hx
    · cases hx
    · rename_i u hu
      split at hx
      · cases hx
      · rename_i vs hv
        cases hx
        exact ⟨_, _, rfl, evalA_R h hu, evalAll_R h hv⟩
theorem evalAll_congr {L L' : List (Nat × AV)} : ∀ {l : List Operand} {us : List AV}, evalAll L l = some us → (∀ t u, (t, u) ∈ evs L l → look L' t = some u) → evalAll L' l = some us
  | [], us, hx, _ => hx
  | x :: l, us, hx, h => by
    simp only [evalAll] at hx ⊢
    split at hx
    · cases hx
    · rename_i u hu
      split at hx
      · cases hx
      · rename_i vs hv
        cases hx
        have h1 : evalA L' x = some u := by
          cases x with
          | tmp t =>
            simp only [evalA] at hu ⊢
            exact h t u (by simp [evs, hu])
          | _ => exact hu
        have h2 : evalAll L' l = some vs := evalAll_congr hv (fun t u hm => h t u (by
          cases x with
          | tmp t' => simp only [evs]; split <;> simp [hm]
          | _ => exact hm))
        rw [h1, h2]
theorem blksOf_mem {H : List (Nat × Blk)} : ∀ {l : List Nat} {i : Nat} {B : Blk}, (i, B) ∈ blksOf H l → look H i = some B
  | [], _, _, h => by cases h
  | j :: l, i, B, h => by
    simp only [blksOf] at h
    split at h
    · rename_i A hA
      cases h with
      | head => exact hA
      | tail _ h => exact blksOf_mem h
    · exact blksOf_mem h
theorem blOf_mem {op : Op} {H : List (Nat × Blk)} {args : List AV} {i : Nat} {B : Blk} (h : (i, B) ∈ blOf op H args) : look H i = some B := by
  unfold blOf at h
  split at h <;> first | (cases h; done) | exact blksOf_mem h
theorem evs_mem {L : List (Nat × AV)} {l : List Operand} {t : Nat} {u : AV} (h : (t, u) ∈ evs L l) : look L t = some u := by
  induction l with
  | nil => cases h
  | cons x l ih =>
    cases x with
    | tmp t' =>
      simp only [evs] at h
      split at h
      · rename_i v hv
        cases h with
        | head => exact hv
        | tail _ h => exact ih h
      · exact ih h
    | const v => exact ih h
    | func f => exact ih h
    | global g => exact ih h
def EffOk (P : Program) (eff : Op → Option Nat → List AV → List (Nat × Blk) → Option (Dl × List Prop)) : Prop :=
  ∀ (o : Oper) args bl d O, eff o.op o.dst args bl = some (d, O) → allP O → OpOk P o args bl { d with dst := o.dst }
def Fact (P : Program) (n : Nat) (ops : Array Oper) (o : Oper) (x : Rec) : Prop :=
  x.d.dst = o.dst ∧ ∀ C E s a W Q, Sat C n E s a W → (∀ t u, (t, u) ∈ x.ev → look s.L t = some u) → (∀ id B, (id, B) ∈ x.bl → look s.H id = some B) →
    (x.d.fr = true → ∀ id B, x.d.upd = some (id, B) → s.fresh id = true) →
    if Region.wanted o (yielded ops a.tmps) then o.wp P a W (fun a' W' => ∃ E', Sat C n E' (s.put x.d) a' W') Q else ∃ E', Sat C n E' (s.put x.d) (a.put o.dst undef) W
theorem fact_rdo (he : EffOk P eff) {ops : Array Oper} {o : Oper} {g : List (Nat × AV)} {s : St} {r r' : List Orc} {x : Rec} {O : List Prop} (h : rdo P eff o g s r = some (x, r', O)) (hO : allP O)
    (hn : inN n o.dst = true) (hg : ∀ C E s' a W, Sat C n E s' a W → (∀ t u, (t, u) ∈ g → look s'.L t = some u) → Region.wanted o (yielded ops a.tmps) = true) (hgs : ∀ t u, (t, u) ∈ g → look s.L t = some u) :
    Fact P n ops o x ∧ (∀ t u, (t, u) ∈ x.ev → look s.L t = some u) ∧ (∀ id B, (id, B) ∈ x.bl → look s.H id = some B) := by
  have hN : ∀ i, o.dst = some i → i < n := by
    intro i hi
    rw [hi] at hn
    simpa [inN] using hn
  have core : ∀ (args : List AV) (d : Dl), evalAll s.L o.op.operands.toList = some args → OpOk P o args (blOf o.op s.H args) { d with dst := o.dst } →
      x = ⟨g ++ evs s.L o.op.operands.toList, blOf o.op s.H args, { d with dst := o.dst }⟩ →
      Fact P n ops o x ∧ (∀ t u, (t, u) ∈ x.ev → look s.L t = some u) ∧ (∀ id B, (id, B) ∈ x.bl → look s.H id = some B) := by
    intro args d ha hok hx
    subst hx
    refine ⟨⟨rfl, ?_⟩, ?_, fun id B hm => blOf_mem hm⟩
    · intro C E s' a W Q hS hev hbl hfr
      rw [if_pos (hg C E s' a W hS (fun t u hm => hev t u (List.mem_append_left _ hm)))]
      exact hok C n E s' a W Q hS (evalAll_R hS (evalAll_congr ha (fun t u hm => hev t u (List.mem_append_right _ hm)))) hbl hfr hN rfl
    · intro t u hm
      rcases List.mem_append.1 hm with hm | hm
      · exact hgs t u hm
      · exact evs_mem hm
  simp only [rdo] at h
  split at h
  · cases h
  · rename_i args ha
    split at h
    · rename_i d O1 hd
      cases h
      exact core args d ha (he o args _ d O hd hO) rfl
    · split at h
      · cases h
        exact core args _ ha hO.1 rfl
      · cases h
theorem fact_rstep (he : EffOk P eff) {ops : Array Oper} {o : Oper} {s : St} {r r' : List Orc} {x : Rec} {O : List Prop} (h : rstep P n eff ops o s r = some (x, r', O)) (hO : allP O) :
    Fact P n ops o x ∧ (∀ t u, (t, u) ∈ x.ev → look s.L t = some u) ∧ (∀ id B, (id, B) ∈ x.bl → look s.H id = some B) := by
  simp only [rstep] at h
  split at h
  · cases h
  · rename_i hn
    have hN : ∀ i, o.dst = some i → i < n := by
      intro i hi
      rw [hi] at hn
      simpa [inN] using hn
    split at h
    · rename_i hg
      exact fact_rdo he h hO hn (fun _ _ _ _ _ _ _ => by simp [Region.wanted, hg]) (fun _ _ hm => by cases hm)
    · rename_i g want hg
      split at h
      · cases h
      · rename_i t ht
        have skip : ∀ (y : AV), look s.L t = some y → (∀ C E s' a W, Sat C n E s' a W → look s'.L t = some y → Region.wanted o (yielded ops a.tmps) = false) → x = ⟨[(t, y)], [], ⟨o.dst, .un, none, false⟩⟩ →
            Fact P n ops o x ∧ (∀ t u, (t, u) ∈ x.ev → look s.L t = some u) ∧ (∀ id B, (id, B) ∈ x.bl → look s.H id = some B) := by
          intro y hy hw hx
          subst hx
          refine ⟨⟨rfl, ?_⟩, fun t' u hm => by rw [List.mem_singleton] at hm; cases hm; exact hy, fun _ _ hm => by cases hm⟩
          intro C E s' a W Q hS hev _ _
          rw [if_neg (by rw [hw C E s' a W hS (hev t y List.mem_cons_self)]; simp)]
          exact ⟨E, hS.pure (d := ⟨o.dst, .un, none, false⟩) hN rfl (fun _ => rfl)⟩
        split at h
        · rename_i hy
          cases h
          refine skip .un hy ?_ rfl
          intro C E s' a W hS hl
          obtain ⟨u, h1, h2⟩ := hS.slots t _ hl
          obtain rfl := h2
          simp [Region.wanted, hg, yielded, ht, h1, undef]
        · rename_i b hy
          have hw : ∀ C E s' a W, Sat C n E s' a W → look s'.L t = some (.c (.sc (.v (.bool b)))) → Region.wanted o (yielded ops a.tmps) = (b == want) := by
            intro C E s' a W hS hl
            obtain ⟨u, h1, h2⟩ := hS.slots t _ hl
            obtain ⟨rfl, _⟩ := h2
            simp [Region.wanted, hg, yielded, ht, h1]
          split at h
          · rename_i d r1
            split at h
            · rename_i hd
              split at h
              · rename_i y r2 O2 hr
                cases h
                have hbd : b = d := hO.1
                refine fact_rdo he hr hO.2 hn ?_ (fun t' u hm => by rw [List.mem_singleton] at hm; cases hm; exact hy)
                intro C E s' a W hS hl
                rw [hw C E s' a W hS (hl t _ List.mem_cons_self), hbd]; exact hd
              · cases h
            · rename_i hd
              cases h
              have hbd : b = d := hO.1
              refine skip _ hy ?_ rfl
              intro C E s' a W hS hl
              rw [hw C E s' a W hS hl, hbd]; exact hd
          · cases h
        · cases h
theorem wanted_none {ops : Array Oper} {o : Oper} {ts : Array Value} (h : o.guard = none) : Region.wanted o (yielded ops ts) = true := by simp [Region.wanted, h]
theorem rseq_list (he : EffOk P eff) {ops : Array Oper} : ∀ (l : List Oper) (s : St) (r : List Orc) (s2 : St) (r2 : List Orc) (O : List Prop),
    rseq P n eff ops l s r = some (s2, r2, O) → allP O →
    ∀ C E a W (Q : Exit → Act → World → Prop), Sat C n E s a W → (∀ E' a' W', Sat C n E' s2 a' W' → Q .normal a' W') → wpList P ops Q l a W
  | [], s, r, s2, r2, O, h, _, C, E, a, W, Q, hS, hQ => by
    cases h; exact wpList_nil (hQ E a W hS)
  | o :: l, s, r, s2, r2, O, h, hO, C, E, a, W, Q, hS, hQ => by
    simp only [rseq] at h
    split at h
    · split at h
      · rename_i s' r'
        split at h
        · rename_i hg
          split at h
          · cases h
          · rename_i s3 r3 O3 hr
            cases h
            have hop := hO.1 C E a W Q hS
            refine wpList_step (fun K hK => ?_)
            rw [if_pos (wanted_none hg)]
            exact Oper.wp_mono (fun a' W' ⟨E', hS'⟩ => hK a' W' (rseq_list he l _ _ _ _ O3 hr hO.2 C E' a' W' Q hS' hQ)) hop
        · cases h
      · cases h
    · rename_i x r1 O1 hx
      split at h
      · cases h
      · rename_i hfr
        split at h
        · cases h
        · rename_i s3 r3 O3 hr
          cases h
          obtain ⟨hO1, hO2⟩ := allP_append hO
          obtain ⟨⟨_, hf⟩, hev, hbl⟩ := fact_rstep he hx hO1
          have hf := hf C E s a W Q hS hev hbl (freshOk_spec hfr)
          have ih : ∀ E' a' W', Sat C n E' (s.put x.d) a' W' → wpList P ops Q l a' W' := fun E' a' W' hS' =>
            rseq_list he l (s.put x.d) r1 _ _ O3 hr hO2 C E' a' W' Q hS' hQ
          refine wpList_step (fun K hK => ?_)
          split
          · rename_i hw
            rw [if_pos hw] at hf
            exact Oper.wp_mono (fun a' W' ⟨E', hS'⟩ => hK a' W' (ih E' a' W' hS')) hf
          · rename_i hw
            rw [if_neg hw] at hf
            obtain ⟨E', hS'⟩ := hf
            exact hK _ _ (ih E' _ _ hS')
theorem rops_facts (he : EffOk P eff) {ops : Array Oper} : ∀ (l : List Oper) (s : St) (r : List Orc) (s2 : St) (r2 : List Orc) (O : List Prop) (xs : List Rec),
    rops P n eff ops l s r = some (s2, r2, O, xs) → allP O →
    xs.length = l.length ∧ s2 = xs.foldl (fun s x => s.put x.d) s ∧ ∀ i o x, l[i]? = some o → xs[i]? = some x → Fact P n ops o x ∧ (∀ t u, (t, u) ∈ x.ev → look ((xs.take i).foldl (fun s x => s.put x.d) s).L t = some u) ∧ (∀ id B, (id, B) ∈ x.bl → look ((xs.take i).foldl (fun s x => s.put x.d) s).H id = some B)
  | [], s, r, s2, r2, O, xs, h, _ => by
    cases h
    exact ⟨rfl, rfl, fun i o x h => by simp at h⟩
  | o :: l, s, r, s2, r2, O, xs, h, hO => by
    simp only [rops] at h
    split at h
    · cases h
    · rename_i x r1 O1 hx
      split at h
      · cases h
      · split at h
        · cases h
        · rename_i s3 r3 O3 ys hr
          cases h
          obtain ⟨hO1, hO2⟩ := allP_append hO
          obtain ⟨h1, h2, h3⟩ := rops_facts he l (s.put x.d) r1 _ _ O3 ys hr hO2
          refine ⟨by simp [h1], by rw [h2]; rfl, ?_⟩
          intro i o' x' ho hx'
          cases i with
          | zero =>
            simp only [List.getElem?_cons_zero, Option.some.injEq] at ho hx'
            subst ho; subst hx'
            exact fact_rstep he hx hO1
          | succ i => exact h3 i o' x' (by simpa using ho) (by simpa using hx')
end
theorem put_L (s : St) (d : Dl) (t : Nat) : look (s.put d).L t = if d.dst = some t then some d.val else look s.L t := by
  cases hd : d.dst with
  | none => simp [St.put, hd]
  | some i => simp only [St.put, hd, look_cons, Option.some.injEq]
theorem put_H (s : St) (d : Dl) (i : Nat) : look (s.put d).H i = match d.upd with | some (j, B) => if j = i then some B else look s.H i | none => look s.H i := by
  cases hd : d.upd with
  | none => simp [St.put, hd]
  | some q => obtain ⟨j, B⟩ := q; simp only [St.put, hd, look_cons]
theorem put_H_ne (s : St) (d : Dl) (i : Nat) (h : d.id ≠ some i) : look (s.put d).H i = look s.H i := by
  rw [put_H]
  cases hd : d.upd with
  | none => rfl
  | some q => obtain ⟨j, B⟩ := q; simp only [Dl.id, hd, Option.map_some, ne_eq, Option.some.injEq] at h; simp [h]
theorem put_fresh {s : St} {d : Dl} {i : Nat} (h : s.fresh i = true) (hd : d.has i = false) : (s.put d).fresh i = true := by
  simp only [St.fresh, Bool.and_eq_true, Bool.not_eq_true'] at h ⊢
  simp only [Dl.has, Bool.or_eq_false_iff] at hd
  constructor
  · cases hx : d.dst with
    | none => simpa [St.put, hx] using h.1
    | some t => simp [St.put, hx, lHas, hd.1, h.1]
  · cases hx : d.upd with
    | none => simpa [St.put, hx] using h.2
    | some q =>
      obtain ⟨j, B⟩ := q
      rw [hx] at hd
      simp only [Bool.or_eq_false_iff] at hd
      simp [St.put, hx, hHas, hd.2.1, hd.2.2, h.2]
def sift (sel : Nat → Bool) : Nat → List Rec → St → St
  | _, [], s => s
  | k, x :: xs, s => sift sel (k + 1) xs (if sel k = true then s.put x.d else s)
theorem sift_L {sel sel' : Nat → Bool} {t : Nat} : ∀ (xs : List Rec) (k : Nat) (s s' : St), look s.L t = look s'.L t →
    (∀ j x, xs[j]? = some x → sel (k + j) ≠ sel' (k + j) → x.d.dst ≠ some t) → look (sift sel k xs s).L t = look (sift sel' k xs s').L t
  | [], _, _, _, h, _ => h
  | x :: xs, k, s, s', h, hd => by
    simp only [sift]
    refine sift_L xs (k + 1) _ _ ?_ (fun j y hy hne => hd (j + 1) y (by simpa using hy) (by rw [show k + (j + 1) = k + 1 + j by omega]; exact hne))
    have h0 := hd 0 x rfl
    simp only [Nat.add_zero] at h0
    cases h1 : sel k <;> cases h2 : sel' k
    · simpa using h
    · simp only [Bool.false_eq_true, if_false, if_true, put_L]
      rw [if_neg (h0 (by rw [h1, h2]; simp))]; exact h
    · simp only [Bool.false_eq_true, if_false, if_true, put_L]
      rw [if_neg (h0 (by rw [h1, h2]; simp))]; exact h
    · simp only [if_true, put_L]
      split
      · rfl
      · exact h
theorem sift_H {sel sel' : Nat → Bool} {t : Nat} : ∀ (xs : List Rec) (k : Nat) (s s' : St), look s.H t = look s'.H t →
    (∀ j x, xs[j]? = some x → sel (k + j) ≠ sel' (k + j) → x.d.id ≠ some t) → look (sift sel k xs s).H t = look (sift sel' k xs s').H t
  | [], _, _, _, h, _ => h
  | x :: xs, k, s, s', h, hd => by
    simp only [sift]
    refine sift_H xs (k + 1) _ _ ?_ (fun j y hy hne => hd (j + 1) y (by simpa using hy) (by rw [show k + (j + 1) = k + 1 + j by omega]; exact hne))
    have h0 := hd 0 x rfl
    simp only [Nat.add_zero] at h0
    cases h1 : sel k <;> cases h2 : sel' k
    · simpa using h
    · simp only [Bool.false_eq_true, if_false, if_true]
      rw [put_H_ne _ _ _ (h0 (by rw [h1, h2]; simp))]; exact h
    · simp only [Bool.false_eq_true, if_false, if_true]
      rw [put_H_ne _ _ _ (h0 (by rw [h1, h2]; simp))]; exact h
    · simp only [if_true]
      rw [put_H, put_H]
      split
      · split
        · rfl
        · exact h
      · exact h
theorem sift_none : ∀ (xs : List Rec) (k : Nat) (s : St), sift (fun _ => false) k xs s = s
  | [], _, _ => rfl
  | _ :: xs, k, s => by simp only [sift]; exact sift_none xs (k + 1) s
theorem sift_all {sel : Nat → Bool} : ∀ (xs : List Rec) (k : Nat) (s : St), (∀ j, j < xs.length → sel (k + j) = true) → sift sel k xs s = xs.foldl (fun s x => s.put x.d) s
  | [], _, _, _ => rfl
  | x :: xs, k, s, h => by
    simp only [sift, List.foldl_cons]
    rw [if_pos (by simpa using h 0 (by simp)), sift_all xs (k + 1) _ (fun j hj => by rw [show k + 1 + j = k + (j + 1) by omega]; exact h (j + 1) (by simpa using hj))]
theorem sift_take : ∀ (xs : List Rec) (i k : Nat) (s : St), sift (fun j => decide (j < k + i)) k xs s = (xs.take i).foldl (fun s x => s.put x.d) s
  | [], i, _, _ => by simp [sift]
  | x :: xs, 0, k, s => by
    simp only [sift, Nat.add_zero, List.take_zero, List.foldl_nil]
    rw [if_neg (by simp)]
    have : ∀ (ys : List Rec) (m : Nat), k ≤ m → sift (fun j => decide (j < k)) m ys s = s := by
      intro ys
      induction ys with
      | nil => intro m _; rfl
      | cons y ys ih => intro m hm; simp only [sift]; rw [if_neg (by simp; omega)]; exact ih (m + 1) (by omega)
    exact this xs (k + 1) (by omega)
  | x :: xs, i + 1, k, s => by
    simp only [sift, List.take_succ_cons, List.foldl_cons]
    rw [if_pos (by simp)]
    have := sift_take xs i (k + 1) (s.put x.d)
    rw [← this]
    rw [show k + 1 + i = k + (i + 1) by omega]
theorem sift_last {sel : Nat → Bool} {t : Nat} : ∀ (xs : List Rec) (k : Nat) (s : St) (i : Nat) (x : Rec), xs[i]? = some x → sel (k + i) = true → x.d.dst = some t →
    (∀ j y, i < j → xs[j]? = some y → sel (k + j) = true → y.d.dst ≠ some t) → look (sift sel k xs s).L t = some x.d.val
  | [], _, _, i, _, h, _, _, _ => by simp at h
  | y :: xs, k, s, 0, x, h, hs, hd, hl => by
    simp only [List.getElem?_cons_zero, Option.some.injEq] at h
    subst h
    simp only [sift]
    rw [if_pos (by simpa using hs)]
    have := sift_L (sel := sel) (sel' := fun _ => false) (t := t) xs (k + 1) (s.put y.d) (s.put y.d) rfl (fun j z hz hne => hl (j + 1) z (by omega) (by simpa using hz) (by
      rw [show k + (j + 1) = k + 1 + j by omega]
      simpa using hne))
    rw [this, sift_none, put_L, if_pos hd]
  | y :: xs, k, s, i + 1, x, h, hs, hd, hl => by
    simp only [sift]
    exact sift_last xs (k + 1) _ i x (by simpa using h) (by rw [show k + 1 + i = k + (i + 1) by omega]; exact hs) hd (fun j z hj hz hsel => hl (j + 1) z (by omega) (by simpa using hz) (by rw [show k + (j + 1) = k + 1 + j by omega]; exact hsel))
theorem sift_lastH {sel : Nat → Bool} {t : Nat} {B : Blk} : ∀ (xs : List Rec) (k : Nat) (s : St) (i : Nat) (x : Rec), xs[i]? = some x → sel (k + i) = true → x.d.upd = some (t, B) →
    (∀ j y, i < j → xs[j]? = some y → sel (k + j) = true → y.d.id ≠ some t) → look (sift sel k xs s).H t = some B
  | [], _, _, i, _, h, _, _, _ => by simp at h
  | y :: xs, k, s, 0, x, h, hs, hd, hl => by
    simp only [List.getElem?_cons_zero, Option.some.injEq] at h
    subst h
    simp only [sift]
    rw [if_pos (by simpa using hs)]
    have := sift_H (sel := sel) (sel' := fun _ => false) (t := t) xs (k + 1) (s.put y.d) (s.put y.d) rfl (fun j z hz hne => hl (j + 1) z (by omega) (by simpa using hz) (by
      rw [show k + (j + 1) = k + 1 + j by omega]
      simpa using hne))
    rw [this, sift_none, put_H, hd]
    simp
  | y :: xs, k, s, i + 1, x, h, hs, hd, hl => by
    simp only [sift]
    exact sift_lastH xs (k + 1) _ i x (by simpa using h) (by rw [show k + 1 + i = k + (i + 1) by omega]; exact hs) hd (fun j z hj hz hsel => hl (j + 1) z (by omega) (by simpa using hz) (by rw [show k + (j + 1) = k + 1 + j by omega]; exact hsel))
theorem sift_fresh {sel : Nat → Bool} {d : Nat} : ∀ (xs : List Rec) (k : Nat) (s : St), s.fresh d = true → (∀ j y, xs[j]? = some y → sel (k + j) = true → y.d.has d = false) → (sift sel k xs s).fresh d = true
  | [], _, _, h, _ => h
  | x :: xs, k, s, h, hd => by
    simp only [sift]
    refine sift_fresh xs (k + 1) _ ?_ (fun j y hy hs => hd (j + 1) y (by simpa using hy) (by rw [show k + (j + 1) = k + 1 + j by omega]; exact hs))
    split
    · rename_i hk; exact put_fresh h (hd 0 x rfl hk)
    · exact h
theorem keyIn_spec {α : Type} {i : Nat} : ∀ {l : List (Nat × α)}, keyIn i l = false → ∀ j u, (j, u) ∈ l → j ≠ i
  | [], _, _, _, h => by cases h
  | (m, v) :: l, h, j, u, hm => by
    simp only [keyIn, Bool.or_eq_false_iff] at h
    cases hm with
    | head => intro e; subst e; simp at h
    | tail _ hm => exact keyIn_spec h.2 j u hm
theorem oNe_spec {x y : Option Nat} (h : oNe x y = true) : ∀ t, x = some t → y ≠ some t := by
  rintro t rfl he
  subst he
  simp [oNe] at h
structure Apart (x y : Rec) : Prop where
  ev : ∀ t, x.d.dst = some t → ∀ j u, (j, u) ∈ y.ev → j ≠ t
  dst : ∀ t, x.d.dst = some t → y.d.dst ≠ some t
  bl : ∀ t, x.d.id = some t → ∀ j u, (j, u) ∈ y.bl → j ≠ t
  id : ∀ t, x.d.id = some t → y.d.id ≠ some t
  fr : x.d.fr = true → ∀ t, x.d.id = some t → y.d.has t = false
theorem apart2_spec {x y : Rec} (h : apart2 x y = true) : Apart x y ∧ Apart y x := by
  simp only [apart2, Bool.and_eq_true] at h
  obtain ⟨⟨⟨⟨⟨h1, h2⟩, h3⟩, h4⟩, h5⟩, h6⟩ := h
  refine ⟨⟨?_, oNe_spec h3, ?_, oNe_spec h6, ?_⟩, ⟨?_, fun t hy hx => oNe_spec h3 t hx hy, ?_, fun t hy hx => oNe_spec h6 t hx hy, ?_⟩⟩
  · intro t ht j u hm; rw [ht] at h1; exact keyIn_spec (by simpa using h1) j u hm
  · intro t ht j u hm; rw [ht] at h4; simp only [Bool.and_eq_true, Bool.not_eq_true'] at h4; exact keyIn_spec h4.1 j u hm
  · intro hf t ht; rw [ht] at h4; simp [hf] at h4; exact h4.2
  · intro t ht j u hm; rw [ht] at h2; exact keyIn_spec (by simpa using h2) j u hm
  · intro t ht j u hm; rw [ht] at h5; simp only [Bool.and_eq_true, Bool.not_eq_true'] at h5; exact keyIn_spec h5.1 j u hm
  · intro hf t ht; rw [ht] at h5; simp [hf] at h5; exact h5.2
theorem apartAll_spec {i : Nat} {x : Rec} : ∀ {os : List Oper} {xs : List Rec}, apartAll i x os xs = true → ∀ (j : Nat) (o : Oper) (y : Rec), os[j]? = some o → xs[j]? = some y →
    (waitsFor o i = true ∨ apart2 x y = true) ∧ (y.d.fr = true → ∀ t, y.d.id = some t → x.d.has t = false)
  | [], _, _, j, _, _, h, _ => by simp at h
  | _ :: _, [], _, j, _, _, _, h => by simp at h
  | o :: os, y :: xs, h, j, o', y', ho, hy => by
    simp only [apartAll, Bool.and_eq_true, Bool.or_eq_true] at h
    cases j with
    | zero =>
      simp only [List.getElem?_cons_zero, Option.some.injEq] at ho hy
      subst ho; subst hy
      exact ⟨h.1.1, fun hf t ht => by have := h.1.2; simp [hf, ht] at this; exact this⟩
    | succ j => exact apartAll_spec h.2 j o' y' (by simpa using ho) (by simpa using hy)
theorem ordOk_spec {s : St} : ∀ {k : Nat} {os : List Oper} {xs : List Rec}, ordOk s k os xs = true → ∀ (i : Nat) (o : Oper) (x : Rec), os[i]? = some o → xs[i]? = some x →
    (∀ e ∈ o.after.toList, Region.binds .any e = true → e.on < k + i) ∧ freshOk s x = true ∧ ∀ (j : Nat) (o' : Oper) (y : Rec), i < j → os[j]? = some o' → xs[j]? = some y →
      (waitsFor o' (k + i) = true ∨ apart2 x y = true) ∧ (y.d.fr = true → ∀ t, y.d.id = some t → x.d.has t = false)
  | _, [], _, _, i, _, _, h, _ => by simp at h
  | _, _ :: _, [], _, i, _, _, _, h => by simp at h
  | k, o :: os, x :: xs, h, i, o', x', ho, hx => by
    simp only [ordOk, Bool.and_eq_true, List.all_eq_true, Bool.or_eq_true, Bool.not_eq_true'] at h
    obtain ⟨⟨⟨h1, h2⟩, h3⟩, h4⟩ := h
    cases i with
    | zero =>
      simp only [List.getElem?_cons_zero, Option.some.injEq] at ho hx
      subst ho; subst hx
      refine ⟨fun e he hb => ?_, h2, fun j o' y hj ho' hy => ?_⟩
      · rcases h1 e he with h | h
        · rw [h] at hb; cases hb
        · simpa using h
      · obtain ⟨j, rfl⟩ : ∃ m, j = m + 1 := ⟨j - 1, by omega⟩
        exact apartAll_spec h3 j o' y (by simpa using ho') (by simpa using hy)
    | succ i =>
      obtain ⟨g1, g2, g3⟩ := ordOk_spec h4 i o' x' (by simpa using ho) (by simpa using hx)
      refine ⟨fun e he hb => by have := g1 e he hb; omega, g2, fun j o2 y hj ho2 hy => ?_⟩
      obtain ⟨j, rfl⟩ : ∃ m, j = m + 1 := ⟨j - 1, by omega⟩
      have := g3 j o2 y (by omega) (by simpa using ho2) (by simpa using hy)
      rwa [show k + (i + 1) = k + 1 + i by omega]
section
variable {P : Program} {n : Nat} {eff : Op → Option Nat → List AV → List (Nat × Blk) → Option (Dl × List Prop)}
def unl (m : Nat) (listed : Array Bool) : Nat := ((List.range m).filter fun i => !listed.getD i true).length
theorem unl_set {m i : Nat} {listed : Array Bool} (hi : i < m) (h : listed.getD i true = false) : unl m (listed.setIfInBounds i true) < unl m listed := by
  unfold unl
  have e : (List.range m).filter (fun j => !(listed.setIfInBounds i true).getD j true) = ((List.range m).filter fun j => !listed.getD j true).filter fun j => j != i := by
    rw [List.filter_filter]
    refine List.filter_congr (fun j _ => ?_)
    by_cases hj : i = j
    · subst hj
      have : i < listed.size := by
        rcases Nat.lt_or_ge i listed.size with h' | h'
        · exact h'
        · simp [Array.getElem?_eq_none h'] at h
      simp [this]
    · rw [getD_set_ne true hj]
      have : (j != i) = true := by simpa using fun e => hj e.symm
      simp [this]
  rw [e]
  refine List.length_filter_lt_length_iff_exists.2 ⟨i, ?_, by simp⟩
  rw [List.mem_filter]
  exact ⟨List.mem_range.2 hi, by rw [h]; rfl⟩
theorem any_ok {ops : Array Oper} {xs : List Rec} {s0 : St} (hlen : xs.length = ops.size)
    (hf : ∀ i o x, ops[i]? = some o → xs[i]? = some x → Fact P n ops o x ∧ (∀ t u, (t, u) ∈ x.ev → look ((xs.take i).foldl (fun s x => s.put x.d) s0).L t = some u) ∧ (∀ id B, (id, B) ∈ x.bl → look ((xs.take i).foldl (fun s x => s.put x.d) s0).H id = some B))
    (hord : ordOk s0 0 ops.toList xs = true) {C : Cx} {Q : Exit → Act → World → Prop} (hQ : ∀ E a W, Sat C n E (xs.foldl (fun s x => s.put x.d) s0) a W → Q .normal a W) :
    ∀ (fuel : Nat) (listed : Array Bool) (E : En) (a : Act) (W : World), listed.size = ops.size → unl ops.size listed ≤ fuel →
      (∀ j o, ops[j]? = some o → listed.getD j true = true → ∀ e ∈ o.after, Region.binds .any e = true → listed.getD e.on false = true) →
      Sat C n E (sift (fun j => listed.getD j false) 0 xs s0) a W → wpAny P .any ops Q fuel listed a W := by
  have hready : ∀ (listed : Array Bool) (E : En) (a : Act) (W : World), listed.size = ops.size → Sat C n E (sift (fun j => listed.getD j false) 0 xs s0) a W → Region.ready .any ops listed = [] → Q .normal a W := by
    intro listed E a W hsz hS hr
    have hall : ∀ j, j < ops.size → listed.getD j true = true := by
      intro j
      induction j using Nat.strongRecOn with
      | _ j ih =>
        intro hj
        cases hl : listed.getD j true with
        | true => rfl
        | false =>
          exfalso
          obtain ⟨o, ho⟩ : ∃ o, ops[j]? = some o := ⟨ops[j], Array.getElem?_eq_getElem hj⟩
          obtain ⟨x, hx⟩ : ∃ x, xs[j]? = some x := ⟨xs[j]'(by omega), List.getElem?_eq_getElem (by omega)⟩
          have hm : j ∈ Region.ready .any ops listed := mem_ready.2 ⟨hl, o, ho, fun e he hb => by
            have hlt := (ordOk_spec hord j o x (by simpa using ho) hx).1 e (by simpa using he) hb
            have := ih e.on (by omega) (by omega)
            have hin : e.on < listed.size := by omega
            simpa [hin] using this⟩
          rw [hr] at hm
          cases hm
    refine hQ E a W ?_
    rw [← sift_all (sel := fun j => listed.getD j false) xs 0 s0 (fun j hj => by
      have := hall j (by omega)
      have hin : j < listed.size := by omega
      simpa [hin] using this)]
    exact hS
  intro fuel
  induction fuel with
  | zero =>
    intro listed E a W hsz hu _ hS
    have hr : Region.ready .any ops listed = [] := by
      cases hr : Region.ready .any ops listed with
      | nil => rfl
      | cons i l =>
        have hm : i ∈ Region.ready .any ops listed := by rw [hr]; exact List.mem_cons_self
        obtain ⟨h1, o, ho, _⟩ := mem_ready.1 hm
        have := unl_set (Array.getElem?_eq_some_iff.1 ho).1 h1
        omega
    exact ⟨hr, hready listed E a W hsz hS hr⟩
  | succ fuel ih =>
    intro listed E a W hsz hu hcl hS
    refine ⟨hready listed E a W hsz hS, fun i hi => ?_⟩
    obtain ⟨hun, o, ho, hall⟩ := mem_ready.1 hi
    have hi' : i < ops.size := (Array.getElem?_eq_some_iff.1 ho).1
    obtain ⟨x, hx⟩ : ∃ x, xs[i]? = some x := ⟨xs[i]'(by omega), List.getElem?_eq_getElem (by omega)⟩
    obtain ⟨hF, hev, hbl⟩ := hf i o x ho hx
    have hin : i < listed.size := by omega
    have hsel : listed.getD i false = false := by
      have : listed[i] = false := by simpa [hin] using hun
      simp [hin, this]
    obtain ⟨hlt, hfresh, hap⟩ := ordOk_spec hord i o x (by simpa using ho) hx
    simp only [Nat.zero_add] at hlt hap
    -- the others keep apart from this one
    have sep : ∀ j y, xs[j]? = some y → j ≠ i → (j < i → listed.getD j false = false) → (i < j → listed.getD j false = true) → Apart x y ∧ Apart y x := by
      intro j y hy hji h1 h2
      have hj : j < ops.size := by have := (List.getElem?_eq_some_iff.1 hy).1; omega
      obtain ⟨oj, hoj⟩ : ∃ o, ops[j]? = some o := ⟨ops[j], Array.getElem?_eq_getElem hj⟩
      rcases Nat.lt_or_gt_of_ne hji with hlt' | hgt
      · obtain ⟨_, _, hap'⟩ := ordOk_spec hord j oj y (by simpa using hoj) hy
        rcases (hap' i o x hlt' (by simpa using ho) hx).1 with hw | hw
        · exfalso
          simp only [waitsFor, List.any_eq_true, Bool.and_eq_true, Nat.zero_add] at hw
          obtain ⟨e, he, hb, heq⟩ := hw
          have := hall e (by simpa using he) hb
          rw [Nat.eq_of_beq_eq_true heq, h1 hlt'] at this
          cases this
        · exact (apart2_spec hw).symm
      · rcases (hap j oj y hgt (by simpa using hoj) hy).1 with hw | hw
        · exfalso
          simp only [waitsFor, List.any_eq_true, Bool.and_eq_true] at hw
          obtain ⟨e, he, hb, heq⟩ := hw
          have hjl : listed.getD j true = true := by
            have := h2 hgt
            have hjn : j < listed.size := by omega
            simpa [hjn] using this
          have := hcl j oj hoj hjl e (by simpa using he) hb
          rw [Nat.eq_of_beq_eq_true heq, hsel] at this
          cases this
        · exact apart2_spec hw
    have diff : ∀ j y, xs[j]? = some y → listed.getD j false ≠ decide (j < i) → Apart x y ∧ Apart y x := by
      intro j y hy hne
      refine sep j y hy (fun e => by subst e; rw [hsel] at hne; simp at hne) (fun h => by simpa [h] using hne) (fun h => by
        have : ¬ j < i := by omega
        simpa [this] using hne)
    have hev' : ∀ t u, (t, u) ∈ x.ev → look (sift (fun j => listed.getD j false) 0 xs s0).L t = some u := by
      intro t u hm
      rw [← hev t u hm, ← sift_take xs i 0 s0]
      refine sift_L xs 0 s0 s0 rfl (fun j y hy hne he => ?_)
      simp only [Nat.zero_add] at hne
      exact (diff j y hy hne).2.ev t he t u hm rfl
    have hbl' : ∀ id B, (id, B) ∈ x.bl → look (sift (fun j => listed.getD j false) 0 xs s0).H id = some B := by
      intro t u hm
      rw [← hbl t u hm, ← sift_take xs i 0 s0]
      refine sift_H xs 0 s0 s0 rfl (fun j y hy hne he => ?_)
      simp only [Nat.zero_add] at hne
      exact (diff j y hy hne).2.bl t he t u hm rfl
    have hfr' : x.d.fr = true → ∀ id B, x.d.upd = some (id, B) → (sift (fun j => listed.getD j false) 0 xs s0).fresh id = true := by
      intro hfx id B hu
      refine sift_fresh xs 0 s0 (freshOk_spec hfresh hfx id B hu) (fun j y hy hs => ?_)
      simp only [Nat.zero_add] at hs
      have hid : x.d.id = some id := by simp [Dl.id, hu]
      have hji : j ≠ i := fun e => by subst e; rw [hsel] at hs; cases hs
      -- whatever was carried out before this one does not wait for it
      have hj : j < ops.size := by have := (List.getElem?_eq_some_iff.1 hy).1; omega
      obtain ⟨oj, hoj⟩ : ∃ o, ops[j]? = some o := ⟨ops[j], Array.getElem?_eq_getElem hj⟩
      rcases Nat.lt_or_gt_of_ne hji with hlt' | hgt
      · obtain ⟨_, _, hap'⟩ := ordOk_spec hord j oj y (by simpa using hoj) hy
        exact (hap' i o x hlt' (by simpa using ho) hx).2 hfx id hid
      · exact (sep j y hy hji (fun h => by omega) (fun _ => hs)).1.fr hfx id hid
    have hF := hF.2 C E (sift (fun j => listed.getD j false) 0 xs s0) a W Q hS hev' hbl' hfr'
    -- the state behind it is that of one more
    have hget : ∀ j, (listed.setIfInBounds i true).getD j false = if j = i then true else listed.getD j false := by
      intro j
      by_cases hj : j = i
      · subst hj; simp [hin]
      · rw [getD_set_ne false (fun e => hj e.symm), if_neg hj]
    have later : ∀ j y, i < j → xs[j]? = some y → listed.getD j false = true → Apart x y := fun j y hij hy hs => (sep j y hy (by omega) (fun h => by omega) (fun _ => hs)).1
    have hL : ∀ t, look (sift (fun j => (listed.setIfInBounds i true).getD j false) 0 xs s0).L t = look ((sift (fun j => listed.getD j false) 0 xs s0).put x.d).L t := by
      intro t
      rw [put_L]
      split
      · rename_i ht
        refine sift_last xs 0 s0 i x hx (by simp only [Nat.zero_add, hget, if_true]) ht (fun j y hij hy hs he => ?_)
        simp only [Nat.zero_add, hget, if_neg (show ¬ j = i by omega)] at hs
        exact (later j y hij hy hs).dst t ht he
      · rename_i ht
        refine sift_L xs 0 s0 s0 rfl (fun j y hy hne => ?_)
        simp only [Nat.zero_add, hget] at hne
        by_cases hj : j = i
        · subst hj; rw [hx] at hy; cases hy; exact ht
        · rw [if_neg hj] at hne; exact absurd rfl hne
    have hH : ∀ t, look (sift (fun j => (listed.setIfInBounds i true).getD j false) 0 xs s0).H t = look ((sift (fun j => listed.getD j false) 0 xs s0).put x.d).H t := by
      intro t
      by_cases ht : x.d.id = some t
      · cases hu : x.d.upd with
        | none => simp [Dl.id, hu] at ht
        | some q =>
          obtain ⟨t', B⟩ := q
          simp only [Dl.id, hu, Option.map_some, Option.some.injEq] at ht
          subst ht
          rw [put_H, hu]
          simp only [if_true]
          refine sift_lastH xs 0 s0 i x hx (by simp only [Nat.zero_add, hget, if_true]) hu (fun j y hij hy hs he => ?_)
          simp only [Nat.zero_add, hget, if_neg (show ¬ j = i by omega)] at hs
          exact (later j y hij hy hs).id t' (by simp [Dl.id, hu]) he
      · rw [put_H_ne _ _ _ ht]
        refine sift_H xs 0 s0 s0 rfl (fun j y hy hne => ?_)
        simp only [Nat.zero_add, hget] at hne
        by_cases hj : j = i
        · subst hj; rw [hx] at hy; cases hy; exact ht
        · rw [if_neg hj] at hne; exact absurd rfl hne
    have goOn : ∀ E' a' W', Sat C n E' ((sift (fun j => listed.getD j false) 0 xs s0).put x.d) a' W' → wpAny P .any ops Q fuel (listed.setIfInBounds i true) a' W' := by
      intro E' a' W' hS'
      refine ih (listed.setIfInBounds i true) E' a' W' (by simp [hsz]) (by have := unl_set hi' hun; omega) ?_ (hS'.look_congr hL hH)
      intro j oj hoj hl e he hb
      by_cases hj : i = j
      · subst hj
        rw [ho] at hoj; cases hoj
        exact getD_set_true (hall e he hb)
      · rw [getD_set_ne true hj] at hl
        exact getD_set_true (hcl j oj hoj hl e he hb)
    unfold wpOp
    simp only [ho]
    split
    · rename_i hw
      rw [if_pos hw] at hF
      exact .inl (Oper.wp_mono (fun a' W' ⟨E', hS'⟩ => goOn E' a' W' hS') hF)
    · rename_i hw
      rw [if_neg hw] at hF
      obtain ⟨E', hS'⟩ := hF
      exact goOn E' _ W hS'
end
section
variable {P : Program} {n : Nat} {eff : Op → Option Nat → List AV → List (Nat × Blk) → Option (Dl × List Prop)}
theorem Ent.refl (s : St) : Ent n s s := fun _ E _ _ h => ⟨E, h⟩
theorem Ent.trans {s1 s2 s3 : St} (h : Ent n s1 s2) (k : Ent n s2 s3) : Ent n s1 s3 := fun C E a W hS => let ⟨E', h'⟩ := h C E a W hS; k C E' a W h'
theorem Ent.less {s s' : St} (hL : ∀ i x, look s'.L i = some x → look s.L i = some x) (hH : ∀ i x, look s'.H i = some x → look s.H i = some x) : Ent n s s' := fun _ E _ _ h => ⟨E, h.less hL hH⟩
theorem T.pre {c : Code} {s s' : St} {Q : AEx → St → Prop} (h : Ent n s s') (k : T P n c s' Q) : T P n c s Q := fun C E a W hS => let ⟨E', h'⟩ := h C E a W hS; k C E' a W h'
theorem T.mono {c : Code} {s : St} {Q Q' : AEx → St → Prop} (h : T P n c s Q) (hq : ∀ e s, Q e s → Q' e s) : T P n c s Q' := fun C E a W hS =>
  Code.wp_mono (fun _ _ _ ⟨x, s', E', he, hQ, hS'⟩ => ⟨x, s', E', he, hq x s' hQ, hS'⟩) (h C E a W hS)
theorem T.post {c : Code} {s : St} {Q Q' : AEx → St → Prop} (h : T P n c s Q) (hq : ∀ e s, Q e s → ∃ s', Q' e s' ∧ Ent n s s') : T P n c s Q' := fun C E a W hS =>
  Code.wp_mono (fun _ a' W' ⟨x, s', E', he, hQ, hS'⟩ => let ⟨s2, h2, h3⟩ := hq x s' hQ; let ⟨E2, hS2⟩ := h3 C E' a' W' hS'; ⟨x, s2, E2, he, h2, hS2⟩) (h C E a W hS)
theorem pre_sound : ∀ {r : List Orc} {s s0 : St} {r0 : List Orc} {O0 : List Prop}, pre n s r = (s0, r0, O0) → allP O0 → Ent n s s0
  | [], s, s0, r0, O0, h, _ => by cases h; exact Ent.refl s
  | .b d :: r, s, s0, r0, O0, h, _ => by cases h; exact Ent.refl s
  | .op d :: r, s, s0, r0, O0, h, _ => by cases h; exact Ent.refl s
  | .lp e s' :: r, s, s0, r0, O0, h, _ => by cases h; exact Ent.refl s
  | .rchk k s' :: r, s, s0, r0, O0, h, _ => by cases h; exact Ent.refl s
  | .rcut k ls hs :: r, s, s0, r0, O0, h, _ => by cases h; exact Ent.refl s
  | .cut ls hs :: r, s, s0, r0, O0, h, hO => (Ent.less (fun _ _ h => restr_look h) (fun _ _ h => restr_look h)).trans (pre_sound (r := r) (s := ⟨restr s.L ls, restr s.H hs⟩) h hO)
  | .chk s' :: r, s, s0, r0, O0, h, hO => by
    simp only [pre, Prod.mk.injEq] at h
    obtain ⟨rfl, rfl, rfl⟩ := h
    exact hO.1.trans (pre_sound (r := r) rfl hO.2)
theorem preR_sound {k : Nat} : ∀ {r : List Orc} {s s0 : St} {r0 : List Orc} {O0 : List Prop}, preR n k s r = (s0, r0, O0) → allP O0 → Ent n s s0
  | [], s, s0, r0, O0, h, _ => by cases h; exact Ent.refl s
  | .b d :: r, s, s0, r0, O0, h, _ => by cases h; exact Ent.refl s
  | .op d :: r, s, s0, r0, O0, h, _ => by cases h; exact Ent.refl s
  | .lp e s' :: r, s, s0, r0, O0, h, _ => by cases h; exact Ent.refl s
  | .chk s' :: r, s, s0, r0, O0, h, _ => by cases h; exact Ent.refl s
  | .cut ls hs :: r, s, s0, r0, O0, h, _ => by cases h; exact Ent.refl s
  | .rcut j ls hs :: r, s, s0, r0, O0, h, hO => by
    simp only [preR] at h
    split at h
    · exact (Ent.less (fun _ _ h => restr_look h) (fun _ _ h => restr_look h)).trans (preR_sound (r := r) (s := ⟨restr s.L ls, restr s.H hs⟩) h hO)
    · cases h; exact Ent.refl s
  | .rchk j s' :: r, s, s0, r0, O0, h, hO => by
    simp only [preR] at h
    split at h
    · simp only [Prod.mk.injEq] at h
      obtain ⟨rfl, rfl, rfl⟩ := h
      exact hO.1.trans (preR_sound (r := r) rfl hO.2)
    · cases h; exact Ent.refl s
theorem arun_sound (he : EffOk P eff) (hm : P.follows .mixedOrders = true) : ∀ (c : Code) {s : St} {r : List Orc} {e : AEx} {s' : St} {r' : List Orc} {O : List Prop},
    arun P n eff c s r = some (e, s', r', O) → allP O → T P n c s (fun x y => x = e ∧ y = s') := by
  intro c
  induction c with
  | skip => intro s r e s' r' O h _ C E a W hS; cases h; exact wp_skip ⟨.n, s, E, rfl, ⟨rfl, rfl⟩, hS⟩
  | region id ops draw =>
    intro s r e s' r' O h hO
    rcases hp : preR n id s r with ⟨s0, r0, O0⟩
    cases draw with
    | false =>
      simp only [arun, hp] at h
      split at h
      · cases h
      · rename_i s1 r1 O1 hr
        cases h
        obtain ⟨h0, h1⟩ := allP_append hO
        refine T.pre (preR_sound hp h0) (fun C E a W hS => ?_)
        exact wp_region_list (rseq_list he ops.toList s0 r0 _ _ O1 hr h1 C E a W _ hS (fun E' a' W' hS' => ⟨.n, _, E', rfl, ⟨rfl, rfl⟩, hS'⟩))
    | true =>
      simp only [arun, hp] at h
      split at h
      · rename_i s1 r1
        cases h
        obtain ⟨h0, h1⟩ := allP_append hO
        exact T.pre (preR_sound hp h0) h1.1
      split at h
      · cases h
      · rename_i s1 r1 O1 xs hr
        split at h
        · rename_i hord
          cases h
          obtain ⟨h0, h1⟩ := allP_append hO
          refine T.pre (preR_sound hp h0) (fun C E a W hS => ?_)
          obtain ⟨hlen, hs1, hf⟩ := rops_facts he ops.toList s0 r0 _ _ O1 xs hr h1
          refine wp_region_any hm ?_
          have hsz : (Array.replicate ops.size false).size = ops.size := Array.size_replicate
          refine any_ok (xs := xs) (s0 := s0) (by simpa using hlen) (fun i o x ho hx => hf i o x (by simpa using ho) hx) hord (C := C) (fun E' a' W' hS' => ⟨.n, _, E', rfl, ⟨rfl, hs1.symm⟩, hS'⟩) ops.size _ E a _ hsz ?_ ?_ ?_
          · unfold unl
            exact Nat.le_trans (List.length_filter_le _ _) (by simp)
          · intro j o ho hl
            have hj : j < ops.size := (Array.getElem?_eq_some_iff.1 ho).1
            simp [hj] at hl
          · have : (fun j => (Array.replicate ops.size false).getD j false) = fun _ => false := by
              funext j
              by_cases hj : j < ops.size
              · simp [hj]
              · simp [hj]
            rw [this, sift_none]
            exact hS.drew
        · cases h
  | seq x y ihx ihy =>
    intro s r e s' r' O h hO
    simp only [arun] at h
    split at h
    · rename_i s1 r1 O1 hx
      split at h
      · rename_i e2 s2 r2 O2 hy
        cases h
        obtain ⟨h0, h1⟩ := allP_append hO
        have tx := ihx hx h0
        have ty := ihy hy h1
        intro C E a W hS
        refine wp_seq (Code.wp_mono ?_ (tx C E a W hS))
        rintro e1 a1 W1 ⟨x1, s3, E1, rfl, ⟨rfl, rfl⟩, hS1⟩
        exact ty C E1 a1 W1 hS1
      · cases h
    · rename_i hne
      have tx := ihx h hO
      intro C E a W hS
      refine wp_seq (Code.wp_mono ?_ (tx C E a W hS))
      rintro e1 a1 W1 ⟨x1, s3, E1, rfl, ⟨rfl, rfl⟩, hS1⟩
      cases x1 with
      | n => exact absurd h (hne _ _ _)
      | x i => exact ⟨_, _, E1, rfl, ⟨rfl, rfl⟩, hS1⟩
      | r => exact ⟨_, _, E1, rfl, ⟨rfl, rfl⟩, hS1⟩
  | cond c x y ihx ihy =>
    intro s r e s' r' O h hO
    rcases hp : preR n 1000000 s r with ⟨s0, r0, O0⟩
    simp only [arun, hp] at h
    split at h
    · rename_i b hc
      split at h
      · rename_i r1
        split at h
        · rename_i e2 s2 r2 O2 hx
          cases h
          obtain ⟨h0, hb, h1⟩ := allP_append hO
          refine T.pre (preR_sound hp h0) (fun C E a W hS => ?_)
          obtain ⟨hc1, _⟩ := evalA_R hS hc
          rw [hb] at hc1
          exact wp_cond_true hc1 (ihx hx h1 C E a W hS)
        · cases h
      · rename_i r1
        split at h
        · rename_i e2 s2 r2 O2 hx
          cases h
          obtain ⟨h0, hb, h1⟩ := allP_append hO
          refine T.pre (preR_sound hp h0) (fun C E a W hS => ?_)
          obtain ⟨hc1, _⟩ := evalA_R hS hc
          rw [hb] at hc1
          exact wp_cond_false hc1 (ihy hx h1 C E a W hS)
        · cases h
      · cases h
    · cases h
  | block id c ih =>
    intro s r e s' r' O h hO
    simp only [arun] at h
    split at h
    · rename_i i s1 r1 O1 hx
      split at h
      · rename_i hid
        cases h
        have tx := ih hx hO
        intro C E a W hS
        refine wp_block (Code.wp_mono ?_ (tx C E a W hS))
        rintro e1 a1 W1 ⟨x1, s3, E1, rfl, ⟨rfl, rfl⟩, hS1⟩
        simp only [AEx.ex, Exit.inBlock, Nat.eq_of_beq_eq_true hid, if_true]
        exact ⟨.n, _, E1, rfl, ⟨rfl, rfl⟩, hS1⟩
      · rename_i hid
        cases h
        have tx := ih hx hO
        intro C E a W hS
        refine wp_block (Code.wp_mono ?_ (tx C E a W hS))
        rintro e1 a1 W1 ⟨x1, s3, E1, rfl, ⟨rfl, rfl⟩, hS1⟩
        have hne : i ≠ id := fun e => by subst e; simp at hid
        simp only [AEx.ex, Exit.inBlock, if_neg hne]
        exact ⟨.x i, _, E1, rfl, ⟨rfl, rfl⟩, hS1⟩
    · rename_i hne
      have tx := ih h hO
      intro C E a W hS
      refine wp_block (Code.wp_mono ?_ (tx C E a W hS))
      rintro e1 a1 W1 ⟨x1, s3, E1, rfl, ⟨rfl, rfl⟩, hS1⟩
      cases x1 with
      | n => exact ⟨_, _, E1, rfl, ⟨rfl, rfl⟩, hS1⟩
      | x i => exact absurd h (hne _ _ _ _)
      | r => exact ⟨_, _, E1, rfl, ⟨rfl, rfl⟩, hS1⟩
  | loop c ih =>
    intro s r e s' r' O h hO
    rcases hp : pre n s r with ⟨s0, r0, O0⟩
    simp only [arun, hp] at h
    split at h
    · cases h
      obtain ⟨h0, h1, _⟩ := allP_append hO
      exact T.pre (pre_sound hp h0) h1
    · cases h
  | exit id => intro s r e s' r' O h _ C E a W hS; cases h; exact wp_exit ⟨.x id, s, E, rfl, ⟨rfl, rfl⟩, hS⟩
  | ret =>
    intro s r e s' r' O h hO
    rcases hp : pre n s r with ⟨s0, r0, O0⟩
    simp only [arun, hp] at h
    cases h
    exact T.pre (pre_sound hp hO) (fun C E a W hS => wp_ret ⟨.r, _, E, rfl, ⟨rfl, rfl⟩, hS⟩)
  | _ => intro s r e s' r' O h; simp [arun] at h
theorem wp_loop_rel {c : Code} {Q : Exit → Act → World → Prop} (I : Nat → Act → World → Prop)
    (round : ∀ m a w, I m a w → c.wp P (Exit.then (fun a' w' => ∃ m', m' < m ∧ I m' a' w') Q) a w) {m : Nat} {a : Act} {w : World} (h0 : I m a w) : (Code.loop c).wp P Q a w := by
  intro b k cs
  have key : ∀ m a w, I m a w → ∃ e a' w', Q e a' w' ∧ Arrives P (lone (b.at a (.code c :: .inLoop c :: k)) cs w) b k cs e a' w' := by
    intro m
    induction m using Nat.strongRecOn with
    | _ m ih =>
      intro a w hI
      obtain ⟨e, a1, w1, hq, harr⟩ := round m a w hI b (.inLoop c :: k) cs
      cases e with
      | normal =>
        obtain ⟨m', hlt, hI1⟩ := hq
        obtain ⟨e2, a2, w2, hq2, harr2⟩ := ih m' hlt a1 w1 hI1
        exact ⟨e2, a2, w2, hq2, .of_steps (Steps.trans harr (.one step_inLoop)) harr2⟩
      | exit id => exact ⟨_, a1, w1, hq, .pass (x := .inLoop c) rfl (fun _ _ => .inl (by simp)) harr⟩
      | goto l => exact ⟨_, a1, w1, hq, .pass (x := .inLoop c) rfl (fun _ _ => .inl (by simp)) harr⟩
      | ret => exact ⟨_, a1, w1, hq, .pass (x := .inLoop c) rfl (fun _ _ => .inl (by simp)) harr⟩
      | panic ch => exact ⟨_, a1, w1, hq, .pass (x := .inLoop c) rfl (fun _ _ => .inl (by simp)) harr⟩
      | outgrown => exact ⟨_, a1, w1, hq, .pass (x := .inLoop c) rfl (fun _ _ => .inl (by simp)) harr⟩
  obtain ⟨e, a', w', hq, harr⟩ := key m a w h0
  exact ⟨e, a', w', hq, .of_steps (.one step_loop) harr⟩
theorem T.loop {c : Code} {Q : AEx → St → Prop} (I : Nat → St → Prop) (h : ∀ m s, I m s → T P n c s (fun e s' => (e = .n ∧ ∃ m', m' < m ∧ I m' s') ∨ (e ≠ .n ∧ Q e s'))) :
    ∀ m s, I m s → T P n (.loop c) s Q := by
  intro m s hI C E a W hS
  refine wp_loop_rel (fun m a W => ∃ s E, I m s ∧ Sat C n E s a W) ?_ (m := m) ⟨s, E, hI, hS⟩
  rintro m a W ⟨s, E, hI, hS⟩
  refine Code.wp_mono ?_ (h m s hI C E a W hS)
  rintro e a' W' ⟨x, s', E', rfl, hx, hS'⟩
  cases x with
  | n =>
    rcases hx with ⟨_, m', hlt, hI'⟩ | ⟨hne, _⟩
    · exact ⟨m', hlt, s', E', hI', hS'⟩
    · exact absurd rfl hne
  | x i =>
    rcases hx with ⟨h, _⟩ | ⟨_, hQ⟩
    · cases h
    · exact ⟨.x i, s', E', rfl, hQ, hS'⟩
  | r =>
    rcases hx with ⟨h, _⟩ | ⟨_, hQ⟩
    · cases h
    · exact ⟨.r, s', E', rfl, hQ, hS'⟩
theorem live_lt {C : Cx} {E : En} {s : St} {a : Act} {W : World} (hS : Sat C n E s a W) {j : Nat} {A : Blk} (hj : look s.H j = some A) (hl : A.live E j) : E.rho j < W.heap.size := by
  have hb := hS.blks j A hj
  cases A with
  | sg t l => obtain ⟨us, h1, _⟩ := hb; exact (Array.getElem?_eq_some_iff.1 h1).1
  | gr t k ws =>
    simp only [Blk.R] at hb
    cases hc : E.cap j with
    | none => exact absurd hc hl
    | some c => rw [hc] at hb; obtain ⟨us, h1, _⟩ := hb; exact (Array.getElem?_eq_some_iff.1 h1).1
  | dead => exact hl.elim
structure Pres (W W' : World) : Prop where
  os : W'.os = W.os
  tape : W'.tape = W.tape
  output : W'.output = W.output
  size : W.heap.size ≤ W'.heap.size
  block : ∀ b, b < W.heap.size → W'.heap[b]? = W.heap[b]?
def FnPost (E : En) (W : World) (res : AV) (v : Value) (W' : World) : Prop :=
  ∃ E' : En, res.R E' W' v ∧ Pres W W' ∧ ∀ b, E'.ro b → b < W'.heap.size ∧ (E.ro b ∨ W.heap.size ≤ b)
def Fn (P : Program) (f : FuncId) (args : List Cm) (res : AV) : Prop :=
  ∀ (E : En) (W : World) (us : List Value), (∀ b, E.ro b → b < W.heap.size) → cmsR E W args us →
    (∃ v, (callFunc f us.toArray).run P W = .ok (.value v) W ∧ FnPost E W res v W) ∨
    ((callFunc f us.toArray).run P W = .ok (.enter f us.toArray) W ∧ Calls P f us.toArray W fun e W' => ∃ v, e = .returned v ∧ FnPost E W res v W')
def st0 : Nat → List Cm → List (Nat × AV)
  | _, [] => []
  | k, x :: l => (k, .c x) :: st0 (k + 1) l
theorem st0_look {E : En} {W : World} : ∀ {l : List Cm} {us : List Value} {k i : Nat} {x : AV}, cmsR E W l us → look (st0 k l) i = some x → ∃ u, k ≤ i ∧ us[i - k]? = some u ∧ x.R E W u
  | [], us, k, i, x, _, h => by simp [st0, look] at h
  | y :: l, us, k, i, x, ⟨u, vs, e, h1, h2⟩, h => by
    subst e
    rw [st0, look_cons] at h
    split at h
    · rename_i hk
      subst hk; cases h
      exact ⟨u, Nat.le_refl _, by simp, h1⟩
    · obtain ⟨v, hki, hv, hR⟩ := st0_look h2 h
      refine ⟨v, by omega, ?_, hR⟩
      rw [show i - k = (i - (k + 1)) + 1 by omega]
      simpa using hv
theorem cmsR_length {E : En} {W : World} : ∀ {l : List Cm} {us : List Value}, cmsR E W l us → us.length = l.length
  | [], us, h => by simp only [cmsR] at h; subst h; rfl
  | y :: l, us, ⟨u, vs, e, h1, h2⟩ => by subst e; simp [cmsR_length h2]
def resA (tau : Tau) (s : St) : List ResultVar → Option (List Cm)
  | [] => some []
  | .tmp t :: l => match look s.L t with
    | some (.c (.sc x)) => match resA tau s l with
      | some r => some (.sc x :: r)
      | none => none
    | some (.c (.ag x)) => match resA tau s l with
      | some r => some (.ag x :: r)
      | none => none
    | _ => none
  | .cell p t :: l => match look s.L p with
    | some (.c (.sc (.p id 0))) => match look s.H id with
      | some (.sg _ g) => match tau.size t, tau.agg t with
        | some m, some true => match Nat.beq (segsSize g) m with
          | true => match resA tau s l with
            | some r => some (.ag g :: r)
            | none => none
          | false => none
        | some _, some false => match g with
          | [.one x] => match resA tau s l with
            | some r => some (.sc x :: r)
            | none => none
          | _ => none
        | _, _ => none
      | _ => none
    | _ => none
def resAV : List Cm → AV
  | [x] => .c x
  | l => .tu l
structure TauOk (P : Program) (tau : Tau) : Prop where
  und : ∀ t d, tau.und t = some d → P.underlying t = some d
  size : ∀ t m, tau.size t = some m → ∃ i, P.info? t = some i ∧ i.size = m
  zero : ∀ t l, tau.zero t = some l → ∃ i v us, P.info? t = some i ∧ i.zero = some v ∧ v.cells = us.toArray ∧ ∀ E W, segsR E W l us
theorem TauOk.isAgg {tau : Tau} (h : TauOk P tau) {t : TypeId} {b : Bool} (ht : tau.agg t = some b) (W : World) : (isAgg t).run P W = .ok b W := by
  unfold Tau.agg at ht
  unfold Go.isAgg
  rw [Sem.run_bind]
  split at ht
  · rename_i d hd
    cases ht
    simp [run_underlying (h.und _ _ hd) W]
  · rename_i k e hd
    cases ht
    simp [run_underlying (h.und _ _ hd) W]
  · rename_i d h1 h2 hd
    cases ht
    rw [run_underlying (h.und _ _ hd) W]
    cases d <;> first | rfl | exact (h1 _ rfl).elim | exact (h2 _ _ rfl).elim
  · cases ht
theorem addr_add (g o j : Nat) : (⟨g, o, none⟩ : Addr).add j = ⟨g, o + j, none⟩ := by unfold Addr.add; split <;> simp_all
theorem run_loadVar_mid {tau : Tau} (h : TauOk P tau) {ty t : TypeId} {W : World} {g : Nat} {a m b : List Value} {fr : Nat × Nat} (hg : W.heap[g]? = some (.cells (a ++ (m ++ b)).toArray t fr))
    (hs : tau.size ty = some m.length) (ha : tau.agg ty = some true) : (loadVar ty ⟨g, a.length, none⟩).run P W = .ok (.agg m.toArray) W := by
  obtain ⟨i, hi, hsz⟩ := h.size _ _ hs
  have hl : (loadCells ⟨g, a.length, none⟩ m.length).run P W = .ok m.toArray W :=
    run_loadCells_list (P := P) W ⟨g, a.length, none⟩ m (fun j v hv => by
      rw [addr_add, cell_of_row W g _ _ t fr hg]
      simp only [List.getElem?_toArray]
      rw [List.getElem?_append_right (by omega), show a.length + j - a.length = j by omega]
      rw [List.getElem?_append_left (List.getElem?_eq_some_iff.1 hv).1]
      exact hv)
  simp [loadVar, Sem.run_bind, h.isAgg ha W, sizeOf, typeInfo, hi, hsz, hl]
theorem run_loadVar_one {tau : Tau} (h : TauOk P tau) {ty t : TypeId} {W : World} {g : Nat} {a b : List Value} {u : Value} {fr : Nat × Nat} (hg : W.heap[g]? = some (.cells (a ++ (u :: b)).toArray t fr))
    (ha : tau.agg ty = some false) : (loadVar ty ⟨g, a.length, none⟩).run P W = .ok u W := by
  have hc : W.cell? ⟨g, a.length, none⟩ = some u := by
    rw [cell_of_row W g _ _ t fr hg]
    simp
  simp [loadVar, Sem.run_bind, h.isAgg ha W, load, Sem.run, hc]
def rvRun (tmps : Array Value) : ResultVar → Sem Value
  | .tmp t => pure (tmps.getD t undef)
  | .cell p t => do loadVar t (← asAddr (tmps.getD p undef))
theorem resA_run {tau : Tau} (h : TauOk P tau) {C : Cx} {E : En} {s : St} {a : Act} {W : World} (hS : Sat C n E s a W) : ∀ {l : List ResultVar} {cs : List Cm}, resA tau s l = some cs →
    ∃ us, (l.mapM (rvRun a.tmps)).run P W = .ok us W ∧ cmsR E W cs us
  | [], cs, hr => by cases hr; exact ⟨[], rfl, rfl⟩
  | .tmp t :: l, cs, hr => by
    simp only [resA] at hr
    have core : ∀ (x : Cm) (r : List Cm), look s.L t = some (.c x) → resA tau s l = some r → ∃ us, ((ResultVar.tmp t :: l).mapM (rvRun a.tmps)).run P W = .ok us W ∧ cmsR E W (x :: r) us := by
      intro x r hx hr
      obtain ⟨us, h1, h2⟩ := resA_run h hS hr
      obtain ⟨u, h3, h4⟩ := hS.slots _ _ hx
      refine ⟨u :: us, ?_, ⟨u, us, rfl, h4, h2⟩⟩
      simp only [List.mapM_cons, rvRun, Sem.run_bind, Sem.run_pure, Result.andThen_ok, h1]
      simp [h3]
    split at hr
    · rename_i x hx
      split at hr
      · rename_i r hr'; cases hr; exact core _ _ hx hr'
      · cases hr
    · rename_i x hx
      split at hr
      · rename_i r hr'; cases hr; exact core _ _ hx hr'
      · cases hr
    · cases hr
  | .cell p t :: l, cs, hr => by
    simp only [resA] at hr
    split at hr
    · rename_i id hp
      split at hr
      · rename_i ty g hg
        obtain ⟨u, h3, h4⟩ := hS.slots _ _ hp
        obtain rfl := h4
        obtain ⟨gs, h5, h6⟩ := hS.blks _ _ hg
        have core : ∀ (x : Cm) (r : List Cm) (v : Value), (loadVar t ⟨E.rho id, 0, none⟩).run P W = .ok v W → x.R E W v → resA tau s l = some r → ∃ us, ((ResultVar.cell p t :: l).mapM (rvRun a.tmps)).run P W = .ok us W ∧ cmsR E W (x :: r) us := by
          intro x r v hv hx hr
          obtain ⟨us, h1, h2⟩ := resA_run h hS hr
          refine ⟨v :: us, ?_, ⟨v, us, rfl, hx, h2⟩⟩
          simp only [List.mapM_cons, rvRun, Sem.run_bind, Sem.run_pure, Result.andThen_ok, h1, Array.getD_eq_getD_getElem?, h3, Option.getD_some, asAddr, hv]
        split at hr
        · rename_i m hsz hag
          split at hr
          · rename_i hm
            split at hr
            · rename_i r hr'
              cases hr
              have hm' : gs.length = m := by rw [segsR_size h6]; exact Nat.eq_of_beq_eq_true hm
              refine core (.ag g) r (.agg gs.toArray) ?_ ⟨gs, rfl, h6⟩ hr'
              exact run_loadVar_mid (a := []) (b := []) h (by simpa using h5) (by rw [hm']; exact hsz) hag
            · cases hr
          · cases hr
        · rename_i m hsz hag
          split at hr
          · rename_i x
            split at hr
            · rename_i r hr'
              cases hr
              obtain ⟨v1, v2, e, ⟨v, rfl, hv⟩, hv2⟩ := h6
              simp only [segsR] at hv2
              subst hv2
              subst e
              refine core (.sc x) r v ?_ hv hr'
              exact run_loadVar_one (a := []) (b := []) h (by simpa using h5) hag
            · cases hr
          · cases hr
        · cases hr
      · cases hr
    · cases hr
theorem results_run {tau : Tau} (h : TauOk P tau) {C : Cx} {E : En} {s : St} {a : Act} {W : World} (hS : Sat C n E s a W) {fn : Func} {l : List ResultVar} (hl : fn.results = l.toArray) {cs : List Cm} (hr : resA tau s l = some cs) :
    ∃ v, (results fn a.tmps).run P W = .ok v W ∧ (resAV cs).R E W v := by
  obtain ⟨us, h1, h2⟩ := resA_run h hS hr
  refine ⟨if h : us.toArray.size = 1 then us.toArray[0] else .tuple us.toArray, ?_, ?_⟩
  · unfold results
    have e : (fun x : ResultVar => match x with | .tmp t => (pure (a.tmps.getD t undef) : Sem Value) | .cell p t => do loadVar t (← asAddr (a.tmps.getD p undef))) = rvRun a.tmps := by
      funext x; cases x <;> rfl
    show (do let vs ← fn.results.mapM (fun x : ResultVar => match x with | .tmp t => (pure (a.tmps.getD t undef) : Sem Value) | .cell p t => do loadVar t (← asAddr (a.tmps.getD p undef))); pure (if h : vs.size = 1 then vs[0] else .tuple vs) : Sem Value).run P W = _
    rw [e, hl, Sem.run_bind, List.mapM_toArray]
    simp only [map_eq_pure_bind, Sem.run_bind, h1, Result.andThen_ok, Sem.run_pure]
  · cases cs with
    | nil => simp only [cmsR] at h2; subst h2; exact ⟨[], rfl, rfl⟩
    | cons x cs =>
      cases cs with
      | nil =>
        obtain ⟨u, vs, rfl, hx, hv⟩ := h2
        simp only [cmsR] at hv
        subst hv
        have e : (if h : [u].toArray.size = 1 then [u].toArray[0] else Value.tuple [u].toArray) = u := by simp
        rw [e]
        exact hx
      | cons y cs =>
        have hlen := cmsR_length h2
        have : ¬ us.toArray.size = 1 := by simp [hlen]
        rw [dif_neg this]
        exact ⟨us, rfl, h2⟩
theorem Fn_of_T {tau : Tau} (ht : TauOk P tau) {f : FuncId} {fn : Func} {c : Code} {l : List ResultVar} {args : List Cm} {cs : List Cm} (hf : P.funcs[f]? = some fn) (hname : (fn.name == "runtime.NumGoroutine") = false) (hb : fn.body = some c)
    (hl : fn.results = l.toArray) (hn : fn.ntmps = n) (hargs : Nat.ble args.length n = true) (hT : T P n c ⟨st0 0 args, []⟩ (fun e s => (e = .r ∨ e = .n) ∧ resA tau s l = some cs)) : Fn P f args (resAV cs) := by
  intro E W us hro hus
  right
  have hlen := cmsR_length hus
  refine ⟨?_, ?_⟩
  · have h1 : fn.name ≠ "runtime.NumGoroutine" := by simpa using hname
    simp [callFunc, hf, h1, hb]
  · refine calls_of_wp hf hb ?_
    have hle : args.length ≤ n := Nat.le_of_ble_eq_true hargs
    have hS : Sat (Cx.plain W E.ro) n E ⟨st0 0 args, []⟩ { tmps := us.toArray ++ Array.replicate (fn.ntmps - us.toArray.size) undef, defers := [] } W := by
      refine ⟨rfl, ?_, ?_, ?_, ?_, ?_, fun b hb => ⟨hro b hb, .inl hb⟩, rfl, rfl, rfl, Nat.le_refl _, fun _ _ _ => rfl, fun _ _ h => by cases h⟩
      · simp only [Array.size_append, List.size_toArray, Array.size_replicate, hn, hlen]; omega
      · intro i x hx
        obtain ⟨u, _, hu, hR⟩ := st0_look hus hx
        refine ⟨u, ?_, hR⟩
        rw [Array.getElem?_append_left (by simpa using (List.getElem?_eq_some_iff.1 hu).1)]
        simpa using hu
      · intro i B hB; simp [look] at hB
      · intro i j A B hA; simp [look] at hA
      · intro i A hA; simp [look] at hA
    refine Code.wp_mono ?_ (hT (Cx.plain W E.ro) E _ W hS)
    rintro e a' W' ⟨x, s', E', rfl, ⟨hx, hres⟩, hS'⟩
    obtain ⟨v, hv, hR⟩ := results_run ht hS' hl hres
    have post : a'.defers = [] ∧ ∃ v, (results fn a'.tmps).run P W' = .ok v W' ∧ ∃ v', Ending.returned v = .returned v' ∧ FnPost E W (resAV cs) v' W' :=
      ⟨hS'.defers, v, hv, v, rfl, E', hR, ⟨hS'.os, hS'.tape, hS'.output, hS'.hsize, fun b hb => hS'.keep b hb (by simp)⟩, hS'.ro⟩
    rcases hx with rfl | rfl <;> exact post
theorem cms_avs {E : En} {W : World} : ∀ {l : List Cm} {us : List Value}, avsR E W (l.map .c) us → cmsR E W l us
  | [], _, h => h
  | _ :: _, _, ⟨u, vs, e, h1, h2⟩ => ⟨u, vs, e, h1, cms_avs h2⟩
theorem OpOk_call {f : FuncId} {args : List Cm} {res : AV} (h : Fn P f args res) (hres : ∀ d, res.has d = false) {o : Oper} {c : Call} {x : Operand} (ho : o.op = .call c) (hc : c.callee = .value x) (bl : List (Nat × Blk)) :
    OpOk P o (.c (.sc (.v (.func (.func f) #[] #[]))) :: args.map .c) bl ⟨o.dst, res, none, false⟩ := by
  intro C n E s a W Q hS hargs _ _ hn _
  rw [ho] at hargs
  simp only [Op.operands, Call.operands, hc, Array.toList_append, List.singleton_append, List.map_cons] at hargs
  obtain ⟨u, us, e, ⟨hu, _⟩, hus⟩ := hargs
  simp only [List.cons.injEq] at e
  obtain ⟨hx, hus'⟩ := e
  subst hus'
  have hcs := cms_avs hus
  have hro : ∀ b, E.ro b → b < W.heap.size := fun b hb => (hS.ro b hb).1
  have hexec : (execOp a.eval o).run P W = (callFunc f ((c.args.toList.map a.eval).toArray)).run P W := by
    unfold execOp
    simp only [ho, resolve, hc, Deferred.ofValue, hx, hu, Sem.run_bind, Sem.run_pure, Result.andThen_ok, invoke]
    congr 2
    refine Array.ext' ?_
    simp
  have fin : ∀ v W', FnPost E W res v W' → ∃ E', Sat C n E' (s.put ⟨o.dst, res, none, false⟩) (a.put o.dst v) W' := by
    rintro v W' ⟨E1, hR, hP, hro1⟩
    let E' : En := ⟨E.rho, E.cap, fun b => E.ro b ∨ E1.ro b⟩
    have hmem : ∀ b, E.ro b → W'.heap[b]? = W.heap[b]? := fun b hb => hP.block b (hro b hb)
    refine ⟨E', hS.step (E' := E') (W' := W') (d := ⟨o.dst, res, none, false⟩) hn ?_ ⟨fun _ _ => rfl, fun _ _ => rfl, fun _ h => .inl h, hmem⟩ (by simp) (by simp) (by simp) (by simp) ?_ ?_ ?_ hP.os hP.tape hP.output hP.size ?_ (by simp)⟩
    · intro _
      exact AV.kept (A := fun _ => False) (E := E1) (W := W') (E' := E') (W' := W') ⟨fun _ h => h.elim, fun _ h => h.elim, fun _ h => .inr h, fun _ _ => rfl⟩ hR (fun d hd => by rw [hres d] at hd; cases hd)
    · intro j A hj hl hr
      have := hS.own j A hj hl
      rcases hr with hr | hr
      · exact this.2 hr
      · obtain ⟨h1, h2⟩ := hro1 _ hr
        rcases h2 with h2 | h2
        · exact this.2 h2
        · have hlt := live_lt hS hj hl
          omega
    · intro j A hj hl _
      exact hP.block _ (live_lt hS hj hl)
    · intro b hb
      rcases hb with hb | hb
      · exact ⟨Nat.lt_of_lt_of_le (hro b hb) hP.size, (hS.ro b hb).2⟩
      · obtain ⟨h1, h2⟩ := hro1 _ hb
        refine ⟨h1, ?_⟩
        rcases h2 with h2 | h2
        · exact (hS.ro b h2).2
        · exact .inr (Nat.le_trans hS.hsize h2)
    · intro b hb _
      exact hP.block b (Nat.lt_of_lt_of_le hb hS.hsize)
  unfold Oper.wp
  rw [hexec]
  rcases h E W _ hro hcs with ⟨v, hv, hp⟩ | ⟨hv, hp⟩
  · rw [hv]; exact fin v W hp
  · rw [hv]
    simp only [Oper.upon]
    refine hp.mono ?_
    rintro e W' ⟨v, rfl, hpost⟩
    exact fin v W' hpost
end
abbrev iv (k : IntKind) (n : Int) : AV := .c (.sc (.v (.int k n)))
abbrev bv (b : Bool) : AV := .c (.sc (.v (.bool b)))
abbrev sv (s : ByteArray) : AV := .c (.sc (.v (.string s)))
abbrev Eff := Option (Dl × List Prop)
def out (dst : Option Nat) (x : AV) (O : List Prop) : Eff := some (⟨dst, x, none, false⟩, O)
def splitS : List Seg → Nat → Option (List Seg × List Seg)
  | l, 0 => some ([], l)
  | [], _ + 1 => none
  | g :: l, k + 1 => match Nat.ble g.size (k + 1) with
    | false => none
    | true => match splitS l (k + 1 - g.size) with
      | some (a, b) => some (g :: a, b)
      | none => none
theorem splitS_spec : ∀ {l : List Seg} {k : Nat} {a b : List Seg}, splitS l k = some (a, b) → l = a ++ b ∧ segsSize a = k
  | l, 0, a, b, h => by
    cases l <;> (simp only [splitS, Option.some.injEq, Prod.mk.injEq] at h; obtain ⟨rfl, rfl⟩ := h; exact ⟨rfl, rfl⟩)
  | [], k + 1, a, b, h => by simp [splitS] at h
  | g :: l, k + 1, a, b, h => by
    simp only [splitS] at h
    split at h
    · cases h
    · rename_i hle
      split at h
      · rename_i a' b' h'
        cases h
        obtain ⟨rfl, h2⟩ := splitS_spec h'
        have := Nat.le_of_ble_eq_true hle
        exact ⟨rfl, by simp only [segsSize]; omega⟩
      · cases h
section
variable {P : Program} {tau : Tau}
theorem OpOk_pure {o : Oper} {args : List AV} {bl : List (Nat × Blk)} {val : AV} (h : ∀ (E : En) (W : World) (ev : Operand → Value), avsR E W args (o.op.operands.toList.map ev) → ∃ u, (execOp ev o).run P W = .ok (.value u) W ∧ val.R E W u) :
    OpOk P o args bl ⟨o.dst, val, none, false⟩ := by
  intro C n E s a W Q hS hargs _ _ hn _
  obtain ⟨u, hu, hR⟩ := h E W a.eval hargs
  unfold Oper.wp
  rw [hu]
  exact ⟨E, hS.pure hn rfl (fun _ => hR)⟩
theorem av1 {E : En} {W : World} {x : AV} {u : Value} (h : avsR E W [x] [u]) : x.R E W u := by
  obtain ⟨v, vs, e, h1, _⟩ := h; cases e; exact h1
theorem av2 {E : En} {W : World} {x y : AV} {u v : Value} (h : avsR E W [x, y] [u, v]) : x.R E W u ∧ y.R E W v := by
  obtain ⟨_, _, e, h1, _, _, e2, h2, _⟩ := h; cases e; cases e2; exact ⟨h1, h2⟩
theorem av3 {E : En} {W : World} {x y z : AV} {u v w : Value} (h : avsR E W [x, y, z] [u, v, w]) : x.R E W u ∧ y.R E W v ∧ z.R E W w := by
  obtain ⟨_, _, e, h1, _, _, e2, h2, _, _, e3, h3, _⟩ := h; cases e; cases e2; cases e3; exact ⟨h1, h2, h3⟩
def effMove (dst : Option Nat) : List AV → Eff
  | [x] => out dst x []
  | _ => none
theorem move_ok {o : Oper} {x : Operand} (ho : o.op = .move x ∨ o.op = .assign x) {args : List AV} {bl : List (Nat × Blk)} {d : Dl} {O : List Prop} (h : effMove o.dst args = some (d, O)) : OpOk P o args bl { d with dst := o.dst } := by
  unfold effMove at h
  split at h
  · rename_i y
    cases h
    refine OpOk_pure (fun E W ev hR => ?_)
    rcases ho with ho | ho <;>
    · rw [ho] at hR
      exact ⟨ev x, by simp [execOp, ho], av1 hR⟩
  · cases h
def effPick (dst : Option Nat) : List AV → Eff
  | [.c (.sc (.v (.bool c))), .c (.sc (.v (.bool x))), .c (.sc (.v (.bool y)))] => out dst (bv (bif c then x else y)) []
  | [.c (.sc (.v (.bool c))), .c x, .un] => out dst (.c x) [c = true]
  | [.c (.sc (.v (.bool c))), .un, .c y] => out dst (.c y) [c = false]
  | _ => none
theorem pick_ok {o : Oper} {p q r : Operand} (ho : o.op = .pick p q r) {args : List AV} {bl : List (Nat × Blk)} {d : Dl} {O : List Prop} (h : effPick o.dst args = some (d, O)) (hO : allP O) : OpOk P o args bl { d with dst := o.dst } := by
  unfold effPick at h
  split at h
  · rename_i c x y
    cases h
    refine OpOk_pure (fun E W ev hR => ?_)
    rw [ho] at hR
    obtain ⟨⟨h1, _⟩, ⟨h2, _⟩, ⟨h3, _⟩⟩ := av3 hR
    refine ⟨.bool (bif c then x else y), ?_, rfl, rfl⟩
    cases c <;> simp [execOp, ho, h1, h2, h3, asBool]
  · rename_i c x
    cases h
    refine OpOk_pure (fun E W ev hR => ?_)
    rw [ho] at hR
    obtain ⟨⟨h1, _⟩, h2, h3⟩ := av3 hR
    refine ⟨ev q, ?_, h2⟩
    rw [hO.1] at h1
    simp [execOp, ho, h1, asBool]
  · rename_i c y
    cases h
    refine OpOk_pure (fun E W ev hR => ?_)
    rw [ho] at hR
    obtain ⟨⟨h1, _⟩, h2, h3⟩ := av3 hR
    refine ⟨ev r, ?_, h3⟩
    rw [hO.1] at h1
    simp [execOp, ho, h1, asBool]
  · cases h
def isC : Operand → Bool
  | .const _ => true
  | _ => false
def effBin (tau : Tau) (op : BinOp) (t : TypeId) (nc : Bool) (dst : Option Nat) : List AV → Eff
  | [.c (.sc (.v (.int k x))), .c (.sc (.v (.int k' y)))] => match op with
    | .shl => out dst (iv k (k.wrap (x * 2 ^ (min y.toNat k.bits)))) [0 ≤ y]
    | .shr => out dst (iv k (x.fdiv (2 ^ (min y.toNat k.bits)))) [0 ≤ y]
    | _ => match decide (k = k') with
      | false => none
      | true => match op with
        | .add => out dst (iv k (k.wrap (x + y))) []
        | .sub => out dst (iv k (k.wrap (x - y))) []
        | .mul => out dst (iv k (k.wrap (x * y))) []
        | .quo => out dst (iv k (k.wrap (x.tdiv y))) [y ≠ 0]
        | .rem => out dst (iv k (x.tmod y)) [y ≠ 0]
        | .and => out dst (iv k (bits .and k x y)) []
        | .or => out dst (iv k (bits .or k x y)) []
        | .xor => out dst (iv k (bits .xor k x y)) []
        | .andNot => out dst (iv k (bits .andNot k x y)) []
        | .eql => out dst (bv (x == y)) []
        | .neq => out dst (bv (x != y)) []
        | .lss => out dst (bv (decide (x < y))) []
        | .leq => out dst (bv (decide (x ≤ y))) []
        | .gtr => out dst (bv (decide (x > y))) []
        | .geq => out dst (bv (decide (x ≥ y))) []
        | _ => none
  | [.c (.sc (.v (.bool x))), .c (.sc (.v (.bool y)))] => match tau.und t with
    | some .bool => match op with
      | .eql => out dst (bv (x == y)) []
      | .neq => out dst (bv (!(x == y))) []
      | _ => none
    | _ => none
  | [.c (.sc (.v (.string x))), .c (.sc (.v (.string y)))] => match op with
    | .add => out dst (sv (x ++ y)) [((x.size + y.size : Nat) : Int) ≤ 9223372036854775807]
    | .eql => out dst (bv (x.toList == y.toList)) []
    | .neq => out dst (bv (!(x.toList == y.toList))) []
    | _ => none
  | [.c (.sc (.v .nilIface)), .c (.sc (.v .nilIface))] => match tau.und t, nc with
    | some (.interface _), true => match op with
      | .eql => out dst (bv true) []
      | .neq => out dst (bv false) []
      | _ => none
    | _, _ => none
  | [.c (.sc (.v (.iface _ _))), .c (.sc (.v .nilIface))] => match tau.und t with
    | some (.interface _) => match op with
      | .eql => out dst (bv false) []
      | .neq => out dst (bv true) []
      | _ => none
    | _ => none
  | _ => none
theorem kind_ne {k k' : IntKind} (h : decide (k = k') = true) : k = k' := of_decide_eq_true h
theorem equalIn_nn (d : Nat) {t : TypeId} {ms : Array (String × TypeId)} (h : P.underlying t = some (.interface ms)) (W : World) : (Op.equalIn (d + 1) t .nilIface .nilIface).run P W = .ok true W := by
  simp [Op.equalIn, run_underlying h]
theorem equalIn_in (d : Nat) {t ti : TypeId} {x : Value} {ms : Array (String × TypeId)} (h : P.underlying t = some (.interface ms)) (W : World) : (Op.equalIn (d + 1) t (.iface ti x) .nilIface).run P W = .ok false W := by
  simp [Op.equalIn, run_underlying h]
theorem eqGuard_nil (op : BinOp) (t : TypeId) (p q : Operand) (h : (isC p || isC q) = true) (W : World) : (eqGuard op t p q .nilIface .nilIface).run P W = .ok () W := by
  cases p <;> cases q <;> first
    | (simp [isC] at h; done)
    | (cases op <;> simp [eqGuard]; done)
theorem bin_ok (ht : TauOk P tau) {o : Oper} {op : BinOp} {t u : TypeId} {p q : Operand} (ho : o.op = .binOp op t p q u) {args : List AV} {bl : List (Nat × Blk)} {d : Dl} {O : List Prop} (h : effBin tau op t (isC p || isC q) o.dst args = some (d, O)) (hO : allP O) :
    OpOk P o args bl { d with dst := o.dst } := by
  have key : ∀ (val : AV) (u : Value), (∀ (W : World) (ev : Operand → Value) (E : En), avsR E W args [ev p, ev q] → (do eqGuard op t p q (ev p) (ev q); binOp op t (ev p) (ev q) : Sem Value).run P W = .ok u W) → (∀ E W, val.R E W u) → OpOk P o args bl ⟨o.dst, val, none, false⟩ := by
    intro val u h1 h2
    refine OpOk_pure (fun E W ev hR => ?_)
    rw [ho] at hR
    refine ⟨u, ?_, h2 E W⟩
    have := h1 W ev E (by simpa [Op.operands] using hR)
    simp only [execOp, ho, Sem.run_bind] at this ⊢
    simp only [this, Result.andThen_ok, Sem.run_pure]
  unfold effBin at h
  split at h
  · rename_i k x k' y
    have fin : ∀ (val : AV) (u : Value), (∀ W : World, (binOp op t (.int k x) (.int k' y)).run P W = .ok u W) → (∀ E W, val.R E W u) → OpOk P o [.c (.sc (.v (.int k x))), .c (.sc (.v (.int k' y)))] bl ⟨o.dst, val, none, false⟩ := by
      intro val u h1 h2
      refine key val u (fun W ev E hR => ?_) h2
      obtain ⟨⟨e1, _⟩, ⟨e2, _⟩⟩ := av2 hR
      rw [e1, e2]
      have : ∀ W : World, (eqGuard op t p q (.int k x) (.int k' y)).run P W = .ok () W := by
        intro W; cases op <;> simp [eqGuard]
      simp only [Sem.run_bind, this, Result.andThen_ok, h1]
    split at h
    · cases h
      refine fin _ (.int k (k.wrap (x * 2 ^ (min y.toNat k.bits)))) (fun W => ?_) (fun _ _ => ⟨rfl, rfl⟩)
      have : ¬ y < 0 := by have := hO.1; omega
      simp [binOp, Op.shift, this]
    · cases h
      refine fin _ (.int k (x.fdiv (2 ^ (min y.toNat k.bits)))) (fun W => ?_) (fun _ _ => ⟨rfl, rfl⟩)
      have : ¬ y < 0 := by have := hO.1; omega
      simp [binOp, Op.shift, this]
    · split at h
      · cases h
      · rename_i hk
        obtain rfl := kind_ne hk
        split at h <;> first
          | (cases h; refine fin _ (.int k _) (fun W => ?_) (fun _ _ => ⟨rfl, rfl⟩); simp [binOp, Op.intArith, Op.intBits, bits]; done)
          | (cases h; refine fin _ (.int k _) (fun W => ?_) (fun _ _ => ⟨rfl, rfl⟩); simp [binOp, Op.intDiv, hO.1]; done)
          | (cases h; refine fin _ (.bool _) (fun W => ?_) (fun _ _ => ⟨rfl, rfl⟩); simp [binOp, Op.intCmp]; done)
          | (cases h; done)
  · rename_i x y
    split at h
    · rename_i hb
      have hb := ht.und _ _ hb
      have fin : ∀ (val : AV) (u : Value), (∀ W : World, (binOp op t (.bool x) (.bool y)).run P W = .ok u W) → (∀ E W, val.R E W u) → OpOk P o [.c (.sc (.v (.bool x))), .c (.sc (.v (.bool y)))] bl ⟨o.dst, val, none, false⟩ := by
        intro val u h1 h2
        refine key val u (fun W ev E hR => ?_) h2
        obtain ⟨⟨e1, _⟩, ⟨e2, _⟩⟩ := av2 hR
        rw [e1, e2]
        have : ∀ W : World, (eqGuard op t p q (.bool x) (.bool y)).run P W = .ok () W := by
          intro W; cases op <;> simp [eqGuard]
        simp only [Sem.run_bind, this, Result.andThen_ok, h1]
      split at h
      · cases h
        refine fin _ (.bool (x == y)) (fun W => ?_) (fun _ _ => ⟨rfl, rfl⟩)
        simp only [binOp]; simp [Op.equal, Op.maxDepth, run_equalIn_bool' W 9999 t x y hb]
      · cases h
        refine fin _ (.bool (!(x == y))) (fun W => ?_) (fun _ _ => ⟨rfl, rfl⟩)
        simp only [binOp]; simp [Op.equal, Op.maxDepth, run_equalIn_bool' W 9999 t x y hb]
      · cases h
    · cases h
  · rename_i x y
    have fin : ∀ (val : AV) (u : Value), (∀ W : World, (binOp op t (.string x) (.string y)).run P W = .ok u W) → (∀ E W, val.R E W u) → OpOk P o [.c (.sc (.v (.string x))), .c (.sc (.v (.string y)))] bl ⟨o.dst, val, none, false⟩ := by
      intro val u h1 h2
      refine key val u (fun W ev E hR => ?_) h2
      obtain ⟨⟨e1, _⟩, ⟨e2, _⟩⟩ := av2 hR
      rw [e1, e2]
      have : ∀ W : World, (eqGuard op t p q (.string x) (.string y)).run P W = .ok () W := by
        intro W; cases op <;> simp [eqGuard]
      simp only [Sem.run_bind, this, Result.andThen_ok, h1]
    split at h
    · cases h
      refine fin _ (.string (x ++ y)) (fun W => ?_) (fun _ _ => ⟨rfl, rfl⟩)
      have h0 := hO.1
      have hm : IntKind.i64.max = 9223372036854775807 := rfl
      have : ¬ ((x.size + y.size : Nat) : Int) > IntKind.i64.max := by rw [hm]; omega
      simp only [binOp, Op.stringOp, if_neg this, Sem.run_pure]
    · cases h
      refine fin _ (.bool (x.toList == y.toList)) (fun W => ?_) (fun _ _ => ⟨rfl, rfl⟩)
      simp only [binOp, Op.stringOp, Sem.run_pure]
    · cases h
      refine fin _ (.bool (!(x.toList == y.toList))) (fun W => ?_) (fun _ _ => ⟨rfl, rfl⟩)
      simp only [binOp, Op.stringOp, Sem.run_pure]
    · cases h
  · split at h
    · rename_i ms hms hnc
      have hms := ht.und _ _ hms
      have fin : ∀ (val : AV) (u : Value), (∀ W : World, (binOp op t .nilIface .nilIface).run P W = .ok u W) → (∀ E W, val.R E W u) → OpOk P o [.c (.sc (.v .nilIface)), .c (.sc (.v .nilIface))] bl ⟨o.dst, val, none, false⟩ := by
        intro val u h1 h2
        refine key val u (fun W ev E hR => ?_) h2
        obtain ⟨⟨e1, _⟩, ⟨e2, _⟩⟩ := av2 hR
        rw [e1, e2]
        have : ∀ W : World, (eqGuard op t p q .nilIface .nilIface).run P W = .ok () W := by
          intro W; exact eqGuard_nil op t p q hnc W
        simp only [Sem.run_bind, this, Result.andThen_ok, h1]
      split at h
      · cases h
        refine fin _ (.bool true) (fun W => ?_) (fun _ _ => ⟨rfl, rfl⟩)
        simp only [binOp]; simp [Op.equal, Op.maxDepth, equalIn_nn 9999 hms W]
      · cases h
        refine fin _ (.bool false) (fun W => ?_) (fun _ _ => ⟨rfl, rfl⟩)
        simp only [binOp]; simp [Op.equal, Op.maxDepth, equalIn_nn 9999 hms W]
      · cases h
    · cases h
  · rename_i ti x
    split at h
    · rename_i ms hms
      have hms := ht.und _ _ hms
      have fin : ∀ (val : AV) (u : Value), (∀ W : World, (binOp op t (.iface ti x) .nilIface).run P W = .ok u W) → (∀ E W, val.R E W u) → OpOk P o [.c (.sc (.v (.iface ti x))), .c (.sc (.v .nilIface))] bl ⟨o.dst, val, none, false⟩ := by
        intro val u h1 h2
        refine key val u (fun W ev E hR => ?_) h2
        obtain ⟨⟨e1, _⟩, ⟨e2, _⟩⟩ := av2 hR
        rw [e1, e2]
        have : ∀ W : World, (eqGuard op t p q (.iface ti x) .nilIface).run P W = .ok () W := by
          intro W; cases op <;> simp [eqGuard]
        simp only [Sem.run_bind, this, Result.andThen_ok, h1]
      split at h
      · cases h
        refine fin _ (.bool false) (fun W => ?_) (fun _ _ => ⟨rfl, rfl⟩)
        simp only [binOp]; simp [Op.equal, Op.maxDepth, equalIn_in 9999 hms W]
      · cases h
        refine fin _ (.bool true) (fun W => ?_) (fun _ _ => ⟨rfl, rfl⟩)
        simp only [binOp]; simp [Op.equal, Op.maxDepth, equalIn_in 9999 hms W]
      · cases h
    · cases h
  · cases h
end
section
variable {P : Program} {tau : Tau}
def effUn (op : UnOp) (dst : Option Nat) : List AV → Eff
  | [.c (.sc (.v (.int k x)))] => match op with
    | .neg => out dst (iv k (k.wrap (0 - x))) []
    | .xor => out dst (iv k (bits .xor k (if k.signed then -1 else k.max) x)) []
    | _ => none
  | [.c (.sc (.v (.bool x)))] => match op with
    | .not => out dst (bv (!x)) []
    | _ => none
  | _ => none
theorem un_ok {o : Oper} {op : UnOp} {t : TypeId} {p : Operand} (ho : o.op = .unOp op t p) {args : List AV} {bl : List (Nat × Blk)} {d : Dl} {O : List Prop} (h : effUn op o.dst args = some (d, O)) : OpOk P o args bl { d with dst := o.dst } := by
  unfold effUn at h
  split at h
  · rename_i k x
    split at h
    · cases h
      refine OpOk_pure (fun E W ev hR => ?_)
      rw [ho] at hR
      obtain ⟨h1, _⟩ := av1 hR
      exact ⟨.int k (k.wrap (0 - x)), by simp [execOp, ho, h1, Op.unary, Op.intArith], rfl, rfl⟩
    · cases h
      refine OpOk_pure (fun E W ev hR => ?_)
      rw [ho] at hR
      obtain ⟨h1, _⟩ := av1 hR
      exact ⟨.int k (bits .xor k (if k.signed then -1 else k.max) x), by simp [execOp, ho, h1, Op.unary, Op.intBits, bits], rfl, rfl⟩
    · cases h
  · rename_i x
    split at h
    · cases h
      refine OpOk_pure (fun E W ev hR => ?_)
      rw [ho] at hR
      obtain ⟨h1, _⟩ := av1 hR
      exact ⟨.bool (!x), by simp [execOp, ho, h1, Op.unary], rfl, rfl⟩
    · cases h
  · cases h
def effConv (tau : Tau) (a b : TypeId) (dst : Option Nat) : List AV → Eff
  | [.c (.sc (.v (.int _ x)))] => match tau.und a, tau.und b with
    | some (.int _), some (.int k) => out dst (iv k (k.wrap x)) []
    | _, _ => none
  | _ => none
theorem conv_ok (ht : TauOk P tau) {o : Oper} {t u : TypeId} {p : Operand} (ho : o.op = .convert t u p) {args : List AV} {bl : List (Nat × Blk)} {d : Dl} {O : List Prop} (h : effConv tau t u o.dst args = some (d, O)) : OpOk P o args bl { d with dst := o.dst } := by
  unfold effConv at h
  split at h
  · rename_i k0 x
    split at h
    · rename_i k1 k h1 h2
      cases h
      refine OpOk_pure (fun E W ev hR => ?_)
      rw [ho] at hR
      obtain ⟨h3, _⟩ := av1 hR
      exact ⟨.int k (k.wrap x), by simp [execOp, ho, h3, convert, run_underlying (ht.und _ _ h1), run_underlying (ht.und _ _ h2), Conv.intToInt], rfl, rfl⟩
    · cases h
  · cases h
def effIface (tau : Tau) (t : TypeId) (dst : Option Nat) : List AV → Eff
  | [.c (.sc (.v x))] => match tau.und t with
    | some (.int _) => out dst (.c (.sc (.v (.iface t x)))) []
    | _ => none
  | _ => none
theorem iface_ok (ht : TauOk P tau) {o : Oper} {t : TypeId} {p : Operand} (ho : o.op = .makeInterface t p) {args : List AV} {bl : List (Nat × Blk)} {d : Dl} {O : List Prop} (h : effIface tau t o.dst args = some (d, O)) : OpOk P o args bl { d with dst := o.dst } := by
  unfold effIface at h
  split at h
  · rename_i x
    split at h
    · rename_i k h1
      cases h
      refine OpOk_pure (fun E W ev hR => ?_)
      rw [ho] at hR
      obtain ⟨h3, _⟩ := av1 hR
      exact ⟨.iface t x, by simp [execOp, ho, h3, Instr.makeInterface, run_underlying (ht.und _ _ h1)], rfl, rfl⟩
    · cases h
  · cases h
def nthC : List Cm → Nat → Option Cm
  | [], _ => none
  | x :: _, 0 => some x
  | _ :: l, i + 1 => nthC l i
theorem nthC_R {E : En} {W : World} : ∀ {l : List Cm} {us : List Value} {i : Nat} {x : Cm}, cmsR E W l us → nthC l i = some x → ∃ u, us[i]? = some u ∧ x.R E W u
  | [], _, _, _, _, h => by simp [nthC] at h
  | y :: l, us, 0, x, ⟨u, vs, e, h1, _⟩, h => by subst e; cases h; exact ⟨u, rfl, h1⟩
  | y :: l, us, i + 1, x, ⟨u, vs, e, _, h2⟩, h => by subst e; exact nthC_R (i := i) h2 h
def effExtract (i : Nat) (dst : Option Nat) : List AV → Eff
  | [.tu l] => match nthC l i with
    | some x => out dst (.c x) []
    | none => none
  | _ => none
theorem extract_ok {o : Oper} {p : Operand} {i : Nat} (ho : o.op = .extract p i) {args : List AV} {bl : List (Nat × Blk)} {d : Dl} {O : List Prop} (h : effExtract i o.dst args = some (d, O)) : OpOk P o args bl { d with dst := o.dst } := by
  unfold effExtract at h
  split at h
  · rename_i l
    split at h
    · rename_i x hx
      cases h
      refine OpOk_pure (fun E W ev hR => ?_)
      rw [ho] at hR
      obtain ⟨us, h1, h2⟩ := av1 hR
      obtain ⟨u, h3, h4⟩ := nthC_R h2 hx
      exact ⟨u, by simp [execOp, ho, h1, Instr.extract, h3], h4⟩
    · cases h
  · cases h
def effNil (dst : Option Nat) : List AV → Eff
  | [.c (.sc (.p id off))] => out dst (.c (.sc (.p id off))) []
  | _ => none
theorem nil_ok {o : Oper} {p : Operand} (ho : o.op = .nilCheck p) {args : List AV} {bl : List (Nat × Blk)} {d : Dl} {O : List Prop} (h : effNil o.dst args = some (d, O)) : OpOk P o args bl { d with dst := o.dst } := by
  unfold effNil at h
  split at h
  · rename_i id off
    cases h
    refine OpOk_pure (fun E W ev hR => ?_)
    rw [ho] at hR
    have h1 := av1 hR
    have h2 : ev p = .pointer (some ⟨E.rho id, off, none⟩) := h1
    exact ⟨ev p, by simp [execOp, ho, h2], h1⟩
  · cases h
def fieldOf (tau : Tau) (t : TypeId) (f : Nat) : Option Field := match tau.und t with
  | some (.struct fs) => fs[f]?
  | _ => none
def effFieldAddr (tau : Tau) (t : TypeId) (f : Nat) (dst : Option Nat) : List AV → Eff
  | [.c (.sc (.p id off))] => match fieldOf tau t f with
    | some fd => match tau.size fd.type with
      | some (_ + 1) => out dst (.c (.sc (.p id (off + fd.offset)))) []
      | _ => none
    | none => none
  | _ => none
theorem fieldAddr_ok (ht : TauOk P tau) {o : Oper} {t : TypeId} {p : Operand} {f : Nat} (ho : o.op = .fieldAddr t p f) {args : List AV} {bl : List (Nat × Blk)} {d : Dl} {O : List Prop} (h : effFieldAddr tau t f o.dst args = some (d, O)) : OpOk P o args bl { d with dst := o.dst } := by
  unfold effFieldAddr at h
  split at h
  · rename_i id off
    split at h
    · rename_i fd hf
      split at h
      · rename_i m hs
        cases h
        refine OpOk_pure (fun E W ev hR => ?_)
        rw [ho] at hR
        have h2 : ev p = .pointer (some ⟨E.rho id, off, none⟩) := av1 hR
        obtain ⟨i, hi, hsz⟩ := ht.size _ _ hs
        unfold fieldOf at hf
        split at hf
        · rename_i fs hfs
          refine ⟨.pointer (some ⟨E.rho id, off + fd.offset, none⟩), ?_, rfl⟩
          simp [execOp, ho, h2, Instr.fieldAt, run_underlying (ht.und _ _ hfs), hf, Instr.sureAddr, fieldPlace, sizeOf, typeInfo, hi, hsz, addr_add]
        · cases hf
      · cases h
    · cases h
  · cases h
def effField (tau : Tau) (t : TypeId) (f : Nat) (dst : Option Nat) : List AV → Eff
  | [.c (.ag l)] => match fieldOf tau t f with
    | some fd => match splitS l fd.offset with
      | some (_, r) => match tau.size fd.type, tau.agg fd.type with
        | some m, some true => match splitS r m with
          | some (x, _) => out dst (.c (.ag x)) []
          | none => none
        | some _, some false => match r with
          | .one x :: _ => out dst (.c (.sc x)) []
          | _ => none
        | _, _ => none
      | none => none
    | none => none
  | _ => none
theorem field_ok (ht : TauOk P tau) {o : Oper} {t : TypeId} {p : Operand} {f : Nat} (ho : o.op = .field t p f) {args : List AV} {bl : List (Nat × Blk)} {d : Dl} {O : List Prop} (h : effField tau t f o.dst args = some (d, O)) : OpOk P o args bl { d with dst := o.dst } := by
  unfold effField at h
  split at h
  · rename_i l
    split at h
    · rename_i fd hf
      unfold fieldOf at hf
      split at hf
      · rename_i fs hfs
        split at h
        · rename_i a r hsp
          obtain ⟨rfl, hoff⟩ := splitS_spec hsp
          split at h
          · rename_i m hs hag
            split at h
            · rename_i x b hsp2
              obtain ⟨rfl, hm⟩ := splitS_spec hsp2
              cases h
              refine OpOk_pure (fun E W ev hR => ?_)
              rw [ho] at hR
              obtain ⟨us, h1, h2⟩ := av1 hR
              obtain ⟨ua, ur, rfl, hua, hur⟩ := segsR_split h2
              obtain ⟨ux, ub, rfl, hux, hub⟩ := segsR_split hur
              obtain ⟨i, hi, hsz⟩ := ht.size _ _ hs
              refine ⟨.agg ux.toArray, ?_, ⟨ux, rfl, hux⟩⟩
              have e1 : fd.offset = ua.length := by rw [segsR_size hua, hoff]
              have e2 : i.size = ux.length := by rw [segsR_size hux, hm, hsz]
              have e3 : (ua ++ (ux ++ ub)).toArray.extract ua.length (ua.length + ux.length) = ux.toArray := by
                rw [List.extract_toArray, List.extract_eq_take_drop]
                simp
              simp only [execOp, ho, h1, Instr.field, Sem.run_bind, run_underlying (ht.und _ _ hfs), Result.andThen_ok, hf, part, ht.isAgg hag, asAgg, Sem.run_pure, if_true, sizeOf, typeInfo, run_program, hi, e1, e2, e3]
            · cases h
          · rename_i m hs hag
            split at h
            · rename_i x b
              cases h
              refine OpOk_pure (fun E W ev hR => ?_)
              rw [ho] at hR
              obtain ⟨us, h1, h2⟩ := av1 hR
              obtain ⟨ua, ur, rfl, hua, hur⟩ := segsR_split h2
              obtain ⟨u1, ub, rfl, ⟨u, rfl, hu⟩, hub⟩ := hur
              refine ⟨u, ?_, hu⟩
              have e1 : fd.offset = ua.length := by rw [segsR_size hua, hoff]
              have e3 : (ua ++ ([u] ++ ub)).toArray[fd.offset]? = some u := by
                rw [e1]; simp
              simp only [execOp, ho, h1, Instr.field, Sem.run_bind, run_underlying (ht.und _ _ hfs), Result.andThen_ok, hf, part, ht.isAgg hag, asAgg, Sem.run_pure, Bool.false_eq_true, if_false, e3]
            · cases h
          · cases h
        · cases h
      · cases hf
    · cases h
  · cases h
def sbyte (s : ByteArray) (j : Int) : Int := ((s.data.toList.getD j.toNat 0).toNat : Int)
def effIndexAddr (tau : Tau) (t : TypeId) (dst : Option Nat) : List AV → Eff
  | [.c (.sc (.p id off)), .c (.sc (.v (.int _ j)))] => match tau.und t with
    | some (.array n e) => match tau.size e with
      | some 1 => out dst (.c (.sc (.e id off n j))) [0 ≤ j ∧ j < (n : Int)]
      | _ => none
    | _ => none
  | [.c (.sc (.rs k ws)), .c (.sc (.v (.int _ j)))] => match tau.und t with
    | some (.slice e) => match tau.size e with
      | some 1 => out dst (.c (.sc (.re k ws j))) [0 ≤ j ∧ j < (ws.length : Int)]
      | _ => none
    | _ => none
  | [.c (.sc (.os id n)), .c (.sc (.v (.int _ j)))] => match tau.und t with
    | some (.slice e) => match tau.size e with
      | some 1 => out dst (.c (.sc (.e id 0 n j))) [0 ≤ j ∧ j < (n : Int)]
      | _ => none
    | _ => none
  | _ => none
theorem indexAddr_ok (ht : TauOk P tau) {o : Oper} {t : TypeId} {p q : Operand} (ho : o.op = .indexAddr t p q) {args : List AV} {bl : List (Nat × Blk)} {d : Dl} {O : List Prop} (h : effIndexAddr tau t o.dst args = some (d, O)) (hO : allP O) :
    OpOk P o args bl { d with dst := o.dst } := by
  unfold effIndexAddr at h
  split at h
  · rename_i id off k j
    split at h
    · rename_i n e hu
      split at h
      · rename_i hs
        cases h
        obtain ⟨⟨h0, h1⟩, _⟩ := hO
        refine OpOk_pure (fun E W ev hR => ?_)
        rw [ho] at hR
        obtain ⟨g1, ⟨g2, _⟩⟩ := av2 hR
        have g1 : ev p = .pointer (some ⟨E.rho id, off, none⟩) := g1
        obtain ⟨i, hi, hsz⟩ := ht.size _ _ hs
        refine ⟨.pointer (some ⟨E.rho id, off + j.toNat, none⟩), ?_, rfl, h0, h1⟩
        simp [execOp, ho, g1, g2, Instr.indexAt, asIntOf, run_underlying (ht.und _ _ hu), Instr.sureAddr, h0, h1, sizeOf, typeInfo, hi, hsz, addr_add]
      · cases h
    · cases h
  · rename_i k ws k2 j
    split at h
    · rename_i e hu
      split at h
      · rename_i hs
        cases h
        obtain ⟨⟨h0, h1⟩, _⟩ := hO
        refine OpOk_pure (fun E W ev hR => ?_)
        rw [ho] at hR
        obtain ⟨g1, ⟨g2, _⟩⟩ := av2 hR
        obtain ⟨i, hi, hsz⟩ := ht.size _ _ hs
        rcases g1 with ⟨rfl, _⟩ | ⟨b, off, cap, g1, gc, gb, gx⟩
        · simp at h1; omega
        · refine ⟨.pointer (some ⟨b, off + j.toNat, none⟩), ?_, b, off, rfl, h0, h1, gb, gx⟩
          simp [execOp, ho, g1, g2, Instr.indexAt, asIntOf, run_underlying (ht.und _ _ hu), h0, h1, sizeOf, typeInfo, hi, hsz, addr_add]
      · cases h
    · cases h
  · rename_i id n k2 j
    split at h
    · rename_i e hu
      split at h
      · rename_i hs
        cases h
        obtain ⟨⟨h0, h1⟩, _⟩ := hO
        refine OpOk_pure (fun E W ev hR => ?_)
        rw [ho] at hR
        obtain ⟨g1, ⟨g2, _⟩⟩ := av2 hR
        obtain ⟨i, hi, hsz⟩ := ht.size _ _ hs
        simp only [AV.R, Cm.R, Sc.R] at g1
        cases hc : E.cap id with
        | none => rw [hc] at g1; obtain ⟨_, rfl⟩ := g1; simp at h1; omega
        | some c =>
          rw [hc] at g1
          refine ⟨.pointer (some ⟨E.rho id, 0 + j.toNat, none⟩), ?_, rfl, h0, h1⟩
          simp [execOp, ho, g1, g2, Instr.indexAt, asIntOf, run_underlying (ht.und _ _ hu), h0, h1, sizeOf, typeInfo, hi, hsz, addr_add]
      · cases h
    · cases h
  · cases h
def effIndex (tau : Tau) (t : TypeId) (dst : Option Nat) : List AV → Eff
  | [.c (.ag [.row k n ws]), .c (.sc (.v (.int _ j)))] => match tau.und t with
    | some (.array m e) => match Nat.beq n m, tau.size e, tau.agg e with
      | true, some 1, some false => out dst (iv k (ws.getD j.toNat 0)) [0 ≤ j ∧ j < (n : Int)]
      | _, _, _ => none
    | _ => none
  | [.c (.sc (.v (.string s))), .c (.sc (.v (.int _ j)))] => match tau.und t with
    | some .string => out dst (iv .u8 (sbyte s j)) [0 ≤ j ∧ j < (s.size : Int)]
    | _ => none
  | _ => none
theorem map_get {k : IntKind} {ws : List Int} {j : Nat} (h : j < ws.length) : (ws.map (Value.int k))[j]? = some (.int k (ws.getD j 0)) := by
  simp [List.getD, List.getElem?_eq_getElem h]
theorem sbyte_get {s : ByteArray} {j : Int} (h0 : 0 ≤ j) (h1 : j < (s.size : Int)) : s[j.toNat]? = some (s[j.toNat]'(by omega)) ∧ ((s[j.toNat]'(by omega)).toNat : Int) = sbyte s j := by
  have hj : j.toNat < s.size := by omega
  refine ⟨?_, ?_⟩
  · simp [getElem?_pos, hj]
  · unfold sbyte
    have : j.toNat < s.data.toList.length := by simpa using hj
    simp only [List.getD, List.getElem?_eq_getElem this, Option.getD_some]
    rfl
theorem index_ok (ht : TauOk P tau) {o : Oper} {t : TypeId} {p q : Operand} (ho : o.op = .index t p q) {args : List AV} {bl : List (Nat × Blk)} {d : Dl} {O : List Prop} (h : effIndex tau t o.dst args = some (d, O)) (hO : allP O) :
    OpOk P o args bl { d with dst := o.dst } := by
  unfold effIndex at h
  split at h
  · rename_i k n ws k2 j
    split at h
    · rename_i m e hu
      split at h
      · rename_i hnm hs hag
        cases h
        obtain ⟨⟨h0, h1⟩, _⟩ := hO
        obtain rfl := Nat.eq_of_beq_eq_true hnm
        refine OpOk_pure (fun E W ev hR => ?_)
        rw [ho] at hR
        obtain ⟨g1, ⟨g2, _⟩⟩ := av2 hR
        obtain ⟨us, g1, u1, u2, e1, ⟨rfl, hlen⟩, e2⟩ := g1
        simp only [segsR] at e2
        subst e2
        subst e1
        obtain ⟨i, hi, hsz⟩ := ht.size _ _ hs
        have hj : j.toNat < ws.length := by omega
        refine ⟨.int k (ws.getD j.toNat 0), ?_, rfl, rfl⟩
        have hget : (ws.map (Value.int k) ++ []).toArray[j.toNat * i.size]? = some (.int k (ws.getD j.toNat 0)) := by
          rw [hsz, Nat.mul_one, List.append_nil, List.getElem?_toArray]; exact map_get hj
        have e0 : (execOp ev o) = (do pure (.value (← Instr.index t (ev p) (ev q)))) := by simp only [execOp, ho]
        rw [e0]
        simp only [Instr.index, g1, g2, asIntOf, Sem.run_bind, Sem.run_pure, Result.andThen_ok, run_underlying (ht.und _ _ hu), if_pos (And.intro h0 h1), sizeOf, typeInfo, run_program, hi, part, ht.isAgg hag, Bool.false_eq_true, if_false, hget]
      · cases h
    · cases h
  · rename_i s k2 j
    split at h
    · rename_i hu
      cases h
      obtain ⟨⟨h0, h1⟩, _⟩ := hO
      refine OpOk_pure (fun E W ev hR => ?_)
      rw [ho] at hR
      obtain ⟨⟨g1, _⟩, ⟨g2, _⟩⟩ := av2 hR
      obtain ⟨b1, b2⟩ := sbyte_get h0 h1
      refine ⟨.int .u8 (sbyte s j), ?_, rfl, rfl⟩
      have e0 : (execOp ev o) = (do pure (.value (← Instr.index t (ev p) (ev q)))) := by simp only [execOp, ho]
      rw [e0]
      simp only [Instr.index, g1, g2, asIntOf, Sem.run_bind, Sem.run_pure, Result.andThen_ok, run_underlying (ht.und _ _ hu), if_pos h0, b1, b2]
    · cases h
  · cases h
def effLen (tau : Tau) (t : TypeId) (dst : Option Nat) : List AV → Eff
  | [.c (.sc (.v (.string s)))] => match tau.und t with
    | some .string => out dst (iv .i64 (s.size : Int)) []
    | _ => none
  | [.c (.sc (.rs _ ws))] => match tau.und t with
    | some (.slice _) => out dst (iv .i64 (ws.length : Int)) []
    | _ => none
  | [.c (.sc (.os _ n))] => match tau.und t with
    | some (.slice _) => out dst (iv .i64 (n : Int)) []
    | _ => none
  | [.c (.ag _)] => match tau.und t with
    | some (.array n _) => out dst (iv .i64 (n : Int)) []
    | _ => none
  | _ => none
def effMM (b : Builtin) (dst : Option Nat) : List AV → Eff
  | [.c (.sc (.v (.int k x))), .c (.sc (.v (.int _ y)))] => match b with
    | .max => out dst (iv k (if y > x then y else x)) []
    | .min => out dst (iv k (if y < x then y else x)) []
    | _ => none
  | _ => none
def effCall (tau : Tau) (c : Call) (dst : Option Nat) (args : List AV) : Eff := match c.callee with
  | .builtin .len => match c.argTypes.toList with
    | [t] => effLen tau t dst args
    | _ => none
  | .builtin .max => effMM .max dst args
  | .builtin .min => effMM .min dst args
  | _ => none
theorem exec_builtin {o : Oper} {c : Call} {b : Builtin} (ho : o.op = .call c) (hc : c.callee = .builtin b) (ev : Operand → Value) : execOp ev o = builtin b c.argTypes o.type (c.args.map fun | .const _ => true | _ => false) (c.args.map ev) := by
  simp only [execOp, ho, resolve, hc, invoke]
  rfl
theorem call_ok (ht : TauOk P tau) {o : Oper} {c : Call} (ho : o.op = .call c) {args : List AV} {bl : List (Nat × Blk)} {d : Dl} {O : List Prop} (h : effCall tau c o.dst args = some (d, O)) : OpOk P o args bl { d with dst := o.dst } := by
  have argsEv : ∀ (b : Builtin), c.callee = .builtin b → ∀ (ev : Operand → Value), o.op.operands.toList.map ev = (c.args.map ev).toList := by
    intro b hc ev
    rw [ho]
    simp [Op.operands, Call.operands, hc]
  have aEq : ∀ (ev : Operand → Value) (l : List Value), (c.args.map ev).toList = l → c.args.map ev = l.toArray := fun ev l h => by rw [← h]
  unfold effCall at h
  split at h
  · rename_i hc
    split at h
    · rename_i t hts
      have hts' : c.argTypes = #[t] := by rw [← Array.toArray_toList (xs := c.argTypes), hts]
      unfold effLen at h
      split at h
      · rename_i s
        split at h
        · rename_i hu
          cases h
          refine OpOk_pure (fun E W ev hR => ?_)
          rw [argsEv _ hc] at hR
          obtain ⟨u, us, e, ⟨g1, _⟩, e2⟩ := hR
          simp only [avsR] at e2
          rw [e2, g1] at e
          exact ⟨.int .i64 s.size, by rw [exec_builtin ho hc, aEq ev _ e, hts']; simp [builtin, Builtin.len_, run_underlying (ht.und _ _ hu), goInt], rfl, rfl⟩
        · cases h
      · rename_i k ws
        split at h
        · rename_i el hu
          cases h
          refine OpOk_pure (fun E W ev hR => ?_)
          rw [argsEv _ hc] at hR
          obtain ⟨u, us, e, g1, e2⟩ := hR
          simp only [avsR] at e2
          rw [e2] at e
          refine ⟨.int .i64 ws.length, ?_, rfl, rfl⟩
          rcases g1 with ⟨rfl, rfl⟩ | ⟨b, off, cap, rfl, _⟩
          · rw [exec_builtin ho hc, aEq ev _ e, hts']; simp [builtin, Builtin.len_, run_underlying (ht.und _ _ hu), goInt]
          · rw [exec_builtin ho hc, aEq ev _ e, hts']; simp [builtin, Builtin.len_, run_underlying (ht.und _ _ hu), goInt]
        · cases h
      · rename_i id n
        split at h
        · rename_i el hu
          cases h
          refine OpOk_pure (fun E W ev hR => ?_)
          rw [argsEv _ hc] at hR
          obtain ⟨u, us, e, g1, e2⟩ := hR
          simp only [avsR] at e2
          rw [e2] at e
          refine ⟨.int .i64 n, ?_, rfl, rfl⟩
          simp only [AV.R, Cm.R, Sc.R] at g1
          cases hcap : E.cap id with
          | none =>
            rw [hcap] at g1
            obtain ⟨rfl, rfl⟩ := g1
            rw [exec_builtin ho hc, aEq ev _ e, hts']; simp [builtin, Builtin.len_, run_underlying (ht.und _ _ hu), goInt]
          | some cp =>
            rw [hcap] at g1
            obtain rfl := g1
            rw [exec_builtin ho hc, aEq ev _ e, hts']; simp [builtin, Builtin.len_, run_underlying (ht.und _ _ hu), goInt]
        · cases h
      · rename_i l
        split at h
        · rename_i n el hu
          cases h
          refine OpOk_pure (fun E W ev hR => ?_)
          rw [argsEv _ hc] at hR
          obtain ⟨u, us, e, g1, e2⟩ := hR
          simp only [avsR] at e2
          rw [e2] at e
          obtain ⟨vs, rfl, _⟩ := g1
          exact ⟨.int .i64 n, by rw [exec_builtin ho hc, aEq ev _ e, hts']; simp [builtin, Builtin.len_, run_underlying (ht.und _ _ hu), goInt], rfl, rfl⟩
        · cases h
      · cases h
    · cases h
  · rename_i hc
    unfold effMM at h
    split at h
    · rename_i k x k2 y
      cases h
      refine OpOk_pure (fun E W ev hR => ?_)
      rw [argsEv _ hc] at hR
      obtain ⟨u, us, e, ⟨g1, _⟩, v, vs, e3, ⟨g2, _⟩, e2⟩ := hR
      simp only [avsR] at e2
      rw [e3, e2, g1, g2] at e
      exact ⟨.int k (if y > x then y else x), by rw [exec_builtin ho hc, aEq ev _ e]; simp [builtin, Builtin.max_, Builtin.max2, List.foldlM], rfl, rfl⟩
    · cases h
  · rename_i hc
    unfold effMM at h
    split at h
    · rename_i k x k2 y
      cases h
      refine OpOk_pure (fun E W ev hR => ?_)
      rw [argsEv _ hc] at hR
      obtain ⟨u, us, e, ⟨g1, _⟩, v, vs, e3, ⟨g2, _⟩, e2⟩ := hR
      simp only [avsR] at e2
      rw [e3, e2, g1, g2] at e
      exact ⟨.int k (if y < x then y else x), by rw [exec_builtin ho hc, aEq ev _ e]; simp [builtin, Builtin.min_, Builtin.min2, List.foldlM], rfl, rfl⟩
    · cases h
  · cases h
end
section
variable {P : Program} {tau : Tau}
def effLoad (tau : Tau) (t : TypeId) (dst : Option Nat) (bl : List (Nat × Blk)) : List AV → Eff
  | [.c (.sc (.p id off))] => match look bl id with
    | some (.sg _ l) => match splitS l off with
      | some (_, r) => match tau.size t, tau.agg t with
        | some m, some true => match splitS r m with
          | some (x, _) => out dst (.c (.ag x)) []
          | none => none
        | some _, some false => match r with
          | .one x :: _ => out dst (.c (.sc x)) []
          | _ => none
        | _, _ => none
      | none => none
    | _ => none
  | [.c (.sc (.e id off n j))] => match look bl id, tau.agg t with
    | some (.sg _ l), some false => match splitS l off with
      | some (_, .row k m ws :: _) => match Nat.beq m n with
        | true => out dst (iv k (ws.getD j.toNat 0)) []
        | false => none
      | _ => none
    | some (.gr _ k ws), some false => match off with
      | 0 => out dst (iv k (ws.getD j.toNat 0)) [j < (ws.length : Int)]
      | _ => none
    | _, _ => none
  | [.c (.sc (.re k ws j))] => match tau.agg t with
    | some false => out dst (iv k (ws.getD j.toNat 0)) []
    | _ => none
  | _ => none
theorem exec_load {o : Oper} {t : TypeId} {p : Operand} (ho : o.op = .load t p) {ev : Operand → Value} {g off : Nat} (hp : ev p = .pointer (some ⟨g, off, none⟩)) {u : Value} {W : World} (h : (loadVar t ⟨g, off, none⟩).run P W = .ok u W) : (execOp ev o).run P W = .ok (.value u) W := by
  simp [execOp, ho, hp, Instr.loadAt, Instr.sureAddr, h]
theorem run_loadVar_cell (ht : TauOk P tau) {t : TypeId} {W : World} {a : Addr} {u : Value} (hc : W.cell? a = some u) (ha : tau.agg t = some false) : (loadVar t a).run P W = .ok u W := by
  simp [loadVar, Sem.run_bind, ht.isAgg ha W, load, Sem.run, hc]
theorem load_ok (ht : TauOk P tau) {o : Oper} {t : TypeId} {p : Operand} (ho : o.op = .load t p) {args : List AV} {bl : List (Nat × Blk)} {d : Dl} {O : List Prop} (h : effLoad tau t o.dst bl args = some (d, O)) (hO : allP O) :
    OpOk P o args bl { d with dst := o.dst } := by
  have fin : ∀ (x : AV), (∀ (C : Cx) (n : Nat) (E : En) (s : St) (a : Act) (W : World), Sat C n E s a W → avsR E W args [a.eval p] → (∀ id B, (id, B) ∈ bl → look s.H id = some B) → ∃ u, (execOp a.eval o).run P W = .ok (.value u) W ∧ x.R E W u) →
      OpOk P o args bl ⟨o.dst, x, none, false⟩ := by
    intro x hx C n E s a W Q hS hargs hbl _ hn _
    rw [ho] at hargs
    obtain ⟨u, hu, hR⟩ := hx C n E s a W hS hargs hbl
    unfold Oper.wp
    rw [hu]
    exact ⟨E, hS.pure hn rfl (fun _ => hR)⟩
  unfold effLoad at h
  split at h
  · rename_i id off
    split at h
    · rename_i t0 l hl
      split at h
      · rename_i a0 r hsp
        obtain ⟨rfl, hoff⟩ := splitS_spec hsp
        split at h
        · rename_i m hs hag
          split at h
          · rename_i x b0 hsp2
            obtain ⟨rfl, hm⟩ := splitS_spec hsp2
            cases h
            refine fin _ (fun C n E s a W hS hargs hbl => ?_)
            have hp : a.eval p = .pointer (some ⟨E.rho id, off, none⟩) := av1 hargs
            obtain ⟨us, h1, h2⟩ := hS.blks id _ (hbl id _ (look_mem hl))
            obtain ⟨ua, ur, rfl, hua, hur⟩ := segsR_split h2
            obtain ⟨ux, ub, rfl, hux, hub⟩ := segsR_split hur
            refine ⟨.agg ux.toArray, exec_load ho hp ?_, ux, rfl, hux⟩
            rw [show off = ua.length by rw [segsR_size hua, hoff]]
            exact run_loadVar_mid ht h1 (by rw [segsR_size hux, hm]; exact hs) hag
          · cases h
        · rename_i m hs hag
          split at h
          · rename_i x b0
            cases h
            refine fin _ (fun C n E s a W hS hargs hbl => ?_)
            have hp : a.eval p = .pointer (some ⟨E.rho id, off, none⟩) := av1 hargs
            obtain ⟨us, h1, h2⟩ := hS.blks id _ (hbl id _ (look_mem hl))
            obtain ⟨ua, ur, rfl, hua, hur⟩ := segsR_split h2
            obtain ⟨u1, ub, rfl, ⟨u, rfl, hu⟩, hub⟩ := hur
            refine ⟨u, exec_load ho hp ?_, hu⟩
            rw [show off = ua.length by rw [segsR_size hua, hoff]]
            exact run_loadVar_one ht h1 hag
          · cases h
        · cases h
      · cases h
    · cases h
  · rename_i id off n j
    split at h
    · rename_i t0 l hl hag
      split at h
      · rename_i a0 k m ws b0 hsp
        obtain ⟨rfl, hoff⟩ := splitS_spec hsp
        split at h
        · rename_i hmn
          cases h
          obtain rfl := Nat.eq_of_beq_eq_true hmn
          refine fin _ (fun C n E s a W hS hargs hbl => ?_)
          obtain ⟨hp, h0, h1⟩ := av1 hargs
          obtain ⟨us, g1, g2⟩ := hS.blks id _ (hbl id _ (look_mem hl))
          obtain ⟨ua, ur, rfl, hua, hur⟩ := segsR_split g2
          obtain ⟨u1, ub, rfl, ⟨rfl, hlen⟩, hub⟩ := hur
          refine ⟨.int k (ws.getD j.toNat 0), exec_load ho hp (run_loadVar_cell ht ?_ hag), rfl, rfl⟩
          have hj : j.toNat < ws.length := by omega
          rw [show off = ua.length by rw [segsR_size hua, hoff], cell_of_row W _ _ _ _ _ g1, List.getElem?_toArray, List.getElem?_append_right (by omega), show ua.length + j.toNat - ua.length = j.toNat by omega,
            List.getElem?_append_left (by simpa using hj)]
          exact map_get hj
        · cases h
      · cases h
    · rename_i t0 k ws hl hag
      split at h
      · cases h
        refine fin _ (fun C n E s a W hS hargs hbl => ?_)
        obtain ⟨hp, h0, h1⟩ := av1 hargs
        have hb := hS.blks id _ (hbl id _ (look_mem hl))
        have hj : j.toNat < ws.length := by have := hO.1; omega
        simp only [Blk.R] at hb
        cases hc : E.cap id with
        | none => rw [hc] at hb; subst hb; simp at hj
        | some cp =>
          rw [hc] at hb
          obtain ⟨us, g1, g2, g3, g4, g5⟩ := hb
          refine ⟨.int k (ws.getD j.toNat 0), exec_load ho hp (run_loadVar_cell ht ?_ hag), rfl, rfl⟩
          rw [cell_of_row W _ _ _ _ _ g1, List.getElem?_toArray, Nat.zero_add]
          have := map_get (k := k) hj
          rw [← g5, List.getElem?_take, if_pos hj] at this
          exact this
      · cases h
    · cases h
  · rename_i k ws j
    split at h
    · rename_i hag
      cases h
      refine fin _ (fun C n E s a W hS hargs hbl => ?_)
      obtain ⟨b, off, hp, h0, h1, hb, hx⟩ := av1 hargs
      refine ⟨.int k (ws.getD j.toNat 0), exec_load ho hp (run_loadVar_cell ht ?_ hag), rfl, rfl⟩
      refine hx _ _ ?_
      have hj : j.toNat < ws.length := by omega
      simp [List.getD, List.getElem?_eq_getElem hj]
    · cases h
  · cases h
def effStore (tau : Tau) (t : TypeId) (bl : List (Nat × Blk)) : List AV → Eff
  | [.c (.sc (.p id off)), .c x] => match look bl id with
    | some (.sg t0 l) => match splitS l off, tau.size t with
      | some (a, r), some m => match Nat.beq (segsSize x.segs) m, splitS r m with
        | true, some (_, b) => some (⟨none, .un, some (id, .sg t0 (a ++ (x.segs ++ b))), false⟩, [])
        | _, _ => none
      | _, _ => none
    | _ => none
  | [.c (.sc (.e id off n j)), .c (.sc (.v (.int k x)))] => match look bl id, tau.size t with
    | some (.sg t0 l), some 1 => match splitS l off with
      | some (a, .row k' m ws :: b) => match Nat.beq m n, decide (k = k') with
        | true, true => some (⟨none, .un, some (id, .sg t0 (a ++ (.row k' m (ws.set j.toNat x) :: b))), false⟩, [])
        | _, _ => none
      | _ => none
    | some (.gr t0 k' ws), some 1 => match off, decide (k = k') with
      | 0, true => some (⟨none, .un, some (id, .gr t0 k' (ws.set j.toNat x)), false⟩, [j < (ws.length : Int)])
      | _, _ => none
    | _, _ => none
  | _ => none
theorem run_storeVar_at (ht : TauOk P tau) {t : TypeId} {m : Nat} (hs : tau.size t = some m) {u : Value} {vs : List Value} (hu : u.cells = vs.toArray) (hm : vs.length = m) (h1 : ∀ v ∈ vs, v.oneCell' = true) {g off : Nat} {t0 : TypeId} {us : List Value} {W : World}
    (hg : W.heap[g]? = some (.cells us.toArray t0 (0, 0))) (hl : off + vs.length ≤ us.length) : (storeVar t ⟨g, off, none⟩ u).run P W = .ok () (W.setRow g (us.take off ++ vs ++ us.drop (off + vs.length)).toArray) := by
  obtain ⟨i, hi, hsz⟩ := ht.size _ _ hs
  have hst := run_storeCells_at P g off t0 vs 0 us.toArray W hg (by simpa using hl) h1
  simp only [Nat.add_zero] at hst
  have hc : ¬ vs.toArray.size ≠ i.size := by rw [hsz]; simpa using hm
  simp only [storeVar, sizeOf, typeInfo, Sem.run_bind, run_program, Result.andThen_ok, hi, Sem.run_pure, hu]
  rw [if_neg hc]
  exact hst
theorem take_set_drop (l : List Value) (i : Nat) (v : Value) (h : i < l.length) : l.take i ++ [v] ++ l.drop (i + 1) = l.set i v := by
  rw [List.set_eq_take_append_cons_drop, if_pos h]; simp
theorem set_mid (a m b : List Value) (j : Nat) (v : Value) (h : j < m.length) : (a ++ (m ++ b)).set (a.length + j) v = a ++ (m.set j v ++ b) := by
  rw [List.set_append_right _ _ (by omega), show a.length + j - a.length = j by omega, List.set_append_left _ _ h]
theorem exec_store {o : Oper} {t : TypeId} {p q : Operand} (ho : o.op = .store t p q) {ev : Operand → Value} {g off : Nat} (hp : ev p = .pointer (some ⟨g, off, none⟩)) {W W' : World} (h : (storeVar t ⟨g, off, none⟩ (ev q)).run P W = .ok () W') : (execOp ev o).run P W = .ok .skip W' := by
  simp [execOp, ho, hp, Instr.storeAt, Instr.sureAddr, h]
theorem Sat.store {C : Cx} {n : Nat} {E : En} {s : St} {a : Act} {W : World} (hS : Sat C n E s a W) {id : Nat} {B0 B : Blk} (hB0 : look s.H id = some B0) (hl : B0.live E id) {cs : Array Value} {fr : Nat × Nat} {t0 : TypeId} {old : Array Value} (hold : W.heap[E.rho id]? = some (.cells old t0 fr))
    (hB : ∀ W' : World, W'.heap[E.rho id]? = some (.cells cs t0 fr) → Kp (fun _ => True) E W E W' → B.R E W' id) (hsg : B0.isSg → B.isSg := by exact fun h => h) : Sat C n E (s.put ⟨none, .un, some (id, B), false⟩) a (W.setRow (E.rho id) cs) := by
  have hro := hS.own id B0 hB0 hl
  have hne : ∀ b, b ≠ E.rho id → (W.setRow (E.rho id) cs).heap[b]? = W.heap[b]? := fun b hb => setRow_other W _ b cs hb
  have hk : Kp (fun _ => True) E W E (W.setRow (E.rho id) cs) := ⟨fun _ _ => rfl, fun _ _ => rfl, fun _ h => h, fun b hb => hne b (fun e => hro.2 (e ▸ hb))⟩
  have := hS.step (E' := E) (W' := W.setRow (E.rho id) cs) (d := ⟨none, .un, some (id, B), false⟩) (u := undef) (by simp) (by simp)
    ⟨fun _ _ => rfl, fun _ _ => rfl, fun _ h => h, hk.mem⟩ (by simp)
    (fun i A hi => by cases hi; exact hB _ (setRow_heap W _ _ _ _ _ hold) hk)
    (fun i A hi _ => by cases hi; exact hro)
    (fun i A hi hA j A' hji hj hl' he => by cases hi; exact hji (hS.inj j id A' B0 hj hB0 hl' hl he))
    (fun j A hj hA => (hS.own j A hj hA).2)
    (fun j A hj hA hne' => hne _ (fun e => hne' id B rfl (hS.inj j id A B0 hj hB0 hA hl e)))
    (fun b hb => by simpa using hS.ro b hb) rfl rfl rfl (by simp)
    (fun b hb hK => hne b (fun e => by subst e; rcases hro.1 with h | h; omega; exact hK h))
    (fun i A g hi hg => by cases hi; exact ⟨rfl, hsg ((hS.fix id g hg).2.2 B0 hB0)⟩)
  simpa [Act.put] using this
theorem store_ok (ht : TauOk P tau) {o : Oper} {t : TypeId} {p q : Operand} (ho : o.op = .store t p q) (hd : o.dst = none) {args : List AV} {bl : List (Nat × Blk)} {d : Dl} {O : List Prop} (h : effStore tau t bl args = some (d, O)) (hO : allP O) :
    OpOk P o args bl { d with dst := o.dst } := by
  have skip : ∀ (a : Act) (W W' : World) (K : Act → World → Prop) (Q : Exit → Act → World → Prop), (execOp a.eval o).run P W = .ok .skip W' → K a W' → o.wp P a W K Q := by
    intro a W W' K Q h1 h2
    unfold Oper.wp
    rw [h1]
    simpa [Oper.upon, hd, Act.put] using h2
  unfold effStore at h
  split at h
  · rename_i id off x
    split at h
    · rename_i t0 l hl
      split at h
      · rename_i a0 r m hsp hs
        split at h
        · rename_i mid b0 hm hsp2
          cases h
          obtain ⟨rfl, hoff⟩ := splitS_spec hsp
          obtain ⟨rfl, hm2⟩ := splitS_spec hsp2
          have hm := Nat.eq_of_beq_eq_true hm
          rw [hd]
          intro C n E s a W Q hS hargs hbl _ _ _
          rw [ho] at hargs
          obtain ⟨g1, g2⟩ := av2 hargs
          have hp : a.eval p = .pointer (some ⟨E.rho id, off, none⟩) := g1
          obtain ⟨vs, hv, hvR⟩ := Cm.R_cells g2
          have hB := hbl id _ (look_mem hl)
          obtain ⟨us, h1, h2⟩ := hS.blks id _ hB
          obtain ⟨ua, ur, rfl, hua, hur⟩ := segsR_split h2
          obtain ⟨ux, ub, rfl, hux, hub⟩ := segsR_split hur
          have e1 : off = ua.length := by rw [segsR_size hua, hoff]
          have e2 : vs.length = m := by rw [segsR_size hvR, hm]
          have e3 : ux.length = m := by rw [segsR_size hux, hm2]
          have hst := run_storeVar_at ht hs hv e2 (segsR_one hvR) h1 (off := off) (by simp only [List.length_append]; omega)
          have e4 : (ua ++ (ux ++ ub)).take off ++ vs ++ (ua ++ (ux ++ ub)).drop (off + vs.length) = ua ++ (vs ++ ub) := by
            rw [e1, List.take_left, List.drop_append, show ua.length + vs.length - ua.length = vs.length by omega]
            rw [List.drop_eq_nil_of_le (by omega), List.drop_append, e2, ← e3]
            simp
          rw [e4] at hst
          refine skip a W _ _ Q (exec_store ho hp hst) ⟨E, ?_⟩
          refine hS.store hB trivial h1 (fun W' hW' hk => ?_)
          exact ⟨_, hW', segsR_append (segs_kept hk hua (fun _ _ => trivial)) (segsR_append (segs_kept hk hvR (fun _ _ => trivial)) (segs_kept hk hub (fun _ _ => trivial)))⟩
        · cases h
      · cases h
    · cases h
  · rename_i id off n j k x
    split at h
    · rename_i t0 l hl hs
      split at h
      · rename_i a0 k' m ws b0 hsp
        split at h
        · rename_i hmn hk
          cases h
          obtain ⟨rfl, hoff⟩ := splitS_spec hsp
          obtain rfl := Nat.eq_of_beq_eq_true hmn
          obtain rfl := kind_ne hk
          rw [hd]
          intro C n E s a W Q hS hargs hbl _ _ _
          rw [ho] at hargs
          obtain ⟨⟨hp, h0, h1⟩, ⟨hq, _⟩⟩ := av2 hargs
          have hB := hbl id _ (look_mem hl)
          obtain ⟨us, g1, g2⟩ := hS.blks id _ hB
          obtain ⟨ua, ur, rfl, hua, hur⟩ := segsR_split g2
          obtain ⟨u1, ub, rfl, ⟨rfl, hlen⟩, hub⟩ := hur
          have e1 : off = ua.length := by rw [segsR_size hua, hoff]
          have hj : j.toNat < ws.length := by omega
          have hst := run_storeVar_at ht hs (u := a.eval q) (vs := [.int k x]) (by rw [hq]; rfl) rfl (by simp [Value.oneCell']) g1 (off := off + j.toNat) (by simp only [List.length_append, List.length_map, List.length_singleton]; omega)
          have e4 : (ua ++ (ws.map (Value.int k) ++ ub)).take (off + j.toNat) ++ [Value.int k x] ++ (ua ++ (ws.map (Value.int k) ++ ub)).drop (off + j.toNat + [Value.int k x].length) = ua ++ ((ws.set j.toNat x).map (Value.int k) ++ ub) := by
            rw [List.length_singleton, take_set_drop _ _ _ (by simp only [List.length_append, List.length_map]; omega), e1, set_mid _ _ _ _ _ (by simpa using hj), List.map_set]
          rw [e4] at hst
          refine skip a W _ _ Q (exec_store ho hp hst) ⟨E, ?_⟩
          refine hS.store hB trivial g1 (fun W' hW' hk => ?_)
          exact ⟨_, hW', segsR_append (segs_kept hk hua (fun _ _ => trivial)) ⟨_, ub, rfl, ⟨rfl, by simpa using hlen⟩, segs_kept hk hub (fun _ _ => trivial)⟩⟩
        · cases h
      · cases h
    · rename_i t0 k' ws hl hs
      split at h
      · rename_i hk
        cases h
        obtain rfl := kind_ne hk
        have hjw := hO.1
        rw [hd]
        intro C n E s a W Q hS hargs hbl _ _ _
        rw [ho] at hargs
        obtain ⟨⟨hp, h0, h1⟩, ⟨hq, _⟩⟩ := av2 hargs
        have hB := hbl id _ (look_mem hl)
        have hb := hS.blks id _ hB
        have hj : j.toNat < ws.length := by omega
        simp only [Blk.R] at hb
        cases hc : E.cap id with
        | none => rw [hc] at hb; subst hb; simp at hj
        | some cp =>
          rw [hc] at hb
          obtain ⟨us, g1, g2, g3, g4, g5⟩ := hb
          have hst := run_storeVar_at ht hs (u := a.eval q) (vs := [.int k x]) (by rw [hq]; rfl) rfl (by simp [Value.oneCell']) g1 (off := 0 + j.toNat) (by simp only [List.length_singleton]; omega)
          have e4 : us.take (0 + j.toNat) ++ [Value.int k x] ++ us.drop (0 + j.toNat + [Value.int k x].length) = us.set j.toNat (.int k x) := by
            rw [Nat.zero_add, List.length_singleton, take_set_drop _ _ _ (by omega)]
          rw [e4] at hst
          refine skip a W _ _ Q (exec_store ho hp hst) ⟨E, ?_⟩
          refine hS.store hB (by simp [Blk.live, hc]) g1 (fun W' hW' hk => ?_)
          simp only [Blk.R, hc]
          refine ⟨_, hW', by simpa using g2, g3, by simpa using g4, ?_⟩
          rw [List.length_set, List.take_set, g5, List.map_set]
      · cases h
    · cases h
  · cases h
theorem Sat.new {C : Cx} {n : Nat} {E : En} {s : St} {a : Act} {W : World} (hS : Sat C n E s a W) {id : Nat} {t : TypeId} {l : List Seg} {us : List Value} (hn : id < n) (hfr : s.fresh id = true) (hl : segsHas id l = false) (hR : segsR E W l us) :
    ∃ E', Sat C n E' (s.put ⟨some id, .c (.sc (.p id 0)), some (id, .sg t l), true⟩) (a.put (some id) (.pointer (some ⟨W.heap.size, 0, none⟩))) (W.alloc (.cells us.toArray t)) := by
  let E' : En := ⟨fun i => if i = id then W.heap.size else E.rho i, E.cap, E.ro⟩
  have hold : ∀ b, b < W.heap.size → (W.alloc (.cells us.toArray t)).heap[b]? = W.heap[b]? := fun b hb => Below.heap_alloc W _ b hb
  have hkp : Kp (fun i => i ≠ id) E W E' (W.alloc (.cells us.toArray t)) := ⟨fun i hi => by simp [E', hi], fun _ _ => rfl, fun _ h => h, fun b hb => hold b (hS.ro b hb).1⟩
  have hid : E'.rho id = W.heap.size := by simp [E']
  refine ⟨E', hS.step (E' := E') (d := ⟨some id, .c (.sc (.p id 0)), some (id, .sg t l), true⟩) (by simpa using hn) ?_ ⟨?_, fun _ _ => rfl, fun _ h => h, hkp.mem⟩ ?_ ?_ ?_ ?_ ?_ ?_ ?_ rfl rfl rfl (by simp) ?_ (fun i B g hi hg => by cases hi; have := (hS.fix id g hg).1; omega)⟩
  · intro _
    show _ = _
    rw [hid]
  · intro i hi
    have : i ≠ id := by intro e; subst e; exact hi rfl rfl
    exact hkp.rho i this
  · intro _ i B hi; cases hi; exact hfr
  · intro i B hi; cases hi
    refine ⟨us, by rw [hid]; exact heap_alloc_new W _, ?_⟩
    refine segs_kept hkp hR (fun d hd => ?_)
    intro e; subst e; rw [hl] at hd; cases hd
  · intro i B hi _; cases hi
    refine ⟨.inl (by rw [hid]; exact hS.hsize), fun h => ?_⟩
    have := (hS.ro _ h).1
    rw [hid] at this
    omega
  · intro i B hi _ j A hji hj hA he; cases hi
    have := live_lt hS hj hA
    rw [hid] at he
    omega
  · intro j A hj hA; exact (hS.own j A hj hA).2
  · intro j A hj hA _; exact hold _ (live_lt hS hj hA)
  · intro b hb
    have := hS.ro b hb
    exact ⟨by simp; omega, this.2⟩
  · intro b hb _
    exact hold b (Nat.lt_of_lt_of_le hb hS.hsize)
def effNew (t : TypeId) (l : List Seg) : Option Nat → Eff
  | some id => match segsHas id l with
    | false => some (⟨some id, .c (.sc (.p id 0)), some (id, .sg t l), true⟩, [])
    | true => none
  | none => none
theorem new_ok {o : Oper} {args : List AV} {bl : List (Nat × Blk)} {d : Dl} {O : List Prop} {t : TypeId} {l : List Seg} (h : effNew t l o.dst = some (d, O))
    (hx : ∀ (E : En) (W : World) (ev : Operand → Value), avsR E W args (o.op.operands.toList.map ev) → ∃ us, segsR E W l us ∧ (execOp ev o).run P W = .ok (.value (.pointer (some ⟨W.heap.size, 0, none⟩))) (W.alloc (.cells us.toArray t))) :
    OpOk P o args bl { d with dst := o.dst } := by
  unfold effNew at h
  split at h
  · rename_i id hdst
    split at h
    · rename_i hl
      cases h
      intro C n E s a W Q hS hargs _ hfr hn _
      obtain ⟨us, h1, h2⟩ := hx E W a.eval hargs
      rw [hdst]
      unfold Oper.wp
      rw [h2]
      simp only [Oper.upon, hdst]
      exact hS.new (hn id hdst) (hfr rfl id _ rfl) hl h1
    · cases h
  · cases h
def effAlloc (tau : Tau) (t : TypeId) (dst : Option Nat) : Eff := match tau.zero t with
  | some l => effNew t l dst
  | none => none
theorem alloc_ok (ht : TauOk P tau) {o : Oper} {t : TypeId} (ho : o.op = .alloc t) {args : List AV} {bl : List (Nat × Blk)} {d : Dl} {O : List Prop} (h : effAlloc tau t o.dst = some (d, O)) : OpOk P o args bl { d with dst := o.dst } := by
  unfold effAlloc at h
  split at h
  · rename_i l hl
    refine new_ok h (fun E W ev _ => ?_)
    obtain ⟨i, v, us, h1, h2, h3, h4⟩ := ht.zero _ _ hl
    refine ⟨us, h4 E W, ?_⟩
    simp only [execOp, ho, Instr.alloc, zeroValue, typeInfo, Sem.run_bind, run_program, Result.andThen_ok, h1, Sem.run_pure, h2, newVar, newRow, newObj, Sem.run, h3]
    rfl
  · cases h
def effBox (t : TypeId) (dst : Option Nat) : List AV → Eff
  | [.c x] => effNew t x.segs dst
  | _ => none
theorem box_ok {o : Oper} {t : TypeId} {p : Operand} (ho : o.op = .box t p) {args : List AV} {bl : List (Nat × Blk)} {d : Dl} {O : List Prop} (h : effBox t o.dst args = some (d, O)) : OpOk P o args bl { d with dst := o.dst } := by
  unfold effBox at h
  split at h
  · rename_i x
    refine new_ok h (fun E W ev hR => ?_)
    rw [ho] at hR
    obtain ⟨us, h1, h2⟩ := Cm.R_cells (av1 hR)
    refine ⟨us, h2, ?_⟩
    simp only [execOp, ho, Instr.box, newVar, newRow, newObj, Sem.run_bind, Sem.run, Result.andThen_ok, Sem.run_pure, h1]
    rfl
  · cases h
def fillS (tau : Tau) (fs : List Field) : List Seg → List Nat → List AV → Option (List Seg)
  | l, [], [] => some l
  | l, i :: is, .c x :: xs => match fs[i]? with
    | some f => match tau.size f.type with
      | some m => match Nat.beq (segsSize x.segs) m, splitS l f.offset with
        | true, some (a, r) => match splitS r m with
          | some (_, b) => fillS tau fs (a ++ (x.segs ++ b)) is xs
          | none => none
        | _, _ => none
      | none => none
    | none => none
  | _, _, _ => none
def fillA (k : IntKind) (n : Nat) : List Int → List Nat → List AV → Option (List Int)
  | ws, [], [] => some ws
  | ws, i :: is, .c (.sc (.v (.int k' x))) :: xs => match Nat.blt i n, decide (k' = k) with
    | true, true => fillA k n (ws.set i x) is xs
    | _, _ => none
  | _, _, _ => none
def sizesKnown (tau : Tau) : List Field → Bool
  | [] => true
  | f :: l => (tau.size f.type).isSome && sizesKnown tau l
def effBuild (tau : Tau) (t : TypeId) (is : List Nat) (dst : Option Nat) (args : List AV) : Eff := match tau.zero t, tau.und t with
  | some l, some (.struct fs) => match sizesKnown tau fs.toList, fillS tau fs.toList l is args with
    | true, some l' => out dst (.c (.ag l')) []
    | _, _ => none
  | some [.row k n ws], some (.array m e) => match Nat.beq n m, tau.size e with
    | true, some 1 => match fillA k n ws is args with
      | some ws' => out dst (.c (.ag [.row k n ws'])) []
      | none => none
    | _, _ => none
  | _, _ => none
theorem fold_set (vs : List Value) : ∀ (us : List Value) (off k : Nat), off + k + vs.length ≤ us.length → (vs.toArray.zipIdx k).foldl (fun cs (c, j) => cs.setIfInBounds (off + j) c) us.toArray = (us.take (off + k) ++ vs ++ us.drop (off + k + vs.length)).toArray := by
  induction vs with
  | nil => intro us off k _; rw [← Array.foldl_toList]; simp
  | cons v vs ih =>
    intro us off k h
    simp only [List.length_cons] at h
    rw [← Array.foldl_toList]
    have e : ((v :: vs).toArray.zipIdx k).toList = (v, k) :: (vs.toArray.zipIdx (k + 1)).toList := by simp [List.zipIdx_cons]
    rw [e, List.foldl_cons, Array.foldl_toList]
    simp only [List.setIfInBounds_toArray]
    rw [ih (us.set (off + k) v) off (k + 1) (by simp only [List.length_set]; omega)]
    congr 1
    rw [← take_set_drop us (off + k) v (by omega)]
    have hA : (us.take (off + k) ++ [v]).length = off + (k + 1) := by simp only [List.length_append, List.length_take, List.length_singleton]; omega
    rw [List.take_left' hA, List.drop_append, List.drop_eq_nil_of_le (by omega), List.drop_drop, hA]
    simp only [List.nil_append, List.append_assoc, List.singleton_append, List.length_cons]
    rw [show off + k + 1 + (off + (k + 1) + vs.length - (off + (k + 1))) = off + k + (vs.length + 1) by omega]
def fieldPlaces (tau : Tau) : List Field → List (Nat × Nat)
  | [] => []
  | f :: l => (f.offset, (tau.size f.type).getD 0) :: fieldPlaces tau l
theorem places_run (ht : TauOk P tau) (W : World) : ∀ (l : List Field), sizesKnown tau l = true → (l.mapM fun f => do pure (f.offset, ← sizeOf f.type) : Sem (List (Nat × Nat))).run P W = .ok (fieldPlaces tau l) W
  | [], _ => rfl
  | f :: l, h => by
    simp only [sizesKnown, Bool.and_eq_true] at h
    cases hs : tau.size f.type with
    | none => rw [hs] at h; cases h.1
    | some m =>
      obtain ⟨i, hi, hsz⟩ := ht.size _ _ hs
      have h1 : (sizeOf f.type).run P W = .ok m W := by simp only [sizeOf, typeInfo, Sem.run_bind, run_program, Result.andThen_ok, hi, Sem.run_pure, hsz]
      have h2 := places_run ht W l h.2
      simp only [List.mapM_cons, Sem.run_bind, h1, Result.andThen_ok, Sem.run_pure, h2, fieldPlaces, hs, Option.getD_some]
theorem fieldPlaces_get (tau : Tau) : ∀ (l : List Field) (i : Nat) (f : Field), l[i]? = some f → (fieldPlaces tau l)[i]? = some (f.offset, (tau.size f.type).getD 0)
  | [], i, f, h => by simp at h
  | g :: l, 0, f, h => by cases h; rfl
  | g :: l, i + 1, f, h => by simpa [fieldPlaces] using fieldPlaces_get tau l i f (by simpa using h)
theorem fillS_run (tau : Tau) (fs : List Field) {E : En} {W : World} (pl : Nat → Option (Nat × Nat)) (hpl : ∀ i f, fs[i]? = some f → pl i = some (f.offset, (tau.size f.type).getD 0)) : ∀ (is : List Nat) (xs : List AV) (vs us : List Value) (l l' : List Seg), segsR E W l us → avsR E W xs vs → fillS tau fs l is xs = some l' →
    ∃ us', Instr.fill pl us.toArray (is.zip vs) = some us'.toArray ∧ segsR E W l' us'
  | [], [], vs, us, l, l', hl, hx, h => by
    simp only [fillS, Option.some.injEq] at h
    subst h
    exact ⟨us, by simp [Instr.fill], hl⟩
  | [], _ :: _, _, _, _, _, _, _, h => by simp [fillS] at h
  | i :: is, [], _, _, _, _, _, _, h => by simp [fillS] at h
  | i :: is, x :: xs, vs, us, l, l', hl, hx, h => by
    obtain ⟨v, vs', rfl, hv, hvs⟩ := hx
    cases x with
    | c x =>
      simp only [fillS] at h
      split at h
      · rename_i f hf
        split at h
        · rename_i m hs
          split at h
          · rename_i a r hm hsp
            split at h
            · rename_i mid b hsp2
              obtain ⟨rfl, hoff⟩ := splitS_spec hsp
              obtain ⟨rfl, hmid⟩ := splitS_spec hsp2
              obtain ⟨ua, ur, rfl, hua, hur⟩ := segsR_split hl
              obtain ⟨um, ub, rfl, hum, hub⟩ := segsR_split hur
              obtain ⟨cv, hcv, hcR⟩ := Cm.R_cells hv
              have hm := Nat.eq_of_beq_eq_true hm
              have e1 : f.offset = ua.length := by rw [segsR_size hua, hoff]
              have e2 : cv.length = m := by rw [segsR_size hcR, hm]
              have e3 : um.length = m := by rw [segsR_size hum, hmid]
              obtain ⟨us', h1, h2⟩ := fillS_run tau fs pl hpl is xs vs' (ua ++ (cv ++ ub)) _ l' (segsR_append hua (segsR_append hcR hub)) hvs h
              refine ⟨us', ?_, h2⟩
              simp only [List.zip_cons_cons, Instr.fill, hpl i f hf, hs, Option.getD_some]
              rw [if_neg (by rw [hcv]; simp only [List.size_toArray, List.length_append, Bool.or_eq_true, decide_eq_true_eq, not_or]; omega), hcv]
              rw [← h1]
              congr 1
              have := fold_set cv (ua ++ (um ++ ub)) f.offset 0 (by simp only [List.length_append]; omega)
              rw [this, Nat.add_zero, e1, List.take_left, List.drop_append, show ua.length + cv.length - ua.length = cv.length by omega, List.drop_eq_nil_of_le (by omega), List.nil_append, List.append_assoc, e2, ← e3, List.drop_left]
            · cases h
          · cases h
        · cases h
      · cases h
    | tu l => simp [fillS] at h
    | un => simp [fillS] at h
theorem fillA_run {E : En} {W : World} {k : IntKind} {n : Nat} (pl : Nat → Option (Nat × Nat)) (hpl : ∀ i, pl i = some (i, 1)) : ∀ (is : List Nat) (xs : List AV) (vs : List Value) (ws ws' : List Int), ws.length = n → avsR E W xs vs → fillA k n ws is xs = some ws' →
    Instr.fill pl (ws.map (Value.int k)).toArray (is.zip vs) = some (ws'.map (Value.int k)).toArray ∧ ws'.length = n
  | [], [], vs, ws, ws', hl, hx, h => by
    simp only [fillA, Option.some.injEq] at h
    subst h
    exact ⟨by simp [Instr.fill], hl⟩
  | [], _ :: _, _, _, _, _, _, h => by simp [fillA] at h
  | i :: is, [], _, _, _, _, _, h => by simp [fillA] at h
  | i :: is, x :: xs, vs, ws, ws', hl, hx, h => by
    obtain ⟨v, vs', rfl, hv, hvs⟩ := hx
    have core : ∀ (k' : IntKind) (y : Int), x = .c (.sc (.v (.int k' y))) → Instr.fill pl (ws.map (Value.int k)).toArray ((i :: is).zip (v :: vs')) = some (ws'.map (Value.int k)).toArray ∧ ws'.length = n := by
      rintro k' y rfl
      simp only [fillA] at h
      split at h
      · rename_i hi hk
        obtain rfl := kind_ne hk
        have hi : i < n := by simpa using hi
        obtain ⟨rfl, _⟩ := hv
        obtain ⟨h1, h2⟩ := fillA_run pl hpl is xs vs' (ws.set i y) ws' (by simpa using hl) hvs h
        refine ⟨?_, h2⟩
        simp only [List.zip_cons_cons, Instr.fill, hpl i]
        have hc : (Value.int k' y).cells = #[.int k' y] := rfl
        rw [if_neg (by rw [hc]; simp; omega), hc, ← h1]
        congr 1
        have := fold_set [.int k' y] (ws.map (Value.int k')) i 0 (by simp; omega)
        rw [show (#[.int k' y] : Array Value) = [Value.int k' y].toArray from rfl, this, Nat.add_zero, List.length_singleton, take_set_drop _ _ _ (by simp; omega), List.map_set]
      · cases h
    cases x with
    | c x => cases x with
      | sc s => cases s with
        | v y => cases y with
          | int k' y => exact core k' y rfl
          | _ => simp [fillA] at h
        | _ => simp [fillA] at h
      | ag l => simp [fillA] at h
    | tu l => simp [fillA] at h
    | un => simp [fillA] at h
theorem zip_map {α β γ : Type} (f : β → γ) : ∀ (l : List (α × β)), (l.map (·.1)).zip ((l.map (·.2)).map f) = l.map fun (i, x) => (i, f x)
  | [] => rfl
  | (i, x) :: l => by simp only [List.map_cons, List.zip_cons_cons, zip_map f l]
theorem build_ok (ht : TauOk P tau) {o : Oper} {t : TypeId} {ps : Array (Nat × Operand)} (ho : o.op = .build t ps) {args : List AV} {bl : List (Nat × Blk)} {d : Dl} {O : List Prop} (h : effBuild tau t (ps.toList.map (·.1)) o.dst args = some (d, O)) :
    OpOk P o args bl { d with dst := o.dst } := by
  have parts : ∀ (ev : Operand → Value), (ps.map fun (i, x) => (i, ev x)).toList = (ps.toList.map (·.1)).zip ((ps.toList.map (·.2)).map ev) := by
    intro ev; rw [zip_map]; simp
  have opnds : ∀ (ev : Operand → Value), o.op.operands.toList.map ev = (ps.toList.map (·.2)).map ev := by
    intro ev; rw [ho]; simp [Op.operands]
  unfold effBuild at h
  split at h
  · rename_i l fs hz hu
    split at h
    · rename_i l' hk hfill
      cases h
      refine OpOk_pure (fun E W ev hR => ?_)
      rw [opnds] at hR
      obtain ⟨i, v, us, h1, h2, h3, h4⟩ := ht.zero _ _ hz
      have hpr := places_run ht W fs.toList hk
      have hpr' : (fs.mapM fun f => do pure (f.offset, ← sizeOf f.type) : Sem (Array (Nat × Nat))).run P W = .ok (fieldPlaces tau fs.toList).toArray W := by
        rw [← Array.toArray_toList (xs := fs), List.mapM_toArray, map_eq_pure_bind, Sem.run_bind, hpr]; rfl
      obtain ⟨us', g1, g2⟩ := fillS_run tau fs.toList (E := E) (W := W) (fun i => (fieldPlaces tau fs.toList).toArray[i]?) (fun i f hf => by simpa using fieldPlaces_get tau fs.toList i f hf) _ _ _ us l l' (h4 E W) hR hfill
      refine ⟨.agg us'.toArray, ?_, us', rfl, g2⟩
      have e0 : (execOp ev o) = (do pure (.value (← Instr.build t (ps.map fun (i, x) => (i, ev x))))) := by simp only [execOp, ho]
      rw [e0]
      simp only [Instr.build, zeroValue, typeInfo, Sem.run_bind, run_program, Result.andThen_ok, h1, Sem.run_pure, h2, run_underlying (ht.und _ _ hu), h3, hpr', parts, g1]
    · cases h
  · rename_i k n ws m e hz hu
    split at h
    · rename_i hnm hs
      split at h
      · rename_i ws' hfill
        cases h
        obtain rfl := Nat.eq_of_beq_eq_true hnm
        refine OpOk_pure (fun E W ev hR => ?_)
        rw [opnds] at hR
        obtain ⟨i, v, us, h1, h2, h3, h4⟩ := ht.zero _ _ hz
        obtain ⟨j, hj1, hj2⟩ := ht.size _ _ hs
        obtain ⟨u1, u2, rfl, ⟨rfl, hlen⟩, hu2⟩ := h4 E W
        simp only [segsR] at hu2
        subst hu2
        obtain ⟨g1, g2⟩ := fillA_run (E := E) (W := W) (k := k) (n := n) (fun i => some (i * 1, 1)) (fun i => by rw [Nat.mul_one]) _ _ _ ws ws' hlen hR hfill
        refine ⟨.agg (ws'.map (Value.int k)).toArray, ?_, _, rfl, ⟨_, [], (List.append_nil _).symm, ⟨rfl, g2⟩, rfl⟩⟩
        have e0 : (execOp ev o) = (do pure (.value (← Instr.build t (ps.map fun (i, x) => (i, ev x))))) := by simp only [execOp, ho]
        rw [e0]
        simp only [Instr.build, zeroValue, typeInfo, Sem.run_bind, run_program, Result.andThen_ok, h1, Sem.run_pure, h2, run_underlying (ht.und _ _ hu), h3, sizeOf, hj1, hj2, parts, List.append_nil, g1]
      · cases h
    · cases h
  · cases h
def eff (tau : Tau) (op : Op) (dst : Option Nat) (args : List AV) (bl : List (Nat × Blk)) : Eff := match op with
  | .move _ => effMove dst args
  | .assign _ => effMove dst args
  | .pick _ _ _ => effPick dst args
  | .alloc t => effAlloc tau t dst
  | .box t _ => effBox t dst args
  | .build t ps => effBuild tau t (ps.toList.map (·.1)) dst args
  | .load t _ => effLoad tau t dst bl args
  | .store t _ _ => match dst with
    | none => effStore tau t bl args
    | some _ => none
  | .nilCheck _ => effNil dst args
  | .binOp op t x y _ => effBin tau op t (isC x || isC y) dst args
  | .unOp op _ _ => effUn op dst args
  | .convert a b _ => effConv tau a b dst args
  | .makeInterface t _ => effIface tau t dst args
  | .fieldAddr t _ f => effFieldAddr tau t f dst args
  | .field t _ f => effField tau t f dst args
  | .indexAddr t _ _ => effIndexAddr tau t dst args
  | .index t _ _ => effIndex tau t dst args
  | .extract _ i => effExtract i dst args
  | .call c => effCall tau c dst args
  | _ => none
theorem eff_ok (ht : TauOk P tau) : EffOk P (eff tau) := by
  intro o args bl d O h hO
  unfold eff at h
  split at h
  · rename_i p he; exact move_ok (.inl he) h
  · rename_i p he; exact move_ok (.inr he) h
  · rename_i he; exact pick_ok he h hO
  · rename_i he; exact alloc_ok ht he h
  · rename_i he; exact box_ok he h
  · rename_i he; exact build_ok ht he h
  · rename_i he; exact load_ok ht he h hO
  · rename_i he
    split at h
    · rename_i hd; exact store_ok ht he hd h hO
    · cases h
  · rename_i he; exact nil_ok he h
  · rename_i he; exact bin_ok ht he h hO
  · rename_i he; exact un_ok he h
  · rename_i he; exact conv_ok ht he h
  · rename_i he; exact iface_ok ht he h
  · rename_i he; exact fieldAddr_ok ht he h
  · rename_i he; exact field_ok ht he h
  · rename_i he; exact indexAddr_ok ht he h hO
  · rename_i he; exact index_ok ht he h hO
  · rename_i he; exact extract_ok he h
  · rename_i he; exact call_ok ht he h
  · cases h
end
section
variable {P : Program} {tau : Tau}
def cmOf (tau : Tau) (t : TypeId) (r : List Seg) : Option (Cm × List Seg) := match tau.size t, tau.agg t with
  | some m, some true => match splitS r m with
    | some (x, b) => some (.ag x, b)
    | none => none
  | some 1, some false => match r with
    | .one x :: b => some (.sc x, b)
    | _ => none
  | _, _ => none
theorem cmOf_part (ht : TauOk P tau) {t : TypeId} {r b : List Seg} {x : Cm} (h : cmOf tau t r = some (x, b)) {E : En} {W : World} {ur : List Value} (hr : segsR E W r ur) :
    ∃ u ux ub m, tau.size t = some m ∧ ur = ux ++ ub ∧ segsR E W b ub ∧ x.R E W u ∧ ux.length = m ∧ ∀ ua : List Value, (part t (ua ++ ur).toArray ua.length).run P W = .ok u W := by
  unfold cmOf at h
  split at h
  · rename_i m hs hag
    split at h
    · rename_i x' b' hsp
      cases h
      obtain ⟨rfl, hm⟩ := splitS_spec hsp
      obtain ⟨ux, ub, rfl, hux, hub⟩ := segsR_split hr
      obtain ⟨i, hi, hsz⟩ := ht.size _ _ hs
      have e2 : i.size = ux.length := by rw [segsR_size hux, hm, hsz]
      refine ⟨.agg ux.toArray, ux, ub, m, hs, rfl, hub, ⟨ux, rfl, hux⟩, by rw [segsR_size hux, hm], fun ua => ?_⟩
      have e3 : (ua ++ (ux ++ ub)).toArray.extract ua.length (ua.length + ux.length) = ux.toArray := by
        rw [List.extract_toArray, List.extract_eq_take_drop]
        simp
      simp only [part, Sem.run_bind, ht.isAgg hag, Result.andThen_ok, if_true, sizeOf, typeInfo, run_program, hi, Sem.run_pure, e2, e3]
    · cases h
  · rename_i hs hag
    split at h
    · rename_i x' b'
      cases h
      obtain ⟨u1, ub, rfl, ⟨u, rfl, hu⟩, hub⟩ := hr
      refine ⟨u, [u], ub, 1, hs, rfl, hub, hu, rfl, fun ua => ?_⟩
      have e3 : (ua ++ ([u] ++ ub)).toArray[ua.length]? = some u := by simp
      simp only [part, Sem.run_bind, ht.isAgg hag, Result.andThen_ok, Bool.false_eq_true, if_false, e3, Sem.run_pure]
    · cases h
  · cases h
def eqSc (tau : Tau) (t : TypeId) : Sc → Sc → Option Bool
  | .v (.int k x), .v (.int k' y) => match tau.und t, decide (k = k') with
    | some (.int _), true => some (x == y)
    | _, _ => none
  | .v (.bool x), .v (.bool y) => match tau.und t with
    | some .bool => some (x == y)
    | _ => none
  | .v (.string x), .v (.string y) => match tau.und t with
    | some .string => some (x.toList == y.toList)
    | _ => none
  | _, _ => none
def eqRow (tau : Tau) (n : Nat) (e : TypeId) : List Seg → List Seg → Option Bool
  | [.row k m ws], [.row k' m' ws'] => match tau.und e, tau.size e, tau.agg e, decide (k = k'), Nat.beq m n, Nat.beq m' n with
    | some (.int _), some 1, some false, true, true, true => some (ws == ws')
    | _, _, _, _, _, _ => none
  | _, _ => none
def eqFs (tau : Tau) (rc : TypeId → Cm → Cm → Option Bool) : Nat → List Field → List Seg → List Seg → Option Bool
  | _, [], [], [] => some true
  | off, f :: fs, l, l' => match Nat.beq f.offset off, decide (f.name = "_"), cmOf tau f.type l, cmOf tau f.type l' with
    | true, false, some (x, r), some (x', r') => match rc f.type x x', eqFs tau rc (off + (tau.size f.type).getD 0) fs r r' with
      | some a, some b => some (a && b)
      | _, _ => none
    | _, _, _, _ => none
  | _, _, _, _ => none
def eqC (tau : Tau) (ok : TypeId → Bool) : Nat → TypeId → Cm → Cm → Option Bool
  | 0, _, _, _ => none
  | f + 1, t, x, y => match x, y with
    | .sc a, .sc b => eqSc tau t a b
    | .ag l, .ag l' => match tau.und t with
      | some (.array n e) => eqRow tau n e l l'
      | some (.struct fs) => match ok t with
        | true => eqFs tau (eqC tau ok f) 0 fs.toList l l'
        | false => none
      | _ => none
    | _, _ => none
theorem eqItems_rows (d : Nat) {e : TypeId} {ke k : IntKind} (he : P.underlying e = some (.int ke)) (hp : ∀ (W : World) (cs : Array Value) (j : Nat) (v : Value), cs[j]? = some v → (part e cs j).run P W = .ok v W) (W : World) : ∀ (xs ys : List Int) (pre pre' : List Value) (j : Nat), pre.length = j → pre'.length = j → xs.length = ys.length →
    (Op.eqItems (d + 1) e 1 (pre ++ xs.map (Value.int k)).toArray (pre' ++ ys.map (Value.int k)).toArray (List.range' j xs.length)).run P W = .ok (xs == ys) W
  | [], [], _, _, _, _, _, _ => by simp [Op.eqItems]
  | [], _ :: _, _, _, _, _, _, h => by simp at h
  | _ :: _, [], _, _, _, _, _, h => by simp at h
  | x :: xs, y :: ys, pre, pre', j, h1, h2, h => by
    have ih := eqItems_rows (k := k) d he hp W xs ys (pre ++ [.int k x]) (pre' ++ [.int k y]) (j + 1) (by simp [h1]) (by simp [h2]) (by simpa using h)
    have g1 : (pre ++ (x :: xs).map (Value.int k)).toArray[j * 1]? = some (.int k x) := by rw [Nat.mul_one, ← h1]; simp
    have g2 : (pre' ++ (y :: ys).map (Value.int k)).toArray[j * 1]? = some (.int k y) := by rw [Nat.mul_one, ← h2]; simp
    have e1 : pre ++ (x :: xs).map (Value.int k) = pre ++ [.int k x] ++ xs.map (Value.int k) := by simp
    have e2 : pre' ++ (y :: ys).map (Value.int k) = pre' ++ [.int k y] ++ ys.map (Value.int k) := by simp
    rw [List.length_cons, List.range'_succ, Op.eqItems]
    simp only [Sem.run_bind, hp W _ _ _ g1, hp W _ _ _ g2, Result.andThen_ok, run_equalIn_int W d e k ke x y he]
    rw [e1, e2]
    by_cases hxy : x = y
    · subst hxy
      simp only [beq_self_eq_true, Bool.not_true, Bool.false_eq_true, if_false, ih, List.cons_beq_cons, Bool.true_and]
    · have hb : (x == y) = false := by simpa using hxy
      simp only [hb, Bool.not_false, if_true, Sem.run_pure, List.cons_beq_cons, Bool.false_and]
theorem eqSc_run (ht : TauOk P tau) {t : TypeId} {x y : Sc} {b : Bool} (h : eqSc tau t x y = some b) {E : En} {W : World} {u v : Value} (hx : x.R E W u) (hy : y.R E W v) (d : Nat) : (Op.equalIn (d + 1) t u v).run P W = .ok b W := by
  unfold eqSc at h
  split at h
  · split at h
    · rename_i hu hk
      cases h
      obtain rfl := kind_ne hk
      obtain ⟨rfl, _⟩ := hx
      obtain ⟨rfl, _⟩ := hy
      exact run_equalIn_int W d t _ _ _ _ (ht.und _ _ hu)
    · cases h
  · split at h
    · rename_i hu
      cases h
      obtain ⟨rfl, _⟩ := hx
      obtain ⟨rfl, _⟩ := hy
      exact run_equalIn_bool' W d t _ _ (ht.und _ _ hu)
    · cases h
  · split at h
    · rename_i hu
      cases h
      obtain ⟨rfl, _⟩ := hx
      obtain ⟨rfl, _⟩ := hy
      exact run_equalIn_string W d t _ _ (ht.und _ _ hu)
    · cases h
  · cases h
theorem eqFs_run (ht : TauOk P tau) {rc : TypeId → Cm → Cm → Option Bool} {d : Nat} {E : En} {W : World}
    (hrc : ∀ t x y b u v, rc t x y = some b → x.R E W u → y.R E W v → (Op.equalIn d t u v).run P W = .ok b W) : ∀ (fs : List Field) (off : Nat) (l l' : List Seg) (b : Bool) (pre pre' us us' : List Value),
    eqFs tau rc off fs l l' = some b → segsR E W l us → segsR E W l' us' → pre.length = off → pre'.length = off → (Op.eqFields d (pre ++ us).toArray (pre' ++ us').toArray fs).run P W = .ok b W
  | [], off, [], [], b, pre, pre', us, us', h, _, _, _, _ => by cases h; simp [Op.eqFields]
  | [], off, [], _ :: _, b, pre, pre', us, us', h, _, _, _, _ => by simp [eqFs] at h
  | [], off, _ :: _, _, b, pre, pre', us, us', h, _, _, _, _ => by simp [eqFs] at h
  | f :: fs, off, l, l', b, pre, pre', us, us', h, hl, hl', hp, hp' => by
    simp only [eqFs] at h
    split at h
    · rename_i x r x' r' hoff hnm hc hc'
      split at h
      · rename_i b1 b2 h1 h2
        cases h
        obtain ⟨u, ux, ub, m, hs, rfl, hub, hu, hm, hpart⟩ := cmOf_part ht hc hl
        obtain ⟨v, vx, vb, m', hs', rfl, hvb, hv, hm', hpart'⟩ := cmOf_part ht hc' hl'
        have hoff := Nat.eq_of_beq_eq_true hoff
        have hnm : f.name ≠ "_" := of_decide_eq_false hnm
        rw [hs] at hs'; cases hs'
        have ih := eqFs_run ht hrc fs (off + m) r r' b2 (pre ++ ux) (pre' ++ vx) ub vb (by rw [← h2, hs]; rfl) hub hvb (by simp [hp, hm]) (by simp [hp', hm'])
        have e1 := hpart pre
        have e2 := hpart' pre'
        rw [hp, ← hoff] at e1
        rw [hp', ← hoff] at e2
        simp only [Op.eqFields, hnm, ne_eq, not_false_eq_true, if_true, Sem.run_bind, e1, e2, Result.andThen_ok, hrc _ _ _ _ _ _ h1 hu hv]
        cases b1 with
        | false => simp
        | true => simpa using ih
      · cases h
    · cases h
structure OkOk (P : Program) (ok : TypeId → Bool) : Prop where
  held : ∀ t, ok t = true → P.stoodInHeld t = false
theorem eqC_run (ht : TauOk P tau) {ok : TypeId → Bool} (hok : OkOk P ok) {E : En} {W : World} : ∀ (fu : Nat) (d : Nat) (t : TypeId) (x y : Cm) (b : Bool) (u v : Value), eqC tau ok fu t x y = some b → x.R E W u → y.R E W v → (Op.equalIn (d + 1 + fu) t u v).run P W = .ok b W
  | 0, _, _, _, _, _, _, _, h, _, _ => by simp [eqC] at h
  | fu + 1, d, t, x, y, b, u, v, h, hx, hy => by
    simp only [eqC] at h
    split at h
    · exact eqSc_run ht h hx hy (d + 1 + fu)
    · obtain ⟨us, rfl, hus⟩ := hx
      obtain ⟨vs, rfl, hvs⟩ := hy
      split at h
      · rename_i n e hu
        unfold eqRow at h
        split at h
        · rename_i k m ws k' m' ws'
          split at h
          · rename_i ke hue hse hag hk hm hm'
            cases h
            obtain rfl := kind_ne hk
            obtain ⟨i, hi, hsz⟩ := ht.size _ _ hse
            obtain ⟨u1, u2, rfl, ⟨rfl, hlen⟩, hu2⟩ := hus
            obtain ⟨v1, v2, rfl, ⟨rfl, hlen'⟩, hv2⟩ := hvs
            simp only [segsR] at hu2 hv2
            subst hu2; subst hv2
            have hm := Nat.eq_of_beq_eq_true hm
            have hm' := Nat.eq_of_beq_eq_true hm'
            have hcells : P.cellsOf e = 1 := by simp [Program.cellsOf, hi, hsz]
            have hp : ∀ (W : World) (cs : Array Value) (j : Nat) (v : Value), cs[j]? = some v → (part e cs j).run P W = .ok v W := by
              intro W cs j v hv
              simp only [part, Sem.run_bind, ht.isAgg hag, Result.andThen_ok, Bool.false_eq_true, if_false, hv, Sem.run_pure]
            have := eqItems_rows (k := k) (d + fu) (ht.und _ _ hue) hp W ws ws' [] [] 0 rfl rfl (by omega)
            rw [show d + 1 + (fu + 1) = (d + fu + 1) + 1 by omega, run_equalIn_array W (d + fu + 1) _ _ (ht.und _ _ hu) hi, hcells, List.range_eq_range', ← hm, ← hlen]
            simpa using this
          · cases h
        · cases h
      · rename_i fs hu
        split at h
        · rename_i hokt
          have hf : P.fieldsOf t = fs := by simp [Program.fieldsOf, ht.und _ _ hu]
          have := eqFs_run ht (d := d + 1 + fu) (E := E) (W := W) (fun t x y b u v h hx hy => eqC_run ht hok fu d t x y b u v h hx hy) fs.toList 0 _ _ b [] [] us vs h hus hvs rfl rfl
          rw [show d + 1 + (fu + 1) = (d + 1 + fu) + 1 by omega, run_equalIn_agg W (d + 1 + fu) t _ _ (by rw [hf]; exact ht.und _ _ hu) (hok.held t hokt), hf]
          simpa using this
        · cases h
      · cases h
    · cases h
def effEq (tau : Tau) (ok gd : TypeId → Bool) (op : BinOp) (t : TypeId) (dst : Option Nat) : List AV → Eff
  | [.c (.ag l), .c (.ag l')] => match gd t, eqC tau ok 4 t (.ag l) (.ag l') with
    | true, some b => match op with
      | .eql => out dst (bv b) []
      | .neq => out dst (bv (!b)) []
      | _ => none
    | _, _ => none
  | _ => none
def effAll (tau : Tau) (ok gd : TypeId → Bool) (op : Op) (dst : Option Nat) (args : List AV) (bl : List (Nat × Blk)) : Eff := match op with
  | .binOp b t _ _ _ => match effEq tau ok gd b t dst args with
    | some r => some r
    | none => eff tau op dst args bl
  | _ => eff tau op dst args bl
theorem eq_ok (ht : TauOk P tau) {ok gd : TypeId → Bool} (hok : OkOk P ok) (hgd : ∀ t, gd t = true → P.eqGuardType P.depth t = false) {o : Oper} {op : BinOp} {t u : TypeId} {p q : Operand} (ho : o.op = .binOp op t p q u) {args : List AV} {bl : List (Nat × Blk)} {d : Dl} {O : List Prop}
    (h : effEq tau ok gd op t o.dst args = some (d, O)) : OpOk P o args bl { d with dst := o.dst } := by
  unfold effEq at h
  split at h
  · rename_i l l'
    split at h
    · rename_i b hg hb
      have key : ∀ (E : En) (W : World) (ev : Operand → Value), avsR E W [.c (.ag l), .c (.ag l')] [ev p, ev q] → ∃ xs ys, ev p = .agg xs ∧ ev q = .agg ys ∧ (Op.equalIn 10000 t (.agg xs) (.agg ys)).run P W = .ok b W := by
        intro E W ev hR
        obtain ⟨⟨us, h1, h2⟩, ⟨vs, h3, h4⟩⟩ := av2 hR
        refine ⟨us.toArray, vs.toArray, h1, h3, ?_⟩
        exact eqC_run ht hok 4 9995 t _ _ b _ _ hb ⟨us, rfl, h2⟩ ⟨vs, rfl, h4⟩
      have opnds : ∀ (ev : Operand → Value), o.op.operands.toList.map ev = [ev p, ev q] := by intro ev; rw [ho]; rfl
      split at h
      · cases h
        refine OpOk_pure (fun E W ev hR => ?_)
        rw [opnds] at hR
        obtain ⟨xs, ys, h1, h2, h3⟩ := key E W ev hR
        refine ⟨.bool b, ?_, rfl, rfl⟩
        simp only [execOp, ho, h1, h2, Sem.run_bind, run_eqGuard_agg W _ t p q xs ys (hgd t hg), Result.andThen_ok, run_eql_struct W t xs ys, h3, Sem.run_pure]
      · cases h
        refine OpOk_pure (fun E W ev hR => ?_)
        rw [opnds] at hR
        obtain ⟨xs, ys, h1, h2, h3⟩ := key E W ev hR
        refine ⟨.bool (!b), ?_, rfl, rfl⟩
        simp only [execOp, ho, h1, h2, Sem.run_bind, run_eqGuard_agg W _ t p q xs ys (hgd t hg), Result.andThen_ok, run_neq_struct W t xs ys, h3, Sem.run_pure]
      · cases h
    · cases h
  · cases h
theorem effAll_ok (ht : TauOk P tau) {ok gd : TypeId → Bool} (hok : OkOk P ok) (hgd : ∀ t, gd t = true → P.eqGuardType P.depth t = false) : EffOk P (effAll tau ok gd) := by
  intro o args bl d O h hO
  unfold effAll at h
  split at h
  · rename_i b t p q u he
    split at h
    · rename_i r hr
      cases h
      exact eq_ok ht hok hgd he hr
    · exact eff_ok ht o args bl d O h hO
  · exact eff_ok ht o args bl d O h hO
end
set_option linter.unusedSimpArgs false
section
variable {P : Program} {tau : Tau}
def effPart (tau : Tau) (t : TypeId) (dst : Option Nat) (bl : List (Nat × Blk)) : List AV → Eff
  | [.c (.sc (.p id off))] => match look bl id with
    | some (.sg _ l) => match splitS l off with
      | some (_, .row k m' ws :: _) => match tau.size t, tau.agg t with
        | some m, some true => match Nat.blt m m' with
          | true => out dst (.c (.ag [.row k m (ws.take m)])) []
          | false => none
        | _, _ => none
      | _ => none
    | _ => none
  | _ => none
theorem opPart_ok (ht : TauOk P tau) {o : Oper} {t : TypeId} {p : Operand} (ho : o.op = .load t p) {args : List AV} {bl : List (Nat × Blk)} {d : Dl} {O : List Prop} (h : effPart tau t o.dst bl args = some (d, O)) :
    OpOk P o args bl { d with dst := o.dst } := by
  unfold effPart at h
  split at h
  · rename_i id off
    split at h
    · rename_i t0 l hl
      split at h
      · rename_i a0 k m' ws b0 hsp
        obtain ⟨rfl, hoff⟩ := splitS_spec hsp
        split at h
        · rename_i m hs hag
          split at h
          · rename_i hm
            cases h
            intro C n E s a W Q hS hargs hbl _ hn _
            rw [ho] at hargs
            have hm : m < m' := by simpa [Nat.blt_eq] using hm
            have hp : a.eval p = .pointer (some ⟨E.rho id, off, none⟩) := av1 hargs
            obtain ⟨us, h1, h2⟩ := hS.blks id _ (hbl id _ (look_mem hl))
            obtain ⟨ua, ur, rfl, hua, hur⟩ := segsR_split h2
            obtain ⟨u1, ub, rfl, ⟨rfl, hlen⟩, hub⟩ := hur
            have e : ws.map (Value.int k) ++ ub = (ws.take m).map (Value.int k) ++ ((ws.drop m).map (Value.int k) ++ ub) := by
              rw [← List.append_assoc, ← List.map_append, List.take_append_drop]
            rw [e] at h1
            have hex : (execOp a.eval o).run P W = .ok (.value (.agg ((ws.take m).map (Value.int k)).toArray)) W := by
              refine exec_load ho hp ?_
              rw [show off = ua.length by rw [segsR_size hua, hoff]]
              exact run_loadVar_mid ht h1 (by rw [List.length_map, List.length_take, Nat.min_eq_left (by omega)]; exact hs) hag
            unfold Oper.wp
            rw [hex]
            refine ⟨E, hS.pure hn rfl (fun _ => ?_)⟩
            refine ⟨_, rfl, (ws.take m).map (Value.int k), [], by simp, ⟨rfl, by rw [List.length_take]; omega⟩, rfl⟩
          · cases h
        · cases h
      · cases h
    · cases h
  · cases h
def effSliceArr (tau : Tau) (t : TypeId) (dst : Option Nat) : List AV → Eff
  | [.c (.sc (.p id off))] => match tau.und t with
    | some (.array n _) => out dst (.c (.sc (.sl id off n n))) []
    | _ => none
  | [.c (.sc (.p id off)), .c (.sc (.v (.int _ h)))] => match tau.und t, decide (0 ≤ h) with
    | some (.array n e), true => match Nat.ble h.toNat n, tau.size e with
      | true, some _ => out dst (.c (.sc (.sl id off h.toNat n))) []
      | _, _ => none
    | _, _ => none
  | _ => none
theorem opSliceArr_ok (ht : TauOk P tau) {o : Oper} {t : TypeId} {p : Operand} {hi : Option Operand} (ho : o.op = .slice t p none hi none) {args : List AV} {bl : List (Nat × Blk)} {d : Dl} {O : List Prop} (hsz : ∀ n e, tau.und t = some (.array n e) → ∃ m, tau.size e = some m) (h : effSliceArr tau t o.dst args = some (d, O)) :
    OpOk P o args bl { d with dst := o.dst } := by
  unfold effSliceArr at h
  split at h
  · rename_i id off
    split at h
    · rename_i n e hu
      cases h
      refine OpOk_pure (fun E W ev hR => ?_)
      rw [ho] at hR
      obtain ⟨m, hm⟩ := hsz n e hu
      obtain ⟨i, hi', hsz'⟩ := ht.size _ _ hm
      cases hi with
      | some q => simp [Op.operands, avsR] at hR
      | none =>
        have hp : ev p = .pointer (some ⟨E.rho id, off, none⟩) := av1 hR
        refine ⟨.slice (some ⟨E.rho id, off, none⟩) n n, ?_, rfl⟩
        simp [execOp, ho, hp, Instr.sliceAt, run_underlying (ht.und _ _ hu), Instr.sureAddr, Instr.sliceBounds, run_sliceBound, sizeOf, typeInfo, hi', addr_add]
    · cases h
  · rename_i id off k hh
    split at h
    · rename_i n e hu h0
      split at h
      · rename_i m hle hm
        cases h
        refine OpOk_pure (fun E W ev hR => ?_)
        rw [ho] at hR
        obtain ⟨i, hi', hsz'⟩ := ht.size _ _ hm
        have h0 := of_decide_eq_true h0
        have hle := Nat.le_of_ble_eq_true hle
        cases hi with
        | none =>
          obtain ⟨_, _, e1, _, _, _, e2, _⟩ := hR
          simp [Op.operands] at e1
          rw [e1.2] at e2; cases e2
        | some q =>
          obtain ⟨hp, hq, _⟩ := av2 hR
          have hq : ev q = .int k hh := hq
          have hp : ev p = .pointer (some ⟨E.rho id, off, none⟩) := hp
          refine ⟨.slice (some ⟨E.rho id, off, none⟩) hh.toNat n, ?_, rfl⟩
          simp [execOp, ho, hp, hq, Instr.sliceAt, run_underlying (ht.und _ _ hu), Instr.sureAddr, Instr.sliceBounds, run_sliceBound, sizeOf, typeInfo, hi', addr_add, h0, (by omega : hh ≤ (n : Int))]
      · cases h
    · cases h
  · cases h
def effToArr (tau : Tau) (t : TypeId) (dst : Option Nat) : List AV → Eff
  | [.c (.sc (.sl id off n _))] => match tau.und t with
    | some (.array m _) => match Nat.ble m n with
      | true => out dst (.c (.sc (.p id off))) []
      | false => none
    | _ => none
  | _ => none
theorem opToArr_ok (ht : TauOk P tau) {o : Oper} {t : TypeId} {p : Operand} (ho : o.op = .sliceToArrayPointer t p) {args : List AV} {bl : List (Nat × Blk)} {d : Dl} {O : List Prop} (h : effToArr tau t o.dst args = some (d, O)) :
    OpOk P o args bl { d with dst := o.dst } := by
  unfold effToArr at h
  split at h
  · rename_i id off n c
    split at h
    · rename_i m e hu
      split at h
      · rename_i hle
        cases h
        refine OpOk_pure (fun E W ev hR => ?_)
        rw [ho] at hR
        have hp : ev p = .slice (some ⟨E.rho id, off, none⟩) n c := av1 hR
        have hle := Nat.le_of_ble_eq_true hle
        refine ⟨.pointer (some ⟨E.rho id, off, none⟩), ?_, rfl⟩
        simp [execOp, ho, hp, Instr.arrayAt, run_underlying (ht.und _ _ hu), Nat.not_lt.2 hle]
      · cases h
    · cases h
  · cases h
def effCopy (tau : Tau) (c : Call) (dst : Option Nat) (bl : List (Nat × Blk)) : List AV → Eff
  | [.c (.sc (.sl id 0 n _)), .c (.sc (.sl id2 off2 n2 _))] => match c.argTypes.toList, look bl id, look bl id2 with
    | [t, _], some (.sg t0 [.row k m ws]), some (.sg _ l2) => match tau.und t, splitS l2 off2 with
      | some (.slice e), some (_, .row k2 m2 ws2 :: _) => match tau.size e, Nat.beq m n, Nat.beq m2 n2, Nat.ble n2 n, decide (k = k2), Nat.beq id id2 with
        | some 1, true, true, true, true, false => some (⟨dst, iv .i64 (n2 : Int), some (id, .sg t0 [.row k m (ws2 ++ ws.drop n2)]), false⟩, [])
        | _, _, _, _, _, _ => none
      | _, _ => none
    | _, _, _ => none
  | _ => none
theorem opCopy_ok (ht : TauOk P tau) {o : Oper} {c : Call} (ho : o.op = .call c) (hc : c.callee = .builtin .copy) {args : List AV} {bl : List (Nat × Blk)} {d : Dl} {O : List Prop} (h : effCopy tau c o.dst bl args = some (d, O)) :
    OpOk P o args bl { d with dst := o.dst } := by
  have argsEv : ∀ (ev : Operand → Value), o.op.operands.toList.map ev = (c.args.map ev).toList := by
    intro ev
    rw [ho]
    simp [Op.operands, Call.operands, hc]
  have aEq : ∀ (ev : Operand → Value) (l : List Value), (c.args.map ev).toList = l → c.args.map ev = l.toArray := fun ev l h => by rw [← h]
  unfold effCopy at h
  split at h
  · rename_i id n cp id2 off2 n2 cp2
    split at h
    · rename_i t t' t0 k m ws t2 l2 hts hl1 hl2
      split at h
      · rename_i e a0 k2 m2 ws2 b0 hu hsp
        split at h
        · rename_i hse hm hm2 hle hk hne
          cases h
          obtain ⟨rfl, hoff⟩ := splitS_spec hsp
          obtain rfl := Nat.eq_of_beq_eq_true hm
          obtain rfl := Nat.eq_of_beq_eq_true hm2
          obtain rfl := kind_ne hk
          have hle := Nat.le_of_ble_eq_true hle
          intro C nn E s a W Q hS hargs hbl _ hn _
          rw [argsEv] at hargs
          obtain ⟨i, hi, hsz⟩ := ht.size _ _ hse
          have hargs2 : ∃ u v, (c.args.map a.eval).toList = [u, v] ∧ u = .slice (some ⟨E.rho id, 0, none⟩) m cp ∧ v = .slice (some ⟨E.rho id2, off2, none⟩) m2 cp2 := by
            obtain ⟨u, us, e1, h1, v, vs, e2, h2, h3⟩ := hargs
            have h3 : vs = [] := h3
            subst h3; subst e2
            exact ⟨u, v, e1, h1, h2⟩
          obtain ⟨u, v, e1, rfl, rfl⟩ := hargs2
          have hB := hbl id _ (look_mem hl1)
          obtain ⟨us, g1, g2⟩ := hS.blks id _ hB
          obtain ⟨ur, ub, rfl, ⟨rfl, hlen⟩, hub⟩ := g2
          have hub : ub = [] := hub
          subst hub
          obtain ⟨us2, f1, f2⟩ := hS.blks id2 _ (hbl id2 _ (look_mem hl2))
          obtain ⟨ua2, ur2, rfl, hua2, hur2⟩ := segsR_split f2
          obtain ⟨ur3, ub2, rfl, ⟨rfl, hlen2⟩, hub2⟩ := hur2
          have e5 : off2 = ua2.length := by rw [segsR_size hua2, hoff]
          have hload : (loadCells ⟨E.rho id2, off2, none⟩ (ws2.map (Value.int k)).length).run P W = .ok (ws2.map (Value.int k)).toArray W :=
            run_loadCells_list (P := P) W _ _ (fun j v hv => by
              rw [addr_add, cell_of_row W _ _ _ _ _ f1]
              simp only [List.getElem?_toArray]
              rw [e5, List.getElem?_append_right (by omega), show ua2.length + j - ua2.length = j by omega, List.getElem?_append_left (List.getElem?_eq_some_iff.1 hv).1]
              exact hv)
          have hst := run_storeCells_at P (E.rho id) 0 t0 (ws2.map (Value.int k)) 0 (ws.map (Value.int k) ++ []).toArray W g1 (by simp; omega) (by intro v hv; obtain ⟨x, _, rfl⟩ := List.mem_map.1 hv; rfl)
          have e4 : (ws.map (Value.int k) ++ []).toArray.toList.take (0 + 0) ++ ws2.map (Value.int k) ++ (ws.map (Value.int k) ++ []).toArray.toList.drop (0 + 0 + (ws2.map (Value.int k)).length) = (ws2 ++ ws.drop m2).map (Value.int k) ++ [] := by
            simp [hlen2, List.map_drop]
          rw [e4] at hst
          have hex : (execOp a.eval o).run P W = .ok (.value (.int .i64 (m2 : Int))) (W.setRow (E.rho id) ((ws2 ++ ws.drop m2).map (Value.int k) ++ []).toArray) := by
            have hts' : c.argTypes = #[t, t'] := by rw [← Array.toArray_toList (xs := c.argTypes), hts]
            rw [exec_builtin ho hc, aEq _ _ e1, hts']
            simp only [List.length_map, hlen2] at hload
            simp [builtin, Builtin.copy_, run_underlying (ht.und _ _ hu), Builtin.lenOf, Builtin.firstCells, sizeOf, typeInfo, hi, hsz, Nat.min_eq_left hle, hload, hst, goInt]
          unfold Oper.wp
          rw [hex]
          refine ⟨E, ?_⟩
          have hS1 := hS.store hB trivial g1 (B := .sg t0 [.row k m (ws2 ++ ws.drop m2)]) (fun W' hW' hk => ⟨_, hW', _, [], rfl, ⟨rfl, by simp; omega⟩, rfl⟩)
          exact hS1.pure (d := ⟨o.dst, iv .i64 (m2 : Int), none, false⟩) hn rfl (fun _ => ⟨rfl, rfl⟩)
        · cases h
      · cases h
    · cases h
  · cases h
def effI (tau : Tau) (op : Op) (dst : Option Nat) (args : List AV) (bl : List (Nat × Blk)) : Eff := match op with
  | .load t _ => effPart tau t dst bl args
  | .slice t _ none _ none => match tau.und t with
    | some (.array _ e) => match tau.size e with
      | some _ => effSliceArr tau t dst args
      | none => none
    | _ => none
  | .sliceToArrayPointer t _ => effToArr tau t dst args
  | .call c => match c.callee with
    | .builtin .copy => effCopy tau c dst bl args
    | _ => none
  | _ => none
theorem effI_ok (ht : TauOk P tau) : EffOk P (effI tau) := by
  intro o args bl d O h hO
  unfold effI at h
  split at h
  · rename_i he; exact opPart_ok ht he h
  · rename_i he
    split at h
    · rename_i hu
      split at h
      · rename_i m hm
        exact opSliceArr_ok ht he (fun n e h' => by rw [hu] at h'; cases h'; exact ⟨m, hm⟩) h
      · cases h
    · cases h
  · rename_i he; exact opToArr_ok ht he h
  · rename_i he
    split at h
    · rename_i hc; exact opCopy_ok ht he hc h
    · cases h
  · cases h
def effOr (f g : Op → Option Nat → List AV → List (Nat × Blk) → Eff) (op : Op) (dst : Option Nat) (args : List AV) (bl : List (Nat × Blk)) : Eff := match f op dst args bl with
  | some r => some r
  | none => g op dst args bl
theorem effOr_ok {f g : Op → Option Nat → List AV → List (Nat × Blk) → Eff} (hf : EffOk P f) (hg : EffOk P g) : EffOk P (effOr f g) := by
  intro o args bl d O h hO
  unfold effOr at h
  split at h
  · rename_i r hr
    cases h
    exact hf o args bl d O hr hO
  · exact hg o args bl d O h hO
end
set_option linter.unusedVariables false
section
variable {P : Program} {tau : Tau} {n : Nat}
def nilSt (id i : Nat) (t : TypeId) (k : IntKind) (ls hs : List Nat) (n : Nat) (s : St) : Option St :=
  match look s.L i, Nat.blt i n && Nat.blt id n with
  | some (.c (.sc (.v (.slice none 0 0)))), true => match s.fresh id with
    | true => some ⟨restr ((i, .c (.sc (.os id 0))) :: s.L) ls, restr ((id, .gr t k []) :: s.H) hs⟩
    | false => none
  | _, _ => none
theorem put_same {a : Act} {i : Nat} {u : Value} (h : a.tmps[i]? = some u) : a.put (some i) u = a := by
  obtain ⟨hi, rfl⟩ := Array.getElem?_eq_some_iff.1 h
  unfold Act.put
  cases a
  simp only [Act.mk.injEq, and_true]
  simp [Array.setIfInBounds, hi]
theorem entNil {id i : Nat} {t : TypeId} {k : IntKind} {ls hs : List Nat} {s s' : St} (h : nilSt id i t k ls hs n s = some s') : Ent n s s' := by
  unfold nilSt at h
  split at h
  · rename_i hl hi
    split at h
    · rename_i hf
      cases h
      intro C E a W hS
      obtain ⟨hi, hidn⟩ : i < n ∧ id < n := by simpa [Nat.blt_eq] using hi
      let E' : En := ⟨E.rho, fun j => if j = id then none else E.cap j, E.ro⟩
      obtain ⟨u, h1, h2⟩ := hS.slots i _ hl
      obtain ⟨rfl, _⟩ := h2
      have hc : E'.cap id = none := by simp [E']
      have := hS.step (E' := E') (W' := W) (d := ⟨some i, .c (.sc (.os id 0)), some (id, .gr t k []), true⟩) (u := .slice none 0 0) (by intro j hj; cases hj; exact hi)
        (fun _ => by show Sc.R E' W (.os id 0) _; simp only [Sc.R, hc]; simp)
        ⟨fun _ _ => rfl, fun j hj => by
          have : j ≠ id := by intro e; subst e; exact hj rfl rfl
          simp [E', this], fun _ h => h, fun _ _ => rfl⟩
        (fun _ j B hj => by cases hj; exact hf)
        (fun j B hj => by cases hj; simp only [Blk.R, hc])
        (fun j B hj hlv => by cases hj; simp [Blk.live, hc] at hlv)
        (fun j B hj hlv => by cases hj; simp [Blk.live, hc] at hlv)
        (fun j A hj hlv => (hS.own j A hj hlv).2) (fun _ _ _ _ _ => rfl) hS.ro rfl rfl rfl (Nat.le_refl _) (fun _ _ _ => rfl)
        (fun j B g hj hg => by cases hj; have := (hS.fix id g hg).1; omega)
      rw [show (⟨some i, AV.c (.sc (.os id 0)), some (id, .gr t k []), true⟩ : Dl).dst = some i from rfl, put_same h1] at this
      exact ⟨E', this.less (fun _ _ h => restr_look h) (fun _ _ h => restr_look h)⟩
    · cases h
  · cases h
def Elem (P : Program) (e : TypeId) (k : IntKind) : Prop := ∃ i z, P.info? e = some i ∧ i.zero = some z ∧ i.size = 1 ∧ z.cells = #[.int k 0] ∧ i.bytes ≤ 8
def offId (id : Nat) : List (Nat × AV) → List (Nat × AV)
  | [] => []
  | (i, x) :: l => match x.has id with
    | true => offId id l
    | false => (i, x) :: offId id l
def offIdH (id : Nat) : List (Nat × Blk) → List (Nat × Blk)
  | [] => []
  | (i, x) :: l => match Nat.beq i id || x.has id with
    | true => offIdH id l
    | false => (i, x) :: offIdH id l
theorem offId_has {id : Nat} : ∀ {l : List (Nat × AV)}, lHas id (offId id l) = false
  | [] => rfl
  | (i, x) :: l => by
    simp only [offId]
    split
    · exact offId_has
    · rename_i h; simp only [lHas, h, offId_has, Bool.or_self]
theorem offIdH_has {id : Nat} : ∀ {l : List (Nat × Blk)}, hHas id (offIdH id l) = false
  | [] => rfl
  | (i, x) :: l => by
    simp only [offIdH]
    split
    · exact offIdH_has
    · rename_i h; simp only [hHas, h, offIdH_has, Bool.or_self]
def keyOnce {α : Type} : List (Nat × α) → List Nat → List (Nat × α)
  | [], _ => []
  | (i, x) :: l, seen => match memN i seen with
    | true => keyOnce l seen
    | false => (i, x) :: keyOnce l (i :: seen)
theorem memN_iff {i : Nat} : ∀ {l : List Nat}, memN i l = true ↔ i ∈ l
  | [] => by simp [memN]
  | j :: l => by simp only [memN, Bool.or_eq_true, memN_iff (l := l), List.mem_cons]; rw [show (i.beq j = true) ↔ i = j from ⟨Nat.eq_of_beq_eq_true, fun h => by subst h; simp⟩]
theorem keyOnce_mem {α : Type} : ∀ {l : List (Nat × α)} {seen : List Nat} {i : Nat} {x : α}, (i, x) ∈ keyOnce l seen → i ∉ seen ∧ look l i = some x
  | [], _, _, _, h => by cases h
  | (j, y) :: l, seen, i, x, h => by
    simp only [keyOnce] at h
    split at h
    · rename_i hj
      obtain ⟨h1, h2⟩ := keyOnce_mem h
      have hj := memN_iff.1 hj
      exact ⟨h1, by rw [look_ne y l (by intro e; subst e; exact h1 hj)]; exact h2⟩
    · rename_i hj
      have hj : j ∉ seen := fun e => by rw [memN_iff.2 e] at hj; cases hj
      cases h with
      | head => exact ⟨hj, look_same ..⟩
      | tail _ h =>
        obtain ⟨h1, h2⟩ := keyOnce_mem h
        simp only [List.mem_cons, not_or] at h1
        exact ⟨h1.2, by rw [look_ne y l (fun e => h1.1 e.symm)]; exact h2⟩
theorem offId_mem {id : Nat} : ∀ {l : List (Nat × AV)} {i : Nat} {x : AV}, (i, x) ∈ offId id l → (i, x) ∈ l
  | [], _, _, h => by cases h
  | (j, y) :: l, i, x, h => by
    simp only [offId] at h
    split at h
    · exact List.mem_cons_of_mem _ (offId_mem h)
    · cases h with
      | head => exact List.mem_cons_self
      | tail _ h => exact List.mem_cons_of_mem _ (offId_mem h)
theorem offIdH_mem {id : Nat} : ∀ {l : List (Nat × Blk)} {i : Nat} {x : Blk}, (i, x) ∈ offIdH id l → (i, x) ∈ l
  | [], _, _, h => by cases h
  | (j, y) :: l, i, x, h => by
    simp only [offIdH] at h
    split at h
    · exact List.mem_cons_of_mem _ (offIdH_mem h)
    · cases h with
      | head => exact List.mem_cons_self
      | tail _ h => exact List.mem_cons_of_mem _ (offIdH_mem h)
def without (id : Nat) (s : St) : St := ⟨offId id (keyOnce s.L []), offIdH id (keyOnce s.H [])⟩
theorem without_fresh {id : Nat} {s : St} : (without id s).fresh id = true := by simp [St.fresh, without, offId_has, offIdH_has]
theorem without_L {id : Nat} {s : St} {i : Nat} {x : AV} (h : look (without id s).L i = some x) : look s.L i = some x := (keyOnce_mem (offId_mem (look_mem h))).2
theorem without_H {id : Nat} {s : St} {i : Nat} {x : Blk} (h : look (without id s).H i = some x) : look s.H i = some x := (keyOnce_mem (offIdH_mem (look_mem h))).2
def rowAt (s : St) : AV → Option (IntKind × List Int × Option Nat)
  | .c (.sc (.rs k ws)) => some (k, ws, none)
  | .c (.sc (.os id n)) => match look s.H id with
    | some (.gr _ k ws) => some (k, ws, some n)
    | _ => none
  | _ => none
def appSt (tau : Tau) (el : List (Nat × IntKind)) (o : Oper) (s : St) : Option (St × List Prop) := match o.op with
  | .call c => match c.callee, c.argTypes.toList, c.args.toList, o.dst with
    | .builtin .append, [t, t'], [.tmp x, .tmp y], some d => match Nat.beq t t', look s.L x, look s.L y, tau.und t with
      | true, some (.c (.sc (.os id m))), some B, some (.slice e) => match look s.H id, rowAt s B, look el e with
        | some (.gr te k ws), some (k2, vs, on), some k3 => match Nat.beq te e, decide (k = k2), decide (k = k3) with
          | true, true, true => some (⟨(d, .c (.sc (.os id (ws ++ vs).length))) :: (without id s).L, (id, .gr te k (ws ++ vs)) :: (without id s).H⟩,
              [m = ws.length, (match on with | none => True | some q => q = vs.length), ws.length + vs.length ≤ 17592186044416])
          | _, _, _ => none
        | _, _, _ => none
      | _, _, _, _ => none
    | _, _, _, _ => none
  | _ => none
theorem Sat.regrow {C : Cx} {E : En} {s : St} {a : Act} {W : World} (hS : Sat C n E s a W) {id d : Nat} {te : TypeId} {k : IntKind} {ws : List Int} (hd : d < n) (hH : look s.H id = some (.gr te k ws)) {v' : Value} {W' : World} {xs : List Int}
    (hv : (v' = .slice none 0 0 ∧ xs = []) ∨ ∃ g cap us, v' = .slice (some ⟨g, 0, none⟩) xs.length cap ∧ W'.heap[g]? = some (.cells (List.toArray us) te (0, 0)) ∧ us.length = cap ∧ cap ≤ maxLen ∧ xs.length ≤ cap ∧ us.take xs.length = xs.map (Value.int k) ∧ ((E.cap id ≠ none ∧ g = E.rho id) ∨ g = W.heap.size))
    (hos : W'.os = W.os) (htape : W'.tape = W.tape) (hout : W'.output = W.output) (hsz : W.heap.size ≤ W'.heap.size) (hmem : ∀ b, b < W.heap.size → ¬ (E.cap id ≠ none ∧ b = E.rho id) → W'.heap[b]? = W.heap[b]?) :
    ∃ E', Sat C n E' ⟨(d, .c (.sc (.os id xs.length))) :: (without id s).L, (id, .gr te k xs) :: (without id s).H⟩ (a.put (some d) v') W' := by
  have hS1 : Sat C n E (without id s) a W := hS.less (fun _ _ h => without_L h) (fun _ _ h => without_H h)
  have hlive : E.cap id ≠ none → (Blk.gr te k ws).live E id := fun h => h
  have hro1 : ∀ b, E.ro b → W'.heap[b]? = W.heap[b]? := fun b hb => hmem b (hS.ro b hb).1 (fun ⟨h1, h2⟩ => (hS.own id _ hH (hlive h1)).2 (h2 ▸ hb))
  have fin : ∀ (E' : En), (∀ j, j ≠ id → E'.rho j = E.rho j) → (∀ j, j ≠ id → E'.cap j = E.cap j) → (E'.ro = E.ro) → Sc.R E' W' (.os id xs.length) v' → Blk.R E' W' id (.gr te k xs) →
      (E'.cap id ≠ none → (E.cap id ≠ none ∧ E'.rho id = E.rho id) ∨ E'.rho id = W.heap.size) → Sat C n E' ⟨(d, .c (.sc (.os id xs.length))) :: (without id s).L, (id, .gr te k xs) :: (without id s).H⟩ (a.put (some d) v') W' := by
    intro E' h1 h2 h3 h4 h5 h6
    refine hS1.step (E' := E') (W' := W') (d := ⟨some d, .c (.sc (.os id xs.length)), some (id, .gr te k xs), true⟩) (by intro j hj; cases hj; exact hd) (fun _ => h4)
      ⟨fun j hj => h1 j (by intro e; subst e; exact hj rfl rfl), fun j hj => h2 j (by intro e; subst e; exact hj rfl rfl), fun b hb => by rw [h3]; exact hb, hro1⟩
      (fun _ j B hj => by cases hj; exact without_fresh) (fun j B hj => by cases hj; exact h5) ?_ ?_ ?_ ?_ ?_ hos htape hout hsz ?_ (fun j B g hj hg => by cases hj; exact ((hS.fix id g hg).2.2 _ hH).elim)
    · intro j B hj hlv; cases hj
      rw [h3]
      rcases h6 hlv with ⟨g1, g2⟩ | g
      · rw [g2]; exact hS.own id _ hH (hlive g1)
      · rw [g]; exact ⟨.inl hS.hsize, fun hb => by have := (hS.ro _ hb).1; omega⟩
    · intro j B hj hlv j' A hne hA hA'; cases hj
      rcases h6 hlv with ⟨g1, g2⟩ | g
      · rw [g2]; exact fun e => hne (hS.inj j' id A _ (without_H hA) hH hA' (hlive g1) e)
      · rw [g]; have := live_lt hS (without_H hA) hA'; omega
    · intro j A hA hlv; rw [h3]; exact (hS1.own j A hA hlv).2
    · intro j A hA hlv hne
      refine hmem _ (live_lt hS (without_H hA) hlv) (fun ⟨g1, g2⟩ => ?_)
      exact hne id _ rfl (hS.inj j id A _ (without_H hA) hH hlv (hlive g1) g2)
    · intro b hb; rw [h3] at hb; exact ⟨Nat.lt_of_lt_of_le (hS.ro b hb).1 hsz, (hS.ro b hb).2⟩
    · intro b hb hK
      refine hmem b (Nat.lt_of_lt_of_le hb hS.hsize) (fun ⟨g1, g2⟩ => ?_)
      rcases (hS.own id _ hH (hlive g1)).1 with h | h
      · omega
      · exact hK (g2 ▸ h)
  rcases hv with ⟨rfl, rfl⟩ | ⟨g, cap, us, rfl, g1, g2, g3, g4, g5, g6⟩
  · refine ⟨_, fin ⟨E.rho, fun j => if j = id then none else E.cap j, E.ro⟩ (fun _ _ => rfl) (fun j hj => by simp [hj]) rfl ?_ ?_ (fun h => by simp at h)⟩
    · simp [Sc.R]
    · simp [Blk.R]
  · refine ⟨_, fin ⟨fun j => if j = id then g else E.rho j, fun j => if j = id then some cap else E.cap j, E.ro⟩ (fun j hj => by simp [hj]) (fun j hj => by simp [hj]) rfl ?_ ?_ (fun _ => by simpa using g6)⟩
    · simp [Sc.R]
    · simp only [Blk.R, if_true]; exact ⟨us, g1, g2, g3, g4, g5⟩
theorem appT (ht : TauOk P tau) {el : List (Nat × IntKind)} (hel : ∀ e k, look el e = some k → Elem P e k) {o : Oper} {s s' : St} {O : List Prop} (h : appSt tau el o s = some (s', O)) (hO : allP O) (hn : inN n o.dst = true) : OpT P n o s s' := by
  unfold appSt at h
  split at h
  · rename_i c ho
    split at h
    · rename_i t t' x y d hc hts has hdst
      split at h
      · rename_i id m B e htt hx hy hu
        split at h
        · rename_i te k ws k2 vs on k3 hH hB he
          split at h
          · rename_i he2 hk2 hk3
            cases h
            obtain ⟨rfl, hq, hb, _⟩ := hO
            obtain rfl := Nat.eq_of_beq_eq_true htt
            obtain rfl := Nat.eq_of_beq_eq_true he2
            obtain rfl := kind_ne hk2
            obtain rfl := kind_ne hk3
            intro C E a W Q hS
            have hdn : d < n := by rw [hdst] at hn; simpa [inN, Nat.blt_eq] using hn
            obtain ⟨i, z, hi, hz, hsz, hzc, hby⟩ := hel _ _ he
            have hvx : Sc.R E W (.os id ws.length) (a.eval (.tmp x)) := evalA_R hS (x := .tmp x) hx
            have hblk := hS.blks id _ hH
            have hargs : c.args.map a.eval = #[a.eval (.tmp x), a.eval (.tmp y)] := by
              rw [← Array.toArray_toList (xs := c.args), has]; simp
            have hexec : ∀ v' W', (Builtin.append_ #[t, t] o.type #[a.eval (.tmp x), a.eval (.tmp y)]).run P W = .ok v' W' → (execOp a.eval o).run P W = .ok (.value v') W' := by
              intro v' W' hr
              have hts' : c.argTypes = #[t, t] := by rw [← Array.toArray_toList (xs := c.argTypes), hts]
              rw [exec_builtin ho hc, hargs, hts']
              simp [builtin, hr]
            have hown : W.ownsRow 0 te 1 (a.eval (.tmp x)) ws.length (ws.map (Value.int k)) := by
              refine ⟨by simp, ?_⟩
              simp only [Sc.R] at hvx
              simp only [Blk.R] at hblk
              cases hcap : E.cap id with
              | none => rw [hcap] at hvx hblk; subst hblk; exact .inl ⟨hvx.1, rfl⟩
              | some cp =>
                rw [hcap] at hvx hblk
                obtain ⟨us, g1, g2, g3, g4, g5⟩ := hblk
                exact .inr ⟨E.rho id, cp, us.toArray, hvx, Nat.zero_le _, g1, g4, g3, by simpa using g2, by simpa using g5⟩
            have hB2 : (a.eval (.tmp y) = .slice none 0 0 ∧ vs = []) ∨ ∃ b off cp, a.eval (.tmp y) = .slice (some ⟨b, off, none⟩) vs.length cp ∧ ∀ i x, vs[i]? = some x → W.cell? ⟨b, off + i, none⟩ = some (.int k x) := by
              have hvy : B.R E W (a.eval (.tmp y)) := evalA_R hS (x := .tmp y) hy
              unfold rowAt at hB
              split at hB
              · rename_i k' ws'
                cases hB
                rcases hvy with ⟨h1, h2⟩ | ⟨b, off, cp, h1, h2, h3, h4⟩
                · exact .inl ⟨h2, h1⟩
                · exact .inr ⟨b, off, cp, h1, h4⟩
              · rename_i id2 m2
                split at hB
                · rename_i t2 k' ws' hH2
                  cases hB
                  have hq : m2 = vs.length := hq
                  subst hq
                  have hblk2 := hS.blks id2 _ hH2
                  have hvy : Sc.R E W (.os id2 vs.length) (a.eval (.tmp y)) := hvy
                  simp only [Sc.R] at hvy
                  simp only [Blk.R] at hblk2
                  cases hcap : E.cap id2 with
                  | none => rw [hcap] at hvy hblk2; exact .inl ⟨hvy.1, hblk2⟩
                  | some cp =>
                    rw [hcap] at hvy hblk2
                    obtain ⟨us, g1, g2, g3, g4, g5⟩ := hblk2
                    refine .inr ⟨E.rho id2, 0, cp, hvy, fun j x hj => ?_⟩
                    have hjl : j < vs.length := (List.getElem?_eq_some_iff.1 hj).1
                    rw [cell_of_row W _ _ _ _ _ g1, List.getElem?_toArray, Nat.zero_add]
                    have h5 : (us.take vs.length)[j]? = (vs.map (Value.int k))[j]? := by rw [g5]
                    rw [List.getElem?_take, if_pos hjl, List.getElem?_map, hj] at h5
                    exact h5
                · cases hB
              · cases hB
            have done : ∀ v' W', (Builtin.append_ #[t, t] o.type #[a.eval (.tmp x), a.eval (.tmp y)]).run P W = .ok v' W' → W'.ownsRow 0 te 1 v' (ws ++ vs).length ((ws ++ vs).map (Value.int k)) → W.grownBy W' (a.eval (.tmp x)).ownBlock →
                (v'.ownBlock = (a.eval (.tmp x)).ownBlock ∨ v'.ownBlock = some W.heap.size) → o.wp P a W (fun a' W' => ∃ E', Sat C n E' ⟨(d, .c (.sc (.os id (ws ++ vs).length))) :: (without id s).L, (id, .gr te k (ws ++ vs)) :: (without id s).H⟩ a' W') Q := by
              intro v' W' hr hown' hg hbl
              have hob : (a.eval (.tmp x)).ownBlock = if E.cap id = none then none else some (E.rho id) := by
                simp only [Sc.R] at hvx
                cases hcap : E.cap id with
                | none => rw [hcap] at hvx; rw [hvx.1]; rfl
                | some cp => rw [hcap] at hvx; rw [hvx]; rfl
              unfold Oper.wp
              rw [hexec v' W' hr]
              show ∃ E', Sat C n E' _ (a.put o.dst v') W'
              rw [hdst]
              refine hS.regrow hdn hH ?_ hg.os hg.tape hg.output hg.size (fun b hb hne => hg.block b hb (fun e => hne ?_))
              · rcases hown'.2 with ⟨h1, h2⟩ | ⟨g, cap, cur, h1, _, h3, h4, h5, h6, h7⟩
                · exact .inl ⟨h1, List.length_eq_zero_iff.1 h2⟩
                · refine .inr ⟨g, cap, cur.toList, h1, by simpa using h3, by simpa using h6, h5, h4, by simpa using h7, ?_⟩
                  rw [h1, hob] at hbl
                  rcases hbl with hbl | hbl
                  · left
                    split at hbl
                    · cases hbl
                    · rename_i hcn; exact ⟨hcn, by simpa [Value.ownBlock] using hbl⟩
                  · right; simpa [Value.ownBlock] using hbl
              · rw [hob] at e
                split at e
                · cases e
                · rename_i hcn; cases e; exact ⟨hcn, rfl⟩
            rcases hB2 with ⟨h1, rfl⟩ | ⟨b, off, cp, h1, hcells⟩
            · refine done _ W (by rw [h1]; exact run_append_owned_none (w := W) 0 t o.type te i 1 (ht.und _ _ hu) hi _ _ _ hown) (by simpa using hown) ⟨rfl, rfl, rfl, Nat.le_refl _, fun _ _ _ => rfl⟩ (.inl rfl)
            · have hmx : (17592186044416 : Nat) ≤ maxLen := by simp [maxLen]
              obtain ⟨v', W', hr, ho', hg, _, hbl⟩ := run_append_own_at (P := P) W 0 t o.type te i z 1 i.bytes (ht.und _ _ hu) hi hz hsz rfl (by rw [hzc]; rfl) (by decide) _ ws.length _ hown ⟨b, off, none⟩ vs.length cp (vs.map (Value.int k)) (by simp)
                (by
                  intro j u hj
                  rw [List.getElem?_map] at hj
                  cases hv : vs[j]? with
                  | none => rw [hv] at hj; cases hj
                  | some q => rw [hv] at hj; cases hj; rw [addr_add]; exact hcells j q hv)
                (by intro u hu'; obtain ⟨q, _, rfl⟩ := List.mem_map.1 hu'; rfl) (by omega)
                (by have := Nat.mul_le_mul hb hby; omega) (Nat.zero_le _)
              rw [← h1] at hr
              exact done v' W' hr (by rw [List.length_append, List.map_append]; exact ho') hg hbl
          · cases h
        · cases h
      · cases h
    · cases h
  · cases h
theorem Sat.newOs {C : Cx} {E : En} {s : St} {a : Act} {W : World} (hS : Sat C n E s a W) {id : Nat} {e : TypeId} {k : IntKind} {xs : List Int} (hn : id < n) (hfr : s.fresh id = true) {us : List Value} (hx : us.take xs.length = xs.map (Value.int k)) (hl : xs.length ≤ us.length) (hm : us.length ≤ maxLen)
    {W1 : World} (hW : W1 = W.alloc (.cells us.toArray e)) : ∃ E', Sat C n E' (s.put ⟨some id, .c (.sc (.os id xs.length)), some (id, .gr e k xs), true⟩) (a.put (some id) (.slice (some ⟨W.heap.size, 0, none⟩) xs.length us.length)) W1 := by
  subst hW
  let E' : En := ⟨fun i => if i = id then W.heap.size else E.rho i, fun i => if i = id then some us.length else E.cap i, E.ro⟩
  have hold : ∀ b, b < W.heap.size → (W.alloc (.cells us.toArray e)).heap[b]? = W.heap[b]? := fun b hb => Below.heap_alloc W _ b hb
  have hid : E'.rho id = W.heap.size := by simp [E']
  have hic : E'.cap id = some us.length := by simp [E']
  refine ⟨E', hS.step (E' := E') (d := ⟨some id, .c (.sc (.os id xs.length)), some (id, .gr e k xs), true⟩) (by intro i hi; cases hi; exact hn) ?_ ⟨?_, ?_, fun _ h => h, fun b hb => hold b (hS.ro b hb).1⟩ ?_ ?_ ?_ ?_ ?_ ?_ ?_ rfl rfl rfl (by simp) ?_ (fun i B g hi hg => by cases hi; have := (hS.fix id g hg).1; omega)⟩
  · intro _
    show Sc.R E' (W.alloc (.cells us.toArray e)) (.os id xs.length) _
    simp only [Sc.R, hic, hid]
  · intro i hi
    have : i ≠ id := by intro e; subst e; exact hi rfl rfl
    simp [E', this]
  · intro i hi
    have : i ≠ id := by intro e; subst e; exact hi rfl rfl
    simp [E', this]
  · intro _ i B hi; cases hi; exact hfr
  · intro i B hi; cases hi
    simp only [Blk.R, hic, hid]
    exact ⟨us, heap_alloc_new W _, rfl, hm, hl, hx⟩
  · intro i B hi _; cases hi
    refine ⟨.inl (by rw [hid]; exact hS.hsize), fun h => ?_⟩
    have := (hS.ro _ h).1
    rw [hid] at this
    omega
  · intro i B hi _ j A hji hj hA he; cases hi
    have := live_lt hS hj hA
    rw [hid] at he
    omega
  · intro j A hj hl; exact (hS.own j A hj hl).2
  · intro j A hj hl _; exact hold _ (live_lt hS hj hl)
  · intro b hb; exact ⟨Nat.lt_of_lt_of_le (hS.ro b hb).1 (by simp), (hS.ro b hb).2⟩
  · intro b hb _; exact hold b (Nat.lt_of_lt_of_le hb hS.hsize)
def effBuildS (tau : Tau) (el : List (Nat × IntKind)) (t : TypeId) (len : Nat) (parts : List (Nat × Operand)) (dst : Option Nat) : List AV → Eff
  | [] => match tau.und t, len, parts, dst with
    | some (.slice e), 0, [], some d => match look el e with
      | some k => some (⟨dst, .c (.sc (.os d 0)), some (d, .gr e k []), true⟩, [])
      | none => none
    | _, _, _, _ => none
  | [.c (.sc (.v (.int k x)))] => match tau.und t, len, parts, dst with
    | some (.slice e), 1, [(0, _)], some d => match look el e with
      | some k' => match decide (k = k') with
        | true => some (⟨dst, .c (.sc (.os d 1)), some (d, .gr e k [x]), true⟩, [])
        | false => none
      | none => none
    | _, _, _, _ => none
  | _ => none
theorem buildS_ok (ht : TauOk P tau) {el : List (Nat × IntKind)} (hel : ∀ e k, look el e = some k → Elem P e k) {o : Oper} {t : TypeId} {len : Nat} {parts : Array (Nat × Operand)} (ho : o.op = .buildSlice t len parts) {args : List AV} {bl : List (Nat × Blk)} {d : Dl} {O : List Prop} (h : effBuildS tau el t len parts.toList o.dst args = some (d, O)) :
    OpOk P o args bl { d with dst := o.dst } := by
  unfold effBuildS at h
  split at h
  · split at h
    · rename_i e dd hu hparts hdst
      split at h
      · rename_i k hk
        cases h
        obtain ⟨i, z, hi, hz, hsz, hzc, hby⟩ := hel _ _ hk
        intro C nn E s a W Q hS hargs hbl hfr hn _
        have hex : (execOp a.eval o).run P W = .ok (.value (.slice (some ⟨W.heap.size, 0, none⟩) 0 0)) (W.alloc (.cells #[] e)) := by
          have hp' : parts = #[] := by rw [← Array.toArray_toList (xs := parts), hparts]
          simp [execOp, ho, hp', Instr.buildSlice, run_underlying (ht.und _ _ hu), sizeOf, typeInfo, hi, hsz, Instr.fill, newRow, show Array.range 0 = #[] from rfl]
        unfold Oper.wp
        rw [hex]
        show ∃ E', Sat C nn E' _ (a.put o.dst _) _
        rw [hdst] at hn hfr ⊢
        exact hS.newOs (xs := []) (us := []) (k := k) (e := e) (hn dd rfl) (hfr rfl dd _ rfl) rfl (Nat.le_refl _) (Nat.zero_le _) rfl
      · cases h
    · cases h
  · rename_i k x
    split at h
    · rename_i e px dd hu hparts hdst
      split at h
      · rename_i k' hk
        split at h
        · rename_i hkk
          cases h
          obtain rfl := kind_ne hkk
          obtain ⟨i, z, hi, hz, hsz, hzc, hby⟩ := hel _ _ hk
          intro C nn E s a W Q hS hargs hbl hfr hn _
          have hp' : parts = #[(0, px)] := by rw [← Array.toArray_toList (xs := parts), hparts]
          rw [ho, hp'] at hargs
          have hv : a.eval px = .int k x := (av1 hargs).1
          have hex : (execOp a.eval o).run P W = .ok (.value (.slice (some ⟨W.heap.size, 0, none⟩) 1 1)) (W.alloc (.cells #[.int k x] e)) := by
            simp [execOp, ho, hp', hv, Instr.buildSlice, run_underlying (ht.und _ _ hu), sizeOf, typeInfo, hi, hsz, Instr.fill, newRow, zeroValue, hz, hzc, show (Value.int k x).cells = #[Value.int k x] from rfl, show Array.range 1 = #[0] from rfl]
          unfold Oper.wp
          rw [hex]
          show ∃ E', Sat C nn E' _ (a.put o.dst _) _
          rw [hdst] at hn hfr ⊢
          exact hS.newOs (xs := [x]) (us := [.int k x]) (k := k) (e := e) (hn dd rfl) (hfr rfl dd _ rfl) rfl (Nat.le_refl _) (by simp [maxLen]) rfl
        · cases h
      · cases h
    · cases h
  · cases h
def strNums (s : ByteArray) : List Int := s.data.toList.map fun b => (b.toNat : Int)
theorem strNums_len (s : ByteArray) : (strNums s).length = s.size := by unfold strNums; rw [List.length_map, Array.length_toList]; rfl
def effBytes (tau : Tau) (t u : TypeId) (dst : Option Nat) (bl : List (Nat × Blk)) : List AV → Eff
  | [.c (.sc (.os id n))] => match look bl id, tau.und t, tau.und u with
    | some (.gr _ .u8 ws), some (.slice e), some .string => match tau.und e with
      | some (.int .u8) => out dst (.c (.sc (.v (.string (strOfNums ws))))) [n = ws.length]
      | _ => none
    | _, _, _ => none
  | [.c (.sc (.v (.string s)))] => match tau.und t, tau.und u with
    | some .string, some (.slice e) => match tau.und e with
      | some (.int .u8) => out dst (.c (.sc (.rs .u8 (strNums s)))) []
      | _ => none
    | _, _ => none
  | _ => none
theorem Sat.newRo {C : Cx} {E : En} {s : St} {a : Act} {W : World} (hS : Sat C n E s a W) {dst : Option Nat} {val : AV} {u : Value} {W1 : World} (hn : ∀ i, dst = some i → i < n) (hsz : W1.heap.size = W.heap.size + 1) (hold : ∀ b, b < W.heap.size → W1.heap[b]? = W.heap[b]?)
    (hos : W1.os = W.os) (htape : W1.tape = W.tape) (hout : W1.output = W.output) (hv : ∀ E' : En, E'.ro W.heap.size → val.R E' W1 u) : ∃ E', Sat C n E' (s.put ⟨dst, val, none, false⟩) (a.put dst u) W1 := by
  let E' : En := ⟨E.rho, E.cap, fun b => E.ro b ∨ b = W.heap.size⟩
  refine ⟨E', hS.step (E' := E') (W' := W1) (d := ⟨dst, val, none, false⟩) hn (fun _ => hv E' (.inr rfl)) ⟨fun _ _ => rfl, fun _ _ => rfl, fun _ h => .inl h, fun b hb => hold b (hS.ro b hb).1⟩ (by simp) (by simp) (by simp) (by simp) ?_ ?_ ?_ hos htape hout (by omega) ?_ (by simp)⟩
  · intro j A hj hl hr
    rcases hr with hr | hr
    · exact (hS.own j A hj hl).2 hr
    · have := live_lt hS hj hl; omega
  · intro j A hj hl _; exact hold _ (live_lt hS hj hl)
  · intro b hb
    rcases hb with hb | hb
    · exact ⟨by have := (hS.ro b hb).1; omega, (hS.ro b hb).2⟩
    · exact ⟨by omega, .inr (by rw [hb]; exact hS.hsize)⟩
  · intro b hb _; exact hold b (Nat.lt_of_lt_of_le hb hS.hsize)
theorem bytes_ok (ht : TauOk P tau) {o : Oper} {t u : TypeId} {p : Operand} (ho : o.op = .convert t u p) {args : List AV} {bl : List (Nat × Blk)} {d : Dl} {O : List Prop} (h : effBytes tau t u o.dst bl args = some (d, O)) (hO : allP O) :
    OpOk P o args bl { d with dst := o.dst } := by
  unfold effBytes at h
  split at h
  · rename_i id m
    split at h
    · rename_i te ws e hl ht1 hu1
      split at h
      · rename_i he
        cases h
        obtain rfl : m = ws.length := hO.1
        intro C nn E s a W Q hS hargs hbl _ hn _
        rw [ho] at hargs
        have hp : Sc.R E W (.os id ws.length) (a.eval p) := av1 hargs
        have hB := hS.blks id _ (hbl id _ (look_mem hl))
        have hex : (execOp a.eval o).run P W = .ok (.value (.string (strOfNums ws))) W := by
          simp only [Sc.R] at hp
          simp only [Blk.R] at hB
          cases hc : E.cap id with
          | none =>
            rw [hc] at hp hB
            subst hB
            simp [execOp, ho, hp.1, run_convert_bytes_nil W t e (ht.und _ _ ht1) (ht.und _ _ he) 0 0 u (ht.und _ _ hu1), strOfNums, ByteArray.empty, ByteArray.emptyWithCapacity]
            rfl
          | some cp =>
            rw [hc] at hp hB
            obtain ⟨us, g1, g2, g3, g4, g5⟩ := hB
            have hcell : ∀ i, i < ws.length → W.cell? ⟨E.rho id, 0 + i, none⟩ = some (.int .u8 (ws.getD i 0)) := by
              intro i hi
              rw [cell_of_row W _ _ _ _ _ g1, List.getElem?_toArray, Nat.zero_add]
              have h5 : (us.take ws.length)[i]? = (ws.map (Value.int .u8))[i]? := by rw [g5]
              rw [List.getElem?_take, if_pos hi] at h5
              rw [h5]; exact map_get hi
            simp [execOp, ho, hp, run_convert_bytes_arg W t e (ht.und _ _ ht1) (ht.und _ _ he) (E.rho id) 0 ws.length cp ws rfl hcell u (ht.und _ _ hu1)]
        unfold Oper.wp
        rw [hex]
        exact ⟨E, hS.pure hn rfl (fun _ => ⟨rfl, rfl⟩)⟩
      · cases h
    · cases h
  · rename_i str
    split at h
    · rename_i e ht1 hu1
      split at h
      · rename_i he
        cases h
        intro C nn E s a W Q hS hargs hbl _ hn _
        rw [ho] at hargs
        have hp : a.eval p = .string str := (av1 hargs).1
        have hex : (execOp a.eval o).run P W = .ok (.value (.slice (some ⟨W.heap.size, 0, none⟩) str.size (grownCap W str.size 0 e))) (Go.Lib.bytesWorld W e str) := by
          simp [execOp, ho, hp, Go.Lib.run_convert_string_bytes W t u e str (ht.und _ _ ht1) (ht.und _ _ hu1) (ht.und _ _ he)]
        unfold Oper.wp
        rw [hex]
        refine hS.newRo hn (Go.Lib.bytesWorld_size W e str) (fun b hb => Go.Lib.bytesWorld_at_old W e str b hb) rfl rfl rfl (fun E' hro => ?_)
        refine .inr ⟨W.heap.size, 0, grownCap W str.size 0 e, ?_, ?_, hro, fun i x hx => ?_⟩
        · rw [strNums_len]
        · rw [strNums_len]; exact grownCap_ge W str.size 0 e
        · have hi : i < str.size := by
            have := (List.getElem?_eq_some_iff.1 hx).1
            rwa [strNums_len] at this
          rw [Nat.zero_add, Go.Lib.bytesWorld_cell W e str i hi]
          simp only [strNums, List.getElem?_map] at hx
          cases hq : str.data.toList[i]? with
          | none => rw [hq] at hx; cases hx
          | some b => rw [hq] at hx; cases hx; simp [List.getD, hq]
      · cases h
    · cases h
  · cases h
def effJ (tau : Tau) (el : List (Nat × IntKind)) (op : Op) (dst : Option Nat) (args : List AV) (bl : List (Nat × Blk)) : Eff := match op with
  | .buildSlice t len parts => effBuildS tau el t len parts.toList dst args
  | .convert t u _ => effBytes tau t u dst bl args
  | _ => none
theorem effJ_ok (ht : TauOk P tau) {el : List (Nat × IntKind)} (hel : ∀ e k, look el e = some k → Elem P e k) : EffOk P (effJ tau el) := by
  intro o args bl d O h hO
  unfold effJ at h
  split at h
  · rename_i he; exact buildS_ok ht hel he h
  · rename_i he; exact bytes_ok ht he h hO
  · cases h
end
end Go.Proofs.YtbbakacfhajohaaGreat.Av

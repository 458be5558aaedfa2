/- Calls to which blocks of the caller's own are handed (slices that the callee may write, pointers to structs), and which hand blocks back. -/
import Derived.Test.YtbbakacfhajohaaAvN
namespace Go.Proofs.Ytbbakacfhajohaa.Av
set_option linter.unusedVariables false
set_option linter.unusedSimpArgs false
open Go.RowKit

/-! ### Blocks under other names -/
def En.via (E : En) (m : Nat → Nat) : En := ⟨fun i => E.rho (m i), fun i => E.cap (m i), E.ro⟩
def Sc.ren (m : Nat → Nat) : Sc → Sc
  | .p id o => .p (m id) o
  | .e id o n j => .e (m id) o n j
  | .os id n => .os (m id) n
  | .sl id o n c => .sl (m id) o n c
  | x => x
def Seg.ren (m : Nat → Nat) : Seg → Seg
  | .one s => .one (s.ren m)
  | x => x
def segsRen (m : Nat → Nat) : List Seg → List Seg
  | [] => []
  | g :: l => g.ren m :: segsRen m l
def Cm.ren (m : Nat → Nat) : Cm → Cm
  | .sc s => .sc (s.ren m)
  | .ag l => .ag (segsRen m l)
def cmsRen (m : Nat → Nat) : List Cm → List Cm
  | [] => []
  | x :: l => x.ren m :: cmsRen m l
def AV.ren (m : Nat → Nat) : AV → AV
  | .c x => .c (x.ren m)
  | .tu l => .tu (cmsRen m l)
  | .un => .un
def Blk.ren (m : Nat → Nat) : Blk → Blk
  | .sg t l => .sg t (segsRen m l)
  | x => x
section
variable {E : En} {W : World} {m : Nat → Nat}
theorem Sc.via {s : Sc} {u : Value} : s.R (E.via m) W u ↔ (s.ren m).R E W u := by cases s <;> exact Iff.rfl
theorem Seg.via {g : Seg} {us : List Value} : g.R (E.via m) W us ↔ (g.ren m).R E W us := by
  cases g with
  | one s => exact ⟨fun ⟨u, h1, h2⟩ => ⟨u, h1, Sc.via.1 h2⟩, fun ⟨u, h1, h2⟩ => ⟨u, h1, Sc.via.2 h2⟩⟩
  | row k n ws => exact Iff.rfl
theorem segs_via : ∀ {l : List Seg} {us : List Value}, segsR (E.via m) W l us ↔ segsR E W (segsRen m l) us
  | [], us => Iff.rfl
  | g :: l, us => ⟨fun ⟨a, b, h1, h2, h3⟩ => ⟨a, b, h1, Seg.via.1 h2, segs_via.1 h3⟩, fun ⟨a, b, h1, h2, h3⟩ => ⟨a, b, h1, Seg.via.2 h2, segs_via.2 h3⟩⟩
theorem Cm.via {x : Cm} {u : Value} : x.R (E.via m) W u ↔ (x.ren m).R E W u := by
  cases x with
  | sc s => exact Sc.via
  | ag l => exact ⟨fun ⟨us, h1, h2⟩ => ⟨us, h1, segs_via.1 h2⟩, fun ⟨us, h1, h2⟩ => ⟨us, h1, segs_via.2 h2⟩⟩
theorem cms_via : ∀ {l : List Cm} {us : List Value}, cmsR (E.via m) W l us ↔ cmsR E W (cmsRen m l) us
  | [], us => Iff.rfl
  | x :: l, us => ⟨fun ⟨u, v, h1, h2, h3⟩ => ⟨u, v, h1, Cm.via.1 h2, cms_via.1 h3⟩, fun ⟨u, v, h1, h2, h3⟩ => ⟨u, v, h1, Cm.via.2 h2, cms_via.2 h3⟩⟩
theorem AV.via {x : AV} {u : Value} : x.R (E.via m) W u ↔ (x.ren m).R E W u := by
  cases x with
  | c x => exact Cm.via
  | tu l => exact ⟨fun ⟨us, h1, h2⟩ => ⟨us, h1, cms_via.1 h2⟩, fun ⟨us, h1, h2⟩ => ⟨us, h1, cms_via.2 h2⟩⟩
  | un => exact Iff.rfl
theorem Blk.via {B : Blk} {i : Nat} : B.R (E.via m) W i ↔ (B.ren m).R E W (m i) := by
  cases B with
  | sg t l => exact ⟨fun ⟨us, h1, h2⟩ => ⟨us, h1, segs_via.1 h2⟩, fun ⟨us, h1, h2⟩ => ⟨us, h1, segs_via.2 h2⟩⟩
  | gr t k ws => exact Iff.rfl
  | dead => exact Iff.rfl
theorem Blk.via_live {B : Blk} {i : Nat} : B.live (E.via m) i ↔ (B.ren m).live E (m i) := by cases B <;> exact Iff.rfl
end
/-! ### What a call that is handed blocks does -/
structure Own (E : En) (W : World) (H : List (Nat × Blk)) : Prop where
  blks : ∀ i B, look H i = some B → B.R E W i
  inj : ∀ i j A B, look H i = some A → look H j = some B → A.live E i → B.live E j → E.rho i = E.rho j → i = j
  ro : ∀ i A, look H i = some A → A.live E i → ¬ E.ro (E.rho i)
/-- The block b is one of those handed over. -/
def Handed (E : En) (H : List (Nat × Blk)) (b : Nat) : Prop := ∃ i A, look H i = some A ∧ A.live E i ∧ E.rho i = b
structure MPost (E : En) (W : World) (H : List (Nat × Blk)) (res : AV) (H' : List (Nat × Blk)) (v : Value) (E' : En) (W' : World) : Prop where
  res : res.R E' W' v
  own : Own E' W' H'
  os : W'.os = W.os
  tape : W'.tape = W.tape
  output : W'.output = W.output
  size : W.heap.size ≤ W'.heap.size
  block : ∀ b, b < W.heap.size → ¬ Handed E H b → W'.heap[b]? = W.heap[b]?
  ro : ∀ b, E'.ro b → b < W'.heap.size ∧ (E.ro b ∨ Handed E H b ∨ W.heap.size ≤ b)
  from_ : ∀ i A, look H' i = some A → A.live E' i → Handed E H (E'.rho i) ∨ W.heap.size ≤ E'.rho i
  fix : ∀ i t l, look H i = some (.sg t l) → E'.rho i = E.rho i ∧ E'.cap i = E.cap i
def FnM (P : Program) (f : FuncId) (args : List Cm) (H : List (Nat × Blk)) (res : AV) (H' : List (Nat × Blk)) : Prop :=
  ∀ (E : En) (W : World) (us : List Value), (∀ b, E.ro b → b < W.heap.size) → cmsR E W args us → Own E W H →
    (callFunc f us.toArray).run P W = .ok (.enter f us.toArray) W ∧ Calls P f us.toArray W fun e W' => ∃ v, e = .returned v ∧ ∃ E', MPost E W H res H' v E' W'
theorem own_lt {E : En} {W : World} {H : List (Nat × Blk)} (h : Own E W H) {i : Nat} {A : Blk} (hi : look H i = some A) (hl : A.live E i) : E.rho i < W.heap.size := by
  have hb := h.blks i A hi
  cases A with
  | sg t l => obtain ⟨us, h1, _⟩ := hb; exact (Array.getElem?_eq_some_iff.1 h1).1
  | gr t k ws =>
    simp only [Blk.R] at hb
    cases hc : E.cap i with
    | none => simp only [Blk.live] at hl; exact absurd hc hl
    | some c => rw [hc] at hb; obtain ⟨us, h1, _⟩ := hb; exact (Array.getElem?_eq_some_iff.1 h1).1
  | dead => exact hl.elim
def keysFrom (n : Nat) : List (Nat × Blk) → Bool
  | [] => true
  | (i, _) :: l => Nat.ble n i && keysFrom n l
theorem keysFrom_look {n : Nat} : ∀ {H : List (Nat × Blk)} {i : Nat} {B : Blk}, keysFrom n H = true → look H i = some B → n ≤ i
  | [], _, _, _, h => by simp [look] at h
  | (j, C) :: l, i, B, h, hl => by
    simp only [keysFrom, Bool.and_eq_true] at h
    rw [look_cons] at hl
    split at hl
    · rename_i e; subst e; exact Nat.le_of_ble_eq_true h.1
    · exact keysFrom_look h.2 hl
def subH : List (Nat × Blk) → List (Nat × Blk) → Prop := fun H' H => ∀ i B, look H' i = some B → look H i = some B
open Classical in
/-- **A function by its abstract run, blocks handed over.** -/
theorem FnM_of_T {P : Program} {n : Nat} {tau : Tau} (ht : TauOk P tau) {f : FuncId} {fn : Func} {c : Code} {l : List ResultVar} {args : List Cm} {H H' : List (Nat × Blk)} {cs : List Cm} (hf : P.funcs[f]? = some fn) (hname : (fn.name == "runtime.NumGoroutine") = false) (hb : fn.body = some c)
    (hl : fn.results = l.toArray) (hn : fn.ntmps = n) (hargs : Nat.ble args.length n = true) (hk : keysFrom n H = true) (hT : T P n c ⟨st0 0 args, H⟩ (fun e s => (e = .r ∨ e = .n) ∧ resA tau s l = some cs ∧ subH H' s.H)) : FnM P f args H (resAV cs) H' := by
  intro E W us hro hus hO
  have hlen := cmsR_length hus
  refine ⟨?_, ?_⟩
  · have h1 : fn.name ≠ "runtime.NumGoroutine" := by simpa using hname
    simp [callFunc, hf, h1, hb]
  · refine calls_of_wp hf hb ?_
    have hle : args.length ≤ n := Nat.le_of_ble_eq_true hargs
    let C : Cx := ⟨W, fun b => E.ro b ∨ Handed E H b, Handed E H, fun i => match look H i with | some (.sg _ _) => some (E.rho i, E.cap i) | _ => none, fun b h => .inr h⟩
    have hS : Sat C n E ⟨st0 0 args, H⟩ { tmps := us.toArray ++ Array.replicate (fn.ntmps - us.toArray.size) undef, defers := [] } W := by
      refine ⟨rfl, ?_, ?_, hO.blks, hO.inj, fun i A hi hA => ⟨.inr ⟨i, A, hi, hA, rfl⟩, hO.ro i A hi hA⟩, fun b hb => ⟨hro b hb, .inl (.inl hb)⟩, rfl, rfl, rfl, Nat.le_refl _, fun _ _ _ => rfl, ?_⟩
      · simp only [Array.size_append, List.size_toArray, Array.size_replicate, hn, hlen]; omega
      · intro i x hx
        obtain ⟨u, _, hu, hR⟩ := st0_look hus hx
        refine ⟨u, ?_, hR⟩
        rw [Array.getElem?_append_left (by simpa using (List.getElem?_eq_some_iff.1 hu).1)]
        simpa using hu
      · intro i g hg
        simp only [C] at hg
        split at hg
        · rename_i t l' hli
          cases hg
          exact ⟨keysFrom_look hk hli, rfl, fun B hB => by rw [hli] at hB; cases hB; trivial⟩
        · cases hg
    refine Code.wp_mono ?_ (hT C E _ W hS)
    rintro e a' W' ⟨x, s', E', rfl, ⟨hx, hres, hsub⟩, hS'⟩
    obtain ⟨v, hv, hR⟩ := results_run ht hS' hl hres
    have post : a'.defers = [] ∧ ∃ v, (results fn a'.tmps).run P W' = .ok v W' ∧ ∃ v', Ending.returned v = .returned v' ∧ ∃ E', MPost E W H (resAV cs) H' v' E' W' :=
      ⟨hS'.defers, v, hv, v, rfl, E', hR, ⟨fun i B hi => hS'.blks i B (hsub i B hi), fun i j A B hi hj => hS'.inj i j A B (hsub i A hi) (hsub j B hj), fun i A hi hA => (hS'.own i A (hsub i A hi) hA).2⟩,
        hS'.os, hS'.tape, hS'.output, hS'.hsize, fun b hb hK => hS'.keep b hb hK, fun b hb => ⟨(hS'.ro b hb).1, by rcases (hS'.ro b hb).2 with (h | h) | h; exact .inl h; exact .inr (.inl h); exact .inr (.inr h)⟩,
        fun i A hi hA => by rcases (hS'.own i A (hsub i A hi) hA).1 with h | h; exact .inr h; exact .inl h,
        fun i t l' hi => by have := (hS'.fix i (E.rho i, E.cap i) (by simp only [C, hi])).2.1; simpa using this⟩
    rcases hx with rfl | rfl <;> exact post
/-! ### The caller's side -/
/-- The state less everything that speaks of these names. -/
def offIds : List Nat → St → St
  | [], s => s
  | i :: l, s => offIds l (without i s)
theorem offIds_L : ∀ {l : List Nat} {s : St} {i : Nat} {x : AV}, look (offIds l s).L i = some x → look s.L i = some x
  | [], _, _, _, h => h
  | j :: l, s, i, x, h => without_L (offIds_L (l := l) (s := without j s) h)
theorem offIds_H : ∀ {l : List Nat} {s : St} {i : Nat} {x : Blk}, look (offIds l s).H i = some x → look s.H i = some x
  | [], _, _, _, h => h
  | j :: l, s, i, x, h => without_H (offIds_H (l := l) (s := without j s) h)
def kH (H : List (Nat × Blk)) : List Nat := H.map (·.1)
def isSgB : Option Blk → Bool
  | some (.sg _ _) => true
  | _ => false
/-- A name is kept for pointers: a struct that is handed over and handed back. -/
def keepN (H H' : List (Nat × Blk)) (i : Nat) : Bool := isSgB (look H i) && isSgB (look H' i)
def noIds (l : List Nat) (s : St) : Bool := l.all fun i => !lHas i s.L && !hHas i s.H
def heldOk (m : Nat → Nat) (s : List (Nat × Blk)) : List (Nat × Blk) → Prop
  | [] => True
  | (i, B) :: l => look s (m i) = some (B.ren m) ∧ heldOk m s l
theorem heldOk_look {m : Nat → Nat} {s : List (Nat × Blk)} : ∀ {H : List (Nat × Blk)} {i : Nat} {B : Blk}, heldOk m s H → look H i = some B → look s (m i) = some (B.ren m)
  | [], _, _, _, h => by simp [look] at h
  | (j, C) :: l, i, B, ⟨h1, h2⟩, h => by
    rw [look_cons] at h
    split at h
    · rename_i e; subst e; cases h; exact h1
    · exact heldOk_look h2 h
/-! The names that a value speaks of. -/
def cmsIds : List Cm → List Nat
  | [] => []
  | x :: l => x.ids ++ cmsIds l
def AV.idsA : AV → List Nat
  | .c x => x.ids
  | .tu l => cmsIds l
  | .un => []
def Blk.ids : Blk → List Nat
  | .sg _ l => segsIds l
  | _ => []
theorem Sc.has_ids {s : Sc} {d : Nat} (h : s.has d = true) : d ∈ s.ids := by
  cases s <;> simp only [Sc.has] at h <;> first | (cases h; done) | (have := Nat.eq_of_beq_eq_true h; subst this; exact List.mem_singleton.2 rfl)
theorem segs_has_ids {d : Nat} : ∀ {l : List Seg}, segsHas d l = true → d ∈ segsIds l := by
  intro l
  induction l with
  | nil => intro h; cases h
  | cons g l ih =>
    intro h
    simp only [segsHas, Bool.or_eq_true] at h
    cases g with
    | one s =>
      rcases h with h | h
      · exact List.mem_append_left _ (Sc.has_ids h)
      · exact List.mem_append_right _ (ih h)
    | row k n ws =>
      rcases h with h | h
      · cases h
      · exact ih h
theorem Cm.has_ids {x : Cm} {d : Nat} (h : x.has d = true) : d ∈ x.ids := by
  cases x with
  | sc s => exact Sc.has_ids h
  | ag l => exact segs_has_ids h
theorem cms_has_ids {d : Nat} : ∀ {l : List Cm}, cmsHas d l = true → d ∈ cmsIds l := by
  intro l
  induction l with
  | nil => intro h; cases h
  | cons x l ih =>
    intro h
    simp only [cmsHas, Bool.or_eq_true] at h
    rcases h with h | h
    · exact List.mem_append_left _ (Cm.has_ids h)
    · exact List.mem_append_right _ (ih h)
theorem AV.has_ids {x : AV} {d : Nat} (h : x.has d = true) : d ∈ x.idsA := by
  cases x with
  | c x => exact Cm.has_ids h
  | tu l => exact cms_has_ids h
  | un => cases h
theorem Blk.has_ids {x : Blk} {d : Nat} (h : x.has d = true) : d ∈ x.ids := by
  cases x with
  | sg t l => exact segs_has_ids h
  | gr t k ws => cases h
  | dead => cases h
def allIn (l m : List Nat) : Bool := l.all fun i => memN i m
theorem allIn_mem {l m : List Nat} (h : allIn l m = true) {i : Nat} (hi : i ∈ l) : i ∈ m := by
  have := List.all_eq_true.1 h i hi
  exact memN_iff.1 this
theorem look_keys {α : Type} : ∀ {l : List (Nat × α)} {i : Nat} {x : α}, look l i = some x → i ∈ l.map (·.1)
  | [], _, _, h => by simp [look] at h
  | (j, y) :: l, i, x, h => by
    rw [look_cons] at h
    split at h
    · rename_i e; subst e; exact List.mem_cons_self
    · exact List.mem_cons_of_mem _ (look_keys h)
theorem keys_look {α : Type} : ∀ {l : List (Nat × α)} {i : Nat}, i ∈ l.map (·.1) → ∃ x, look l i = some x
  | [], _, h => by cases h
  | (j, y) :: l, i, h => by
    by_cases e : j = i
    · subst e; exact ⟨y, look_same ..⟩
    · rw [look_ne y l e]
      simp only [List.map_cons, List.mem_cons] at h
      exact keys_look (h.resolve_left fun h => e h.symm)
def hRen (m : Nat → Nat) (H : List (Nat × Blk)) : List (Nat × Blk) := H.map fun p => (m p.1, p.2.ren m)
/-- The callee's name for one of the caller's. -/
def inv (m : Nat → Nat) (H : List (Nat × Blk)) (c : Nat) : Option Nat := look (H.map fun p => (m p.1, p.1)) c
def distinct : List Nat → Bool
  | [] => true
  | i :: l => !memN i l && distinct l
theorem inv_of {m : Nat → Nat} : ∀ {H : List (Nat × Blk)} {i : Nat} {B : Blk}, distinct (H.map fun p => m p.1) = true → look H i = some B → inv m H (m i) = some i ∧ look (hRen m H) (m i) = some (B.ren m)
  | [], _, _, _, h => by simp [look] at h
  | (j, C) :: l, i, B, hd, h => by
    simp only [List.map_cons, distinct, Bool.and_eq_true, Bool.not_eq_true'] at hd
    unfold inv hRen
    simp only [List.map_cons]
    rw [look_cons] at h
    split at h
    · rename_i e; subst e; cases h; exact ⟨look_same .., look_same ..⟩
    · have hne : m j ≠ m i := by
        intro e
        have hm : m j ∈ l.map fun p => m p.1 := by
          have := look_keys h
          obtain ⟨p, hp, he⟩ := List.mem_map.1 this
          exact List.mem_map.2 ⟨p, hp, by rw [he, e]⟩
        rw [memN_iff.2 hm] at hd; cases hd.1
      rw [look_ne _ _ hne, look_ne _ _ hne]
      exact inv_of hd.2 h
theorem inv_some {m : Nat → Nat} : ∀ {H : List (Nat × Blk)} {c i : Nat}, inv m H c = some i → m i = c ∧ i ∈ kH H
  | [], _, _, h => by simp [inv, look] at h
  | (j, C) :: l, c, i, h => by
    unfold inv at h
    simp only [List.map_cons] at h
    rw [look_cons] at h
    split at h
    · rename_i e; cases h; exact ⟨e, List.mem_cons_self⟩
    · obtain ⟨h1, h2⟩ := inv_some (m := m) (H := l) h
      exact ⟨h1, List.mem_cons_of_mem _ h2⟩
theorem hRen_look {m : Nat → Nat} : ∀ {H : List (Nat × Blk)} {c : Nat}, (look (hRen m H) c = none ↔ inv m H c = none)
  | [], c => by simp [hRen, inv, look]
  | (j, C) :: l, c => by
    unfold hRen inv
    simp only [List.map_cons]
    rw [look_cons, look_cons]
    split
    · simp
    · exact hRen_look (m := m) (H := l)
theorem look_append {α : Type} : ∀ {l r : List (Nat × α)} {i : Nat}, look (l ++ r) i = match look l i with | some x => some x | none => look r i
  | [], _, _ => rfl
  | (j, y) :: l, r, i => by
    rw [List.cons_append, look_cons, look_cons]
    split
    · rfl
    · exact look_append
/-- The names that are not kept for pointers. -/
def offN (m : Nat → Nat) (H H' : List (Nat × Blk)) : List Nat := ((kH H ++ kH H').filter fun i => !keepN H H' i).map m
def afterM (m : Nat → Nat) (d : Nat) (res : AV) (H H' : List (Nat × Blk)) (s : St) : St :=
  ⟨(d, res.ren m) :: (offIds (offN m H H') s).L, hRen m H' ++ (offIds (offN m H H') s).H⟩
/-- The same struct stays a struct; a slice a slice; what is new has one of the call's own names. -/
def kindOk (n : Nat) (m : Nat → Nat) (H H' : List (Nat × Blk)) : Bool := (kH H').all fun i => match look H i with
  | some (.sg _ _) => isSgB (look H' i)
  | some (.gr _ _ _) => true
  | _ => Nat.blt (m i) n
theorem offIds_no : ∀ {l : List Nat} {s : St} {d : Nat}, d ∈ l → lHas d (offIds l s).L = false ∧ hHas d (offIds l s).H = false := by
  intro l
  induction l with
  | nil => intro s d h; cases h
  | cons i l ih =>
    intro s d h
    by_cases hd : d ∈ l
    · exact ih hd
    · have : d = i := by
        cases h with
        | head => rfl
        | tail _ h => exact absurd h hd
      subst this
      have hf : (without d s).fresh d = true := without_fresh
      simp only [St.fresh, Bool.and_eq_true, Bool.not_eq_true'] at hf
      have keep : ∀ (l : List Nat) (s : St), lHas d s.L = false → hHas d s.H = false → lHas d (offIds l s).L = false ∧ hHas d (offIds l s).H = false := by
        intro l
        induction l with
        | nil => intro s h1 h2; exact ⟨h1, h2⟩
        | cons j l ih2 =>
          intro s h1 h2
          refine ih2 (without j s) ?_ ?_
          · have : ∀ (l : List (Nat × AV)) (q : List Nat), lHas d l = false → lHas d (offId j (keyOnce l q)) = false := by
              intro l
              induction l with
              | nil => intro q _; rfl
              | cons p l ih3 =>
                obtain ⟨a, x⟩ := p
                intro q hl
                simp only [lHas, Bool.or_eq_false_iff] at hl
                simp only [keyOnce]
                split
                · exact ih3 q hl.2
                · simp only [offId]
                  split
                  · exact ih3 _ hl.2
                  · simp only [lHas, hl.1, ih3 _ hl.2, Bool.or_self]
            exact this s.L [] h1
          · have : ∀ (l : List (Nat × Blk)) (q : List Nat), hHas d l = false → hHas d (offIdH j (keyOnce l q)) = false := by
              intro l
              induction l with
              | nil => intro q _; rfl
              | cons p l ih3 =>
                obtain ⟨a, x⟩ := p
                intro q hl
                simp only [hHas, Bool.or_eq_false_iff] at hl
                simp only [keyOnce]
                split
                · exact ih3 q hl.2
                · simp only [offIdH]
                  split
                  · exact ih3 _ hl.2
                  · simp only [hHas, hl.1.1, hl.1.2, ih3 _ hl.2, Bool.or_self]
            exact this s.H [] h2
      exact keep l _ hf.1 hf.2
end Go.Proofs.Ytbbakacfhajohaa.Av

/- The abstract run is sound; rules for loops; a function by its abstract run; a call by what is told of its function. -/
import Derived.Test.YtbbakacfhajohaaAvC
namespace Go.Proofs.Ytbbakacfhajohaa.Av
open Go.RowKit

section
variable {P : Program} {n : Nat} {eff : Op → Option Nat → List AV → List (Nat × Blk) → Option (Dl × List Prop)}

theorem Ent.refl (s : St) : Ent n s s := fun _ E _ _ h => ⟨E, h⟩
theorem Ent.trans {s1 s2 s3 : St} (h : Ent n s1 s2) (k : Ent n s2 s3) : Ent n s1 s3 := fun C E a W hS => let ⟨E', h'⟩ := h C E a W hS; k C E' a W h'
theorem Ent.less {s s' : St} (hL : ∀ i x, look s'.L i = some x → look s.L i = some x) (hH : ∀ i x, look s'.H i = some x → look s.H i = some x) : Ent n s s' := fun _ E _ _ h => ⟨E, h.less hL hH⟩
theorem T.pre {c : Code} {s s' : St} {Q : AEx → St → Prop} (h : Ent n s s') (k : T P n c s' Q) : T P n c s Q := fun C E a W hS => let ⟨E', h'⟩ := h C E a W hS; k C E' a W h'
theorem T.mono {c : Code} {s : St} {Q Q' : AEx → St → Prop} (h : T P n c s Q) (hq : ∀ e s, Q e s → Q' e s) : T P n c s Q' := fun C E a W hS =>
  Code.wp_mono (fun _ _ _ ⟨x, s', E', he, hQ, hS'⟩ => ⟨x, s', E', he, hq x s' hQ, hS'⟩) (h C E a W hS)
theorem T.post {c : Code} {s : St} {Q Q' : AEx → St → Prop} (h : T P n c s Q) (hq : ∀ e s, Q e s → ∃ s', Q' e s' ∧ Ent n s s') : T P n c s Q' := fun C E a W hS =>
  Code.wp_mono (fun _ a' W' ⟨x, s', E', he, hQ, hS'⟩ => let ⟨s2, h2, h3⟩ := hq x s' hQ; let ⟨E2, hS2⟩ := h3 C E' a' W' hS'; ⟨x, s2, E2, he, h2, hS2⟩) (h C E a W hS)

theorem pre_sound : ∀ {r : List Orc} {s s0 : St} {r0 : List Orc} {O0 : List Prop}, pre n s r = (s0, r0, O0) → allP O0 → Ent n s s0
  | [], s, s0, r0, O0, h, _ => by cases h; exact Ent.refl s
  | .b d :: r, s, s0, r0, O0, h, _ => by cases h; exact Ent.refl s
  | .op d :: r, s, s0, r0, O0, h, _ => by cases h; exact Ent.refl s
  | .lp e s' :: r, s, s0, r0, O0, h, _ => by cases h; exact Ent.refl s
  | .rchk k s' :: r, s, s0, r0, O0, h, _ => by cases h; exact Ent.refl s
  | .rcut k ls hs :: r, s, s0, r0, O0, h, _ => by cases h; exact Ent.refl s
  | .cut ls hs :: r, s, s0, r0, O0, h, hO => (Ent.less (fun _ _ h => restr_look h) (fun _ _ h => restr_look h)).trans (pre_sound (r := r) (s := ⟨restr s.L ls, restr s.H hs⟩) h hO)
  | .chk s' :: r, s, s0, r0, O0, h, hO => by
    simp only [pre, Prod.mk.injEq] at h
    obtain ⟨rfl, rfl, rfl⟩ := h
    exact hO.1.trans (pre_sound (r := r) rfl hO.2)

theorem preR_sound {k : Nat} : ∀ {r : List Orc} {s s0 : St} {r0 : List Orc} {O0 : List Prop}, preR n k s r = (s0, r0, O0) → allP O0 → Ent n s s0
  | [], s, s0, r0, O0, h, _ => by cases h; exact Ent.refl s
  | .b d :: r, s, s0, r0, O0, h, _ => by cases h; exact Ent.refl s
  | .op d :: r, s, s0, r0, O0, h, _ => by cases h; exact Ent.refl s
  | .lp e s' :: r, s, s0, r0, O0, h, _ => by cases h; exact Ent.refl s
  | .chk s' :: r, s, s0, r0, O0, h, _ => by cases h; exact Ent.refl s
  | .cut ls hs :: r, s, s0, r0, O0, h, _ => by cases h; exact Ent.refl s
  | .rcut j ls hs :: r, s, s0, r0, O0, h, hO => by
    simp only [preR] at h
    split at h
    · exact (Ent.less (fun _ _ h => restr_look h) (fun _ _ h => restr_look h)).trans (preR_sound (r := r) (s := ⟨restr s.L ls, restr s.H hs⟩) h hO)
    · cases h; exact Ent.refl s
  | .rchk j s' :: r, s, s0, r0, O0, h, hO => by
    simp only [preR] at h
    split at h
    · simp only [Prod.mk.injEq] at h
      obtain ⟨rfl, rfl, rfl⟩ := h
      exact hO.1.trans (preR_sound (r := r) rfl hO.2)
    · cases h; exact Ent.refl s

theorem arun_sound (he : EffOk P eff) (hm : P.follows .mixedOrders = true) : ∀ (c : Code) {s : St} {r : List Orc} {e : AEx} {s' : St} {r' : List Orc} {O : List Prop},
    arun P n eff c s r = some (e, s', r', O) → allP O → T P n c s (fun x y => x = e ∧ y = s') := by
  intro c
  induction c with
  | skip => intro s r e s' r' O h _ C E a W hS; cases h; exact wp_skip ⟨.n, s, E, rfl, ⟨rfl, rfl⟩, hS⟩
  | region id ops draw =>
    intro s r e s' r' O h hO
    rcases hp : preR n id s r with ⟨s0, r0, O0⟩
    cases draw with
    | false =>
      simp only [arun, hp] at h
      split at h
      · cases h
      · rename_i s1 r1 O1 hr
        cases h
        obtain ⟨h0, h1⟩ := allP_append hO
        refine T.pre (preR_sound hp h0) (fun C E a W hS => ?_)
        exact wp_region_list (rseq_list he ops.toList s0 r0 _ _ O1 hr h1 C E a W _ hS (fun E' a' W' hS' => ⟨.n, _, E', rfl, ⟨rfl, rfl⟩, hS'⟩))
    | true =>
      simp only [arun, hp] at h
      split at h
      · cases h
      · rename_i s1 r1 O1 xs hr
        split at h
        · rename_i hord
          cases h
          obtain ⟨h0, h1⟩ := allP_append hO
          refine T.pre (preR_sound hp h0) (fun C E a W hS => ?_)
          obtain ⟨hlen, hs1, hf⟩ := rops_facts he ops.toList s0 r0 _ _ O1 xs hr h1
          refine wp_region_any hm ?_
          have hsz : (Array.replicate ops.size false).size = ops.size := Array.size_replicate
          refine any_ok (xs := xs) (s0 := s0) (by simpa using hlen) (fun i o x ho hx => hf i o x (by simpa using ho) hx) hord (C := C) (fun E' a' W' hS' => ⟨.n, _, E', rfl, ⟨rfl, hs1.symm⟩, hS'⟩) ops.size _ E a _ hsz ?_ ?_ ?_
          · unfold unl
            exact Nat.le_trans (List.length_filter_le _ _) (by simp)
          · intro j o ho hl
            have hj : j < ops.size := (Array.getElem?_eq_some_iff.1 ho).1
            simp [hj] at hl
          · have : (fun j => (Array.replicate ops.size false).getD j false) = fun _ => false := by
              funext j
              by_cases hj : j < ops.size
              · simp [hj]
              · simp [hj]
            rw [this, sift_none]
            exact hS.drew
        · cases h
  | seq x y ihx ihy =>
    intro s r e s' r' O h hO
    simp only [arun] at h
    split at h
    · rename_i s1 r1 O1 hx
      split at h
      · rename_i e2 s2 r2 O2 hy
        cases h
        obtain ⟨h0, h1⟩ := allP_append hO
        have tx := ihx hx h0
        have ty := ihy hy h1
        intro C E a W hS
        refine wp_seq (Code.wp_mono ?_ (tx C E a W hS))
        rintro e1 a1 W1 ⟨x1, s3, E1, rfl, ⟨rfl, rfl⟩, hS1⟩
        exact ty C E1 a1 W1 hS1
      · cases h
    · rename_i hne
      have tx := ihx h hO
      intro C E a W hS
      refine wp_seq (Code.wp_mono ?_ (tx C E a W hS))
      rintro e1 a1 W1 ⟨x1, s3, E1, rfl, ⟨rfl, rfl⟩, hS1⟩
      cases x1 with
      | n => exact absurd h (hne _ _ _)
      | x i => exact ⟨_, _, E1, rfl, ⟨rfl, rfl⟩, hS1⟩
      | r => exact ⟨_, _, E1, rfl, ⟨rfl, rfl⟩, hS1⟩
  | cond c x y ihx ihy =>
    intro s r e s' r' O h hO
    rcases hp : preR n 1000000 s r with ⟨s0, r0, O0⟩
    simp only [arun, hp] at h
    split at h
    · rename_i b hc
      split at h
      · rename_i r1
        split at h
        · rename_i e2 s2 r2 O2 hx
          cases h
          obtain ⟨h0, hb, h1⟩ := allP_append hO
          refine T.pre (preR_sound hp h0) (fun C E a W hS => ?_)
          obtain ⟨hc1, _⟩ := evalA_R hS hc
          rw [hb] at hc1
          exact wp_cond_true hc1 (ihx hx h1 C E a W hS)
        · cases h
      · rename_i r1
        split at h
        · rename_i e2 s2 r2 O2 hx
          cases h
          obtain ⟨h0, hb, h1⟩ := allP_append hO
          refine T.pre (preR_sound hp h0) (fun C E a W hS => ?_)
          obtain ⟨hc1, _⟩ := evalA_R hS hc
          rw [hb] at hc1
          exact wp_cond_false hc1 (ihy hx h1 C E a W hS)
        · cases h
      · cases h
    · cases h
  | block id c ih =>
    intro s r e s' r' O h hO
    simp only [arun] at h
    split at h
    · rename_i i s1 r1 O1 hx
      split at h
      · rename_i hid
        cases h
        have tx := ih hx hO
        intro C E a W hS
        refine wp_block (Code.wp_mono ?_ (tx C E a W hS))
        rintro e1 a1 W1 ⟨x1, s3, E1, rfl, ⟨rfl, rfl⟩, hS1⟩
        simp only [AEx.ex, Exit.inBlock, Nat.eq_of_beq_eq_true hid, if_true]
        exact ⟨.n, _, E1, rfl, ⟨rfl, rfl⟩, hS1⟩
      · rename_i hid
        cases h
        have tx := ih hx hO
        intro C E a W hS
        refine wp_block (Code.wp_mono ?_ (tx C E a W hS))
        rintro e1 a1 W1 ⟨x1, s3, E1, rfl, ⟨rfl, rfl⟩, hS1⟩
        have hne : i ≠ id := fun e => by subst e; simp at hid
        simp only [AEx.ex, Exit.inBlock, if_neg hne]
        exact ⟨.x i, _, E1, rfl, ⟨rfl, rfl⟩, hS1⟩
    · rename_i hne
      have tx := ih h hO
      intro C E a W hS
      refine wp_block (Code.wp_mono ?_ (tx C E a W hS))
      rintro e1 a1 W1 ⟨x1, s3, E1, rfl, ⟨rfl, rfl⟩, hS1⟩
      cases x1 with
      | n => exact ⟨_, _, E1, rfl, ⟨rfl, rfl⟩, hS1⟩
      | x i => exact absurd h (hne _ _ _ _)
      | r => exact ⟨_, _, E1, rfl, ⟨rfl, rfl⟩, hS1⟩
  | loop c ih =>
    intro s r e s' r' O h hO
    rcases hp : pre n s r with ⟨s0, r0, O0⟩
    simp only [arun, hp] at h
    split at h
    · cases h
      obtain ⟨h0, h1, _⟩ := allP_append hO
      exact T.pre (pre_sound hp h0) h1
    · cases h
  | exit id => intro s r e s' r' O h _ C E a W hS; cases h; exact wp_exit ⟨.x id, s, E, rfl, ⟨rfl, rfl⟩, hS⟩
  | ret =>
    intro s r e s' r' O h hO
    rcases hp : pre n s r with ⟨s0, r0, O0⟩
    simp only [arun, hp] at h
    cases h
    exact T.pre (pre_sound hp hO) (fun C E a W hS => wp_ret ⟨.r, _, E, rfl, ⟨rfl, rfl⟩, hS⟩)
  | _ => intro s r e s' r' O h; simp [arun] at h

theorem wp_loop_rel {c : Code} {Q : Exit → Act → World → Prop} (I : Nat → Act → World → Prop)
    (round : ∀ m a w, I m a w → c.wp P (Exit.then (fun a' w' => ∃ m', m' < m ∧ I m' a' w') Q) a w) {m : Nat} {a : Act} {w : World} (h0 : I m a w) : (Code.loop c).wp P Q a w := by
  intro b k cs
  have key : ∀ m a w, I m a w → ∃ e a' w', Q e a' w' ∧ Arrives P (lone (b.at a (.code c :: .inLoop c :: k)) cs w) b k cs e a' w' := by
    intro m
    induction m using Nat.strongRecOn with
    | _ m ih =>
      intro a w hI
      obtain ⟨e, a1, w1, hq, harr⟩ := round m a w hI b (.inLoop c :: k) cs
      cases e with
      | normal =>
        obtain ⟨m', hlt, hI1⟩ := hq
        obtain ⟨e2, a2, w2, hq2, harr2⟩ := ih m' hlt a1 w1 hI1
        exact ⟨e2, a2, w2, hq2, .of_steps (Steps.trans harr (.one step_inLoop)) harr2⟩
      | exit id => exact ⟨_, a1, w1, hq, .pass (x := .inLoop c) rfl (fun _ _ => .inl (by simp)) harr⟩
      | goto l => exact ⟨_, a1, w1, hq, .pass (x := .inLoop c) rfl (fun _ _ => .inl (by simp)) harr⟩
      | ret => exact ⟨_, a1, w1, hq, .pass (x := .inLoop c) rfl (fun _ _ => .inl (by simp)) harr⟩
      | panic ch => exact ⟨_, a1, w1, hq, .pass (x := .inLoop c) rfl (fun _ _ => .inl (by simp)) harr⟩
      | outgrown => exact ⟨_, a1, w1, hq, .pass (x := .inLoop c) rfl (fun _ _ => .inl (by simp)) harr⟩
  obtain ⟨e, a', w', hq, harr⟩ := key m a w h0
  exact ⟨e, a', w', hq, .of_steps (.one step_loop) harr⟩
/-- A loop: an invariant over a number that falls. -/
theorem T.loop {c : Code} {Q : AEx → St → Prop} (I : Nat → St → Prop) (h : ∀ m s, I m s → T P n c s (fun e s' => (e = .n ∧ ∃ m', m' < m ∧ I m' s') ∨ (e ≠ .n ∧ Q e s'))) :
    ∀ m s, I m s → T P n (.loop c) s Q := by
  intro m s hI C E a W hS
  refine wp_loop_rel (fun m a W => ∃ s E, I m s ∧ Sat C n E s a W) ?_ (m := m) ⟨s, E, hI, hS⟩
  rintro m a W ⟨s, E, hI, hS⟩
  refine Code.wp_mono ?_ (h m s hI C E a W hS)
  rintro e a' W' ⟨x, s', E', rfl, hx, hS'⟩
  cases x with
  | n =>
    rcases hx with ⟨_, m', hlt, hI'⟩ | ⟨hne, _⟩
    · exact ⟨m', hlt, s', E', hI', hS'⟩
    · exact absurd rfl hne
  | x i =>
    rcases hx with ⟨h, _⟩ | ⟨_, hQ⟩
    · cases h
    · exact ⟨.x i, s', E', rfl, hQ, hS'⟩
  | r =>
    rcases hx with ⟨h, _⟩ | ⟨_, hQ⟩
    · cases h
    · exact ⟨.r, s', E', rfl, hQ, hS'⟩

/-! ### Functions -/
theorem live_lt {C : Cx} {E : En} {s : St} {a : Act} {W : World} (hS : Sat C n E s a W) {j : Nat} {A : Blk} (hj : look s.H j = some A) (hl : A.live E j) : E.rho j < W.heap.size := by
  have hb := hS.blks j A hj
  cases A with
  | sg t l => obtain ⟨us, h1, _⟩ := hb; exact (Array.getElem?_eq_some_iff.1 h1).1
  | gr t k ws =>
    simp only [Blk.R] at hb
    cases hc : E.cap j with
    | none => exact absurd hc hl
    | some c => rw [hc] at hb; obtain ⟨us, h1, _⟩ := hb; exact (Array.getElem?_eq_some_iff.1 h1).1
  | dead => exact hl.elim
structure Pres (W W' : World) : Prop where
  os : W'.os = W.os
  tape : W'.tape = W.tape
  output : W'.output = W.output
  size : W.heap.size ≤ W'.heap.size
  block : ∀ b, b < W.heap.size → W'.heap[b]? = W.heap[b]?
/-- What a call leaves: a result that reads so; nothing old is turned. -/
def FnPost (E : En) (W : World) (res : AV) (v : Value) (W' : World) : Prop :=
  ∃ E' : En, res.R E' W' v ∧ Pres W W' ∧ ∀ b, E'.ro b → b < W'.heap.size ∧ (E.ro b ∨ W.heap.size ≤ b)
def Fn (P : Program) (f : FuncId) (args : List Cm) (res : AV) : Prop :=
  ∀ (E : En) (W : World) (us : List Value), (∀ b, E.ro b → b < W.heap.size) → cmsR E W args us →
    (∃ v, (callFunc f us.toArray).run P W = .ok (.value v) W ∧ FnPost E W res v W) ∨
    ((callFunc f us.toArray).run P W = .ok (.enter f us.toArray) W ∧ Calls P f us.toArray W fun e W' => ∃ v, e = .returned v ∧ FnPost E W res v W')

def st0 : Nat → List Cm → List (Nat × AV)
  | _, [] => []
  | k, x :: l => (k, .c x) :: st0 (k + 1) l
theorem st0_look {E : En} {W : World} : ∀ {l : List Cm} {us : List Value} {k i : Nat} {x : AV}, cmsR E W l us → look (st0 k l) i = some x → ∃ u, k ≤ i ∧ us[i - k]? = some u ∧ x.R E W u
  | [], us, k, i, x, _, h => by simp [st0, look] at h
  | y :: l, us, k, i, x, ⟨u, vs, e, h1, h2⟩, h => by
    subst e
    rw [st0, look_cons] at h
    split at h
    · rename_i hk
      subst hk; cases h
      exact ⟨u, Nat.le_refl _, by simp, h1⟩
    · obtain ⟨v, hki, hv, hR⟩ := st0_look h2 h
      refine ⟨v, by omega, ?_, hR⟩
      rw [show i - k = (i - (k + 1)) + 1 by omega]
      simpa using hv
theorem cmsR_length {E : En} {W : World} : ∀ {l : List Cm} {us : List Value}, cmsR E W l us → us.length = l.length
  | [], us, h => by simp only [cmsR] at h; subst h; rfl
  | y :: l, us, ⟨u, vs, e, h1, h2⟩ => by subst e; simp [cmsR_length h2]

/-- How the results lie at the end. -/
def resA (tau : Tau) (s : St) : List ResultVar → Option (List Cm)
  | [] => some []
  | .tmp t :: l => match look s.L t with
    | some (.c (.sc x)) => match resA tau s l with
      | some r => some (.sc x :: r)
      | none => none
    | some (.c (.ag x)) => match resA tau s l with
      | some r => some (.ag x :: r)
      | none => none
    | _ => none
  | .cell p t :: l => match look s.L p with
    | some (.c (.sc (.p id 0))) => match look s.H id with
      | some (.sg _ g) => match tau.size t, tau.agg t with
        | some m, some true => match Nat.beq (segsSize g) m with
          | true => match resA tau s l with
            | some r => some (.ag g :: r)
            | none => none
          | false => none
        | some _, some false => match g with
          | [.one x] => match resA tau s l with
            | some r => some (.sc x :: r)
            | none => none
          | _ => none
        | _, _ => none
      | _ => none
    | _ => none
def resAV : List Cm → AV
  | [x] => .c x
  | l => .tu l

structure TauOk (P : Program) (tau : Tau) : Prop where
  und : ∀ t d, tau.und t = some d → P.underlying t = some d
  size : ∀ t m, tau.size t = some m → ∃ i, P.info? t = some i ∧ i.size = m
  zero : ∀ t l, tau.zero t = some l → ∃ i v us, P.info? t = some i ∧ i.zero = some v ∧ v.cells = us.toArray ∧ ∀ E W, segsR E W l us
theorem TauOk.isAgg {tau : Tau} (h : TauOk P tau) {t : TypeId} {b : Bool} (ht : tau.agg t = some b) (W : World) : (isAgg t).run P W = .ok b W := by
  unfold Tau.agg at ht
  unfold Go.isAgg
  rw [Sem.run_bind]
  split at ht
  · rename_i d hd
    cases ht
    simp [run_underlying (h.und _ _ hd) W]
  · rename_i k e hd
    cases ht
    simp [run_underlying (h.und _ _ hd) W]
  · rename_i d h1 h2 hd
    cases ht
    rw [run_underlying (h.und _ _ hd) W]
    cases d <;> first | rfl | exact (h1 _ rfl).elim | exact (h2 _ _ rfl).elim
  · cases ht
theorem addr_add (g o j : Nat) : (⟨g, o, none⟩ : Addr).add j = ⟨g, o + j, none⟩ := by unfold Addr.add; split <;> simp_all
theorem run_loadVar_mid {tau : Tau} (h : TauOk P tau) {ty t : TypeId} {W : World} {g : Nat} {a m b : List Value} {fr : Nat × Nat} (hg : W.heap[g]? = some (.cells (a ++ (m ++ b)).toArray t fr))
    (hs : tau.size ty = some m.length) (ha : tau.agg ty = some true) : (loadVar ty ⟨g, a.length, none⟩).run P W = .ok (.agg m.toArray) W := by
  obtain ⟨i, hi, hsz⟩ := h.size _ _ hs
  have hl : (loadCells ⟨g, a.length, none⟩ m.length).run P W = .ok m.toArray W :=
    run_loadCells_list (P := P) W ⟨g, a.length, none⟩ m (fun j v hv => by
      rw [addr_add, cell_of_row W g _ _ t fr hg]
      simp only [List.getElem?_toArray]
      rw [List.getElem?_append_right (by omega), show a.length + j - a.length = j by omega]
      rw [List.getElem?_append_left (List.getElem?_eq_some_iff.1 hv).1]
      exact hv)
  simp [loadVar, Sem.run_bind, h.isAgg ha W, sizeOf, typeInfo, hi, hsz, hl]
theorem run_loadVar_one {tau : Tau} (h : TauOk P tau) {ty t : TypeId} {W : World} {g : Nat} {a b : List Value} {u : Value} {fr : Nat × Nat} (hg : W.heap[g]? = some (.cells (a ++ (u :: b)).toArray t fr))
    (ha : tau.agg ty = some false) : (loadVar ty ⟨g, a.length, none⟩).run P W = .ok u W := by
  have hc : W.cell? ⟨g, a.length, none⟩ = some u := by
    rw [cell_of_row W g _ _ t fr hg]
    simp
  simp [loadVar, Sem.run_bind, h.isAgg ha W, load, Sem.run, hc]

def rvRun (tmps : Array Value) : ResultVar → Sem Value
  | .tmp t => pure (tmps.getD t undef)
  | .cell p t => do loadVar t (← asAddr (tmps.getD p undef))
theorem resA_run {tau : Tau} (h : TauOk P tau) {C : Cx} {E : En} {s : St} {a : Act} {W : World} (hS : Sat C n E s a W) : ∀ {l : List ResultVar} {cs : List Cm}, resA tau s l = some cs →
    ∃ us, (l.mapM (rvRun a.tmps)).run P W = .ok us W ∧ cmsR E W cs us
  | [], cs, hr => by cases hr; exact ⟨[], rfl, rfl⟩
  | .tmp t :: l, cs, hr => by
    simp only [resA] at hr
    have core : ∀ (x : Cm) (r : List Cm), look s.L t = some (.c x) → resA tau s l = some r → ∃ us, ((ResultVar.tmp t :: l).mapM (rvRun a.tmps)).run P W = .ok us W ∧ cmsR E W (x :: r) us := by
      intro x r hx hr
      obtain ⟨us, h1, h2⟩ := resA_run h hS hr
      obtain ⟨u, h3, h4⟩ := hS.slots _ _ hx
      refine ⟨u :: us, ?_, ⟨u, us, rfl, h4, h2⟩⟩
      simp only [List.mapM_cons, rvRun, Sem.run_bind, Sem.run_pure, Result.andThen_ok, h1]
      simp [h3]
    split at hr
    · rename_i x hx
      split at hr
      · rename_i r hr'; cases hr; exact core _ _ hx hr'
      · cases hr
    · rename_i x hx
      split at hr
      · rename_i r hr'; cases hr; exact core _ _ hx hr'
      · cases hr
    · cases hr
  | .cell p t :: l, cs, hr => by
    simp only [resA] at hr
    split at hr
    · rename_i id hp
      split at hr
      · rename_i ty g hg
        obtain ⟨u, h3, h4⟩ := hS.slots _ _ hp
        obtain rfl := h4
        obtain ⟨gs, h5, h6⟩ := hS.blks _ _ hg
        have core : ∀ (x : Cm) (r : List Cm) (v : Value), (loadVar t ⟨E.rho id, 0, none⟩).run P W = .ok v W → x.R E W v → resA tau s l = some r → ∃ us, ((ResultVar.cell p t :: l).mapM (rvRun a.tmps)).run P W = .ok us W ∧ cmsR E W (x :: r) us := by
          intro x r v hv hx hr
          obtain ⟨us, h1, h2⟩ := resA_run h hS hr
          refine ⟨v :: us, ?_, ⟨v, us, rfl, hx, h2⟩⟩
          simp only [List.mapM_cons, rvRun, Sem.run_bind, Sem.run_pure, Result.andThen_ok, h1, Array.getD_eq_getD_getElem?, h3, Option.getD_some, asAddr, hv]
        split at hr
        · rename_i m hsz hag
          split at hr
          · rename_i hm
            split at hr
            · rename_i r hr'
              cases hr
              have hm' : gs.length = m := by rw [segsR_size h6]; exact Nat.eq_of_beq_eq_true hm
              refine core (.ag g) r (.agg gs.toArray) ?_ ⟨gs, rfl, h6⟩ hr'
              exact run_loadVar_mid (a := []) (b := []) h (by simpa using h5) (by rw [hm']; exact hsz) hag
            · cases hr
          · cases hr
        · rename_i m hsz hag
          split at hr
          · rename_i x
            split at hr
            · rename_i r hr'
              cases hr
              obtain ⟨v1, v2, e, ⟨v, rfl, hv⟩, hv2⟩ := h6
              simp only [segsR] at hv2
              subst hv2
              subst e
              refine core (.sc x) r v ?_ hv hr'
              exact run_loadVar_one (a := []) (b := []) h (by simpa using h5) hag
            · cases hr
          · cases hr
        · cases hr
      · cases hr
    · cases hr
theorem results_run {tau : Tau} (h : TauOk P tau) {C : Cx} {E : En} {s : St} {a : Act} {W : World} (hS : Sat C n E s a W) {fn : Func} {l : List ResultVar} (hl : fn.results = l.toArray) {cs : List Cm} (hr : resA tau s l = some cs) :
    ∃ v, (results fn a.tmps).run P W = .ok v W ∧ (resAV cs).R E W v := by
  obtain ⟨us, h1, h2⟩ := resA_run h hS hr
  refine ⟨if h : us.toArray.size = 1 then us.toArray[0] else .tuple us.toArray, ?_, ?_⟩
  · unfold results
    have e : (fun x : ResultVar => match x with | .tmp t => (pure (a.tmps.getD t undef) : Sem Value) | .cell p t => do loadVar t (← asAddr (a.tmps.getD p undef))) = rvRun a.tmps := by
      funext x; cases x <;> rfl
    show (do let vs ← fn.results.mapM (fun x : ResultVar => match x with | .tmp t => (pure (a.tmps.getD t undef) : Sem Value) | .cell p t => do loadVar t (← asAddr (a.tmps.getD p undef))); pure (if h : vs.size = 1 then vs[0] else .tuple vs) : Sem Value).run P W = _
    rw [e, hl, Sem.run_bind, List.mapM_toArray]
    simp only [map_eq_pure_bind, Sem.run_bind, h1, Result.andThen_ok, Sem.run_pure]
  · cases cs with
    | nil => simp only [cmsR] at h2; subst h2; exact ⟨[], rfl, rfl⟩
    | cons x cs =>
      cases cs with
      | nil =>
        obtain ⟨u, vs, rfl, hx, hv⟩ := h2
        simp only [cmsR] at hv
        subst hv
        have e : (if h : [u].toArray.size = 1 then [u].toArray[0] else Value.tuple [u].toArray) = u := by simp
        rw [e]
        exact hx
      | cons y cs =>
        have hlen := cmsR_length h2
        have : ¬ us.toArray.size = 1 := by simp [hlen]
        rw [dif_neg this]
        exact ⟨us, rfl, h2⟩

/-- **A function by its abstract run.** -/
theorem Fn_of_T {tau : Tau} (ht : TauOk P tau) {f : FuncId} {fn : Func} {c : Code} {l : List ResultVar} {args : List Cm} {cs : List Cm} (hf : P.funcs[f]? = some fn) (hname : (fn.name == "runtime.NumGoroutine") = false) (hb : fn.body = some c)
    (hl : fn.results = l.toArray) (hn : fn.ntmps = n) (hargs : Nat.ble args.length n = true) (hT : T P n c ⟨st0 0 args, []⟩ (fun e s => (e = .r ∨ e = .n) ∧ resA tau s l = some cs)) : Fn P f args (resAV cs) := by
  intro E W us hro hus
  right
  have hlen := cmsR_length hus
  refine ⟨?_, ?_⟩
  · have h1 : fn.name ≠ "runtime.NumGoroutine" := by simpa using hname
    simp [callFunc, hf, h1, hb]
  · refine calls_of_wp hf hb ?_
    have hle : args.length ≤ n := Nat.le_of_ble_eq_true hargs
    have hS : Sat (Cx.plain W E.ro) n E ⟨st0 0 args, []⟩ { tmps := us.toArray ++ Array.replicate (fn.ntmps - us.toArray.size) undef, defers := [] } W := by
      refine ⟨rfl, ?_, ?_, ?_, ?_, ?_, fun b hb => ⟨hro b hb, .inl hb⟩, rfl, rfl, rfl, Nat.le_refl _, fun _ _ _ => rfl, fun _ _ h => by cases h⟩
      · simp only [Array.size_append, List.size_toArray, Array.size_replicate, hn, hlen]; omega
      · intro i x hx
        obtain ⟨u, _, hu, hR⟩ := st0_look hus hx
        refine ⟨u, ?_, hR⟩
        rw [Array.getElem?_append_left (by simpa using (List.getElem?_eq_some_iff.1 hu).1)]
        simpa using hu
      · intro i B hB; simp [look] at hB
      · intro i j A B hA; simp [look] at hA
      · intro i A hA; simp [look] at hA
    refine Code.wp_mono ?_ (hT (Cx.plain W E.ro) E _ W hS)
    rintro e a' W' ⟨x, s', E', rfl, ⟨hx, hres⟩, hS'⟩
    obtain ⟨v, hv, hR⟩ := results_run ht hS' hl hres
    have post : a'.defers = [] ∧ ∃ v, (results fn a'.tmps).run P W' = .ok v W' ∧ ∃ v', Ending.returned v = .returned v' ∧ FnPost E W (resAV cs) v' W' :=
      ⟨hS'.defers, v, hv, v, rfl, E', hR, ⟨hS'.os, hS'.tape, hS'.output, hS'.hsize, fun b hb => hS'.keep b hb (by simp)⟩, hS'.ro⟩
    rcases hx with rfl | rfl <;> exact post

/-! ### A call -/
def cmsNo : List Cm → Prop
  | [] => True
  | x :: l => (∀ d, x.has d = false) ∧ cmsNo l
theorem cms_avs {E : En} {W : World} : ∀ {l : List Cm} {us : List Value}, avsR E W (l.map .c) us → cmsR E W l us
  | [], _, h => h
  | _ :: _, _, ⟨u, vs, e, h1, h2⟩ => ⟨u, vs, e, h1, cms_avs h2⟩
/-- **A call of a Go function.** -/
theorem OpOk_call {f : FuncId} {args : List Cm} {res : AV} (h : Fn P f args res) (hres : ∀ d, res.has d = false) {o : Oper} {c : Call} {x : Operand} (ho : o.op = .call c) (hc : c.callee = .value x) (bl : List (Nat × Blk)) :
    OpOk P o (.c (.sc (.v (.func (.func f) #[] #[]))) :: args.map .c) bl ⟨o.dst, res, none, false⟩ := by
  intro C n E s a W Q hS hargs _ _ hn _
  rw [ho] at hargs
  simp only [Op.operands, Call.operands, hc, Array.toList_append, List.singleton_append, List.map_cons] at hargs
  obtain ⟨u, us, e, ⟨hu, _⟩, hus⟩ := hargs
  simp only [List.cons.injEq] at e
  obtain ⟨hx, hus'⟩ := e
  subst hus'
  have hcs := cms_avs hus
  have hro : ∀ b, E.ro b → b < W.heap.size := fun b hb => (hS.ro b hb).1
  have hexec : (execOp a.eval o).run P W = (callFunc f ((c.args.toList.map a.eval).toArray)).run P W := by
    unfold execOp
    simp only [ho, resolve, hc, Deferred.ofValue, hx, hu, Sem.run_bind, Sem.run_pure, Result.andThen_ok, invoke]
    congr 2
    refine Array.ext' ?_
    simp
  have fin : ∀ v W', FnPost E W res v W' → ∃ E', Sat C n E' (s.put ⟨o.dst, res, none, false⟩) (a.put o.dst v) W' := by
    rintro v W' ⟨E1, hR, hP, hro1⟩
    let E' : En := ⟨E.rho, E.cap, fun b => E.ro b ∨ E1.ro b⟩
    have hmem : ∀ b, E.ro b → W'.heap[b]? = W.heap[b]? := fun b hb => hP.block b (hro b hb)
    refine ⟨E', hS.step (E' := E') (W' := W') (d := ⟨o.dst, res, none, false⟩) hn ?_ ⟨fun _ _ => rfl, fun _ _ => rfl, fun _ h => .inl h, hmem⟩ (by simp) (by simp) (by simp) (by simp) ?_ ?_ ?_ hP.os hP.tape hP.output hP.size ?_ (by simp)⟩
    · intro _
      exact AV.kept (A := fun _ => False) (E := E1) (W := W') (E' := E') (W' := W') ⟨fun _ h => h.elim, fun _ h => h.elim, fun _ h => .inr h, fun _ _ => rfl⟩ hR (fun d hd => by rw [hres d] at hd; cases hd)
    · intro j A hj hl hr
      have := hS.own j A hj hl
      rcases hr with hr | hr
      · exact this.2 hr
      · obtain ⟨h1, h2⟩ := hro1 _ hr
        rcases h2 with h2 | h2
        · exact this.2 h2
        · have hlt := live_lt hS hj hl
          omega
    · intro j A hj hl _
      exact hP.block _ (live_lt hS hj hl)
    · intro b hb
      rcases hb with hb | hb
      · exact ⟨Nat.lt_of_lt_of_le (hro b hb) hP.size, (hS.ro b hb).2⟩
      · obtain ⟨h1, h2⟩ := hro1 _ hb
        refine ⟨h1, ?_⟩
        rcases h2 with h2 | h2
        · exact (hS.ro b h2).2
        · exact .inr (Nat.le_trans hS.hsize h2)
    · intro b hb _
      exact hP.block b (Nat.lt_of_lt_of_le hb hS.hsize)
  unfold Oper.wp
  rw [hexec]
  rcases h E W _ hro hcs with ⟨v, hv, hp⟩ | ⟨hv, hp⟩
  · rw [hv]; exact fin v W hp
  · rw [hv]
    simp only [Oper.upon]
    refine hp.mono ?_
    rintro e W' ⟨v, rfl, hpost⟩
    exact fin v W' hpost
end
end Go.Proofs.Ytbbakacfhajohaa.Av
